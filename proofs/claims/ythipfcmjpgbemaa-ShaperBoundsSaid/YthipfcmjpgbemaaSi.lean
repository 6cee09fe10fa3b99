/- A row of what went out. -/
import Derived.Test.YthipfcmjpgbemaaSg
namespace Go.Proofs.Ythipfcmjpgbemaa
open Go.RowKit

/-- What went out, in new memory. -/
structure NewO (base : Nat) (w : World) (F : Nat → Prop) (v : Value) (xs : List Value) (L : List OutR) : Prop where
  row : w.ownsRow base 40 5 v L.length xs
  cs : ∀ i o, L[i]? = some o → xs[i * 5]? = some (.int .u64 o.at') ∧ xs[i * 5 + 1]? = some (.int .i64 (o.cls : Nat)) ∧ ∃ y, ItAt w F xs (i * 5 + 2) o.x y
  ge : ∀ k, F k → base ≤ k
  ft : ∀ k, F k → ∃ c, w.heap[k]? = some (.cells c 5 (0, 0))
  dj : ∀ i j yi yj, i < j → j < L.length → xs[i * 5 + 4]? = some yi → xs[j * 5 + 4]? = some yj → ∀ k, yi.ownBlock = some k → ¬ yj.ownBlock = some k

theorem NewO.keep {base : Nat} {w w' : World} {F S : Nat → Prop} {v : Value} {xs : List Value} {L : List OutR} (h : NewO base w F v xs L) (hO : Only S w w') (hF : ∀ k, F k → ¬ S k) (hv : ∀ k, v.ownBlock = some k → ¬ S k) : NewO base w' F v xs L :=
  ⟨own_only h.row hO hv, fun i x hx => let ⟨e1, e2, y, hy⟩ := h.cs i x hx; ⟨e1, e2, y, hy.keep hO hF⟩, h.ge, fun k hk => let ⟨c, hc⟩ := h.ft k hk; ⟨c, hO.keep hc (hF k hk)⟩, h.dj⟩
theorem NewO.below {base : Nat} {w w' : World} {F : Nat → Prop} {v : Value} {xs : List Value} {L : List OutR} (h : NewO base w F v xs L) (hB : Below w.heap.size w w') : NewO base w' F v xs L :=
  h.keep (Below.only hB (fun _ => False)) (fun _ _ h => h) (fun _ _ h => h)
/-- Behind a change of one block that holds something else. -/
theorem NewO.other {base : Nat} {w w' : World} {F : Nat → Prop} {v : Value} {xs : List Value} {L : List OutR} (h : NewO base w F v xs L) {b : Nat} {o : Obj} (ho : w.heap[b]? = some o) (h1 : ∀ c, o ≠ .cells c 5 (0, 0)) (h2 : ∀ c, o ≠ .cells c 40 (0, 0)) (hO : Only (· = b) w w') : NewO base w' F v xs L := by
  refine h.keep hO (fun k hk e => ?_) (fun k hk e => ?_)
  · obtain ⟨c, hc⟩ := h.ft k hk
    subst e
    rw [ho] at hc
    injection hc with hc
    exact h1 c hc
  · obtain ⟨c, hc⟩ := row_type h.row k hk
    subst e
    rw [ho] at hc
    injection hc with hc
    exact h2 c hc
theorem NewO.ne_row {base : Nat} {w : World} {F : Nat → Prop} {v : Value} {xs : List Value} {L : List OutR} (h : NewO base w F v xs L) {b : Nat} {o : Obj} (ho : w.heap[b]? = some o) (h2 : ∀ c, o ≠ .cells c 40 (0, 0)) : ¬ v.ownBlock = some b := fun e => by
  obtain ⟨c, hc⟩ := row_type h.row b e
  rw [ho] at hc
  injection hc with hc
  exact h2 c hc
/-- One more. -/
theorem NewO.snoc {base : Nat} {w w5 : World} {F : Nat → Prop} {v v2 y : Value} {xs : List Value} {L : List OutR} (h : NewO base w F v xs L) (o : OutR) (hy : Own8 w base y o.x.data) (hyF : ∀ k, y.ownBlock = some k → ¬ F k)
    (hOW : w5.ownsRow base 40 5 v2 (L.length + 1) (xs ++ [.int .u64 o.at', .int .i64 (o.cls : Nat), .int .u64 o.x.no, .int .i64 o.x.size, y])) (hG : w.grownBy w5 v.ownBlock) : NewO base w5 (fun k => F k ∨ y.ownBlock = some k) v2 (xs ++ [.int .u64 o.at', .int .i64 (o.cls : Nat), .int .u64 o.x.no, .int .i64 o.x.size, y]) (L ++ [o]) := by
  have hO : Only (fun k => v.ownBlock = some k) w w5 := (Only.refl _ _).grown hG (fun k hk _ => hk)
  have hd : ∀ k c, w.heap[k]? = some (.cells c 5 (0, 0)) → ¬ v.ownBlock = some k := fun k c hc hk => by
    obtain ⟨c', hc'⟩ := row_type h.row k hk
    rw [hc] at hc'
    injection hc' with hc'
    injection hc' with _ e _
    exact absurd e (by decide)
  have hF : ∀ k, F k → ¬ v.ownBlock = some k := fun k hk => let ⟨c, hc⟩ := h.ft k hk; hd k c hc
  have hY : ∀ k, y.ownBlock = some k → ¬ v.ownBlock = some k := fun k hk => let ⟨c, hc⟩ := row_type hy k hk; hd k c hc
  have hxl : xs.length = L.length * 5 := h.row.1
  refine ⟨by simpa using hOW, fun i z hz => ?_, ?_, ?_, ?_⟩
  · by_cases hi : i < L.length
    · rw [List.getElem?_append_left hi] at hz
      obtain ⟨e1, e2, u, hu⟩ := h.cs i z hz
      have hu' := hu.keep hO hF
      exact ⟨by rw [List.getElem?_append_left (by omega)]; exact e1, by rw [List.getElem?_append_left (by omega)]; exact e2, u, by rw [List.getElem?_append_left (by omega)]; exact hu'.c0, by rw [List.getElem?_append_left (by omega)]; exact hu'.c1, by rw [List.getElem?_append_left (by omega)]; exact hu'.c2, hu'.d, fun k hk => .inl (hu'.f k hk)⟩
    · have hin : i = L.length := by
        have := (List.getElem?_eq_some_iff.1 hz).1
        simp at this
        omega
      subst hin
      rw [List.getElem?_append_right (by omega), Nat.sub_self] at hz
      simp at hz
      subst hz
      refine ⟨?_, ?_, y, ?_, ?_, ?_, own_lower (own_only hy hO hY) (Nat.zero_le _), fun k hk => .inr hk⟩
      · rw [List.getElem?_append_right (by omega), hxl, Nat.sub_self]; rfl
      · rw [List.getElem?_append_right (by omega), hxl, show L.length * 5 + 1 - L.length * 5 = 1 by omega]; rfl
      · rw [List.getElem?_append_right (by omega), hxl, show L.length * 5 + 2 - L.length * 5 = 2 by omega]; rfl
      · rw [List.getElem?_append_right (by omega), hxl, show L.length * 5 + 2 + 1 - L.length * 5 = 3 by omega]; rfl
      · rw [List.getElem?_append_right (by omega), hxl, show L.length * 5 + 2 + 2 - L.length * 5 = 4 by omega]; rfl
  · rintro k (hk | hk)
    · exact h.ge k hk
    · exact own_ge hy k hk
  · rintro k (hk | hk)
    · obtain ⟨c, hc⟩ := h.ft k hk
      exact ⟨c, hO.keep hc (hF k hk)⟩
    · obtain ⟨c, hc⟩ := row_type hy k hk
      exact ⟨c, hO.keep hc (hY k hk)⟩
  · intro i j yi yj hij hj hi hjj k hk
    simp only [List.length_append, List.length_cons, List.length_nil] at hj
    rw [List.getElem?_append_left (by omega)] at hi
    by_cases hjl : j < L.length
    · rw [List.getElem?_append_left (by omega)] at hjj
      exact h.dj i j yi yj hij hjl hi hjj k hk
    · obtain rfl : j = L.length := by omega
      rw [List.getElem?_append_right (by omega), hxl, show L.length * 5 + 4 - L.length * 5 = 4 by omega] at hjj
      simp at hjj
      subst hjj
      obtain ⟨-, -, u, hu⟩ := h.cs i L[i] (List.getElem?_eq_getElem hij)
      have e := hu.c2
      rw [hi] at e
      injection e with e
      subst e
      exact fun e => hyF k e (hu.f k hk)
end Go.Proofs.Ythipfcmjpgbemaa
