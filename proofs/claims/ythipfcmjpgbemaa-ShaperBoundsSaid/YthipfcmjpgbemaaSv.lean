/- A row of what went out, to which rows are appended; an item as the document has it. -/
import Derived.Test.YthipfcmjpgbemaaSu
import Derived.Test.YthipfcmjpgbemaaConv8
import Derived.Laws.AppendOwnNone
namespace Go.Proofs.Ythipfcmjpgbemaa
open Go.RowKit

/-- A row of what went out. F: the blocks of the items' bytes. -/
structure GotR (w : World) (F : Nat → Prop) (v : Value) (xs : List Value) (L : List OutR) : Prop where
  row : w.ownsRow 0 40 5 v L.length xs
  cs : ∀ i o, L[i]? = some o → xs[i * 5]? = some (.int .u64 o.at') ∧ xs[i * 5 + 1]? = some (.int .i64 (o.cls : Nat)) ∧ ∃ y, ItAt w F xs (i * 5 + 2) o.x y
  ft : ∀ k, F k → ∃ c, w.heap[k]? = some (.cells c 5 (0, 0))
theorem NewO.got {base : Nat} {w : World} {F : Nat → Prop} {v : Value} {xs : List Value} {L : List OutR} (h : NewO base w F v xs L) : GotR w F v xs L :=
  ⟨own_lower h.row (Nat.zero_le _), h.cs, h.ft⟩
theorem gotR_nil (w : World) : GotR w (fun _ => False) (.slice none 0 0) [] [] :=
  ⟨⟨rfl, .inl ⟨rfl, rfl⟩⟩, fun i x hx => by simp at hx, fun _ h => h.elim⟩
section
variable {w w' : World} {F : Nat → Prop} {v : Value} {xs : List Value} {L : List OutR}
theorem GotR.keep {S : Nat → Prop} (h : GotR w F v xs L) (hO : Only S w w') (hF : ∀ k, F k → ¬ S k) (hv : ∀ k, v.ownBlock = some k → ¬ S k) : GotR w' F v xs L :=
  ⟨own_only h.row hO hv, fun i x hx => let ⟨e1, e2, y, hy⟩ := h.cs i x hx; ⟨e1, e2, y, hy.keep hO hF⟩, fun k hk => let ⟨c, hc⟩ := h.ft k hk; ⟨c, hO.keep hc (hF k hk)⟩⟩
theorem GotR.below (h : GotR w F v xs L) (hB : Below w.heap.size w w') : GotR w' F v xs L := h.keep (Below.only hB (fun _ => False)) (fun _ _ h => h) (fun _ _ h => h)
theorem GotR.len (h : GotR w F v xs L) : xs.length = L.length * 5 := h.row.1
theorem GotR.flt (h : GotR w F v xs L) {k : Nat} (hk : F k) : k < w.heap.size := let ⟨_, hc⟩ := h.ft k hk; lt_of_obj hc
theorem GotR.vlt (h : GotR w F v xs L) {k : Nat} (hk : v.ownBlock = some k) : k < w.heap.size := let ⟨_, hc⟩ := row_type h.row k hk; lt_of_obj hc
theorem GotR.one (h : GotR w F v xs L) : ∀ u ∈ xs, u.oneCell' = true := by
  intro u hu
  obtain ⟨j, hj⟩ := List.mem_iff_getElem?.1 hu
  have hjl := (List.getElem?_eq_some_iff.1 hj).1
  have hl := h.len
  obtain ⟨i, r, hr, rfl⟩ : ∃ i r, r < 5 ∧ j = i * 5 + r := ⟨j / 5, j % 5, Nat.mod_lt _ (by decide), by omega⟩
  have hi : i < L.length := by omega
  obtain ⟨e0, e1, y, hy⟩ := h.cs i L[i] (List.getElem?_eq_getElem hi)
  have e2 := hy.c0
  have e3 := hy.c1
  have e4 := hy.c2
  obtain ⟨ya, yc, ey, -⟩ := hy.d.holds
  match r, hr with
  | 0, _ => rw [show i * 5 + 0 = i * 5 by omega, e0] at hj; injection hj with hj; rw [← hj]; rfl
  | 1, _ => rw [e1] at hj; injection hj with hj; rw [← hj]; rfl
  | 2, _ => rw [e2] at hj; injection hj with hj; rw [← hj]; rfl
  | 3, _ => rw [show i * 5 + 3 = i * 5 + 2 + 1 by omega, e3] at hj; injection hj with hj; rw [← hj]; rfl
  | 4, _ => rw [show i * 5 + 4 = i * 5 + 2 + 2 by omega, e4] at hj; injection hj with hj; rw [← hj, ey]; rfl
/-- Where it lies. -/
theorem GotR.at (h : GotR w F v xs L) (h0 : 0 < L.length) : ∃ g cap, v = .slice (some ⟨g, 0, none⟩) L.length cap ∧ g < w.heap.size ∧ ∀ j u, xs[j]? = some u → w.cell? ⟨g, j, none⟩ = some u := by
  rcases h.row.2 with ⟨_, he⟩ | ⟨g, cap, cur, hv, hg, hh, hnc, hcm, hcs, hx⟩
  · omega
  · refine ⟨g, cap, hv, lt_of_obj hh, fun j u hj => ?_⟩
    refine (cell_of_block hh j).trans ?_
    rw [← hx] at hj
    have hlt : j < L.length * 5 := by
      have := (List.getElem?_eq_some_iff.1 hj).1
      rw [List.length_take] at this
      omega
    rw [List.getElem?_take_of_lt hlt] at hj
    simpa using hj
/-- One's row behind another's. -/
theorem GotR.append {w5 : World} {F2 : Nat → Prop} {v2 v3 : Value} {ys : List Value} {M : List OutR} (h : GotR w F v xs L) (k : GotR w F2 v2 ys M)
    (hOW : w5.ownsRow 0 40 5 v3 (L.length + M.length) (xs ++ ys)) (hG : w.grownBy w5 v.ownBlock) : GotR w5 (fun k => F k ∨ F2 k) v3 (xs ++ ys) (L ++ M) := by
  have hO : Only (fun k => v.ownBlock = some k) w w5 := (Only.refl _ _).grown hG (fun k hk _ => hk)
  have hd : ∀ k c, w.heap[k]? = some (.cells c 5 (0, 0)) → ¬ v.ownBlock = some k := fun k c hc hk => by
    obtain ⟨c', hc'⟩ := row_type h.row k hk
    rw [hc] at hc'
    injection hc' with hc'
    injection hc' with _ e _
    exact absurd e (by decide)
  have hF : ∀ k, F k → ¬ v.ownBlock = some k := fun k hk => let ⟨c, hc⟩ := h.ft k hk; hd k c hc
  have hF2 : ∀ j, F2 j → ¬ v.ownBlock = some j := fun j hj => let ⟨c, hc⟩ := k.ft j hj; hd j c hc
  have hxl := h.len
  refine ⟨by rw [List.length_append]; exact hOW, fun i z hz => ?_, ?_⟩
  · by_cases hi : i < L.length
    · rw [List.getElem?_append_left hi] at hz
      obtain ⟨e1, e2, u, hu⟩ := h.cs i z hz
      have hu' := hu.keep hO hF
      exact ⟨by rw [List.getElem?_append_left (by omega)]; exact e1, by rw [List.getElem?_append_left (by omega)]; exact e2, u, by rw [List.getElem?_append_left (by omega)]; exact hu'.c0, by rw [List.getElem?_append_left (by omega)]; exact hu'.c1, by rw [List.getElem?_append_left (by omega)]; exact hu'.c2, hu'.d, fun k hk => .inl (hu'.f k hk)⟩
    · obtain ⟨j, rfl⟩ : ∃ j, i = L.length + j := ⟨i - L.length, by omega⟩
      rw [List.getElem?_append_right (by omega), show L.length + j - L.length = j by omega] at hz
      obtain ⟨e1, e2, u, hu⟩ := k.cs j z hz
      have hu' := hu.keep hO hF2
      have e3 := hu'.c0
      have e4 := hu'.c1
      have e5 := hu'.c2
      refine ⟨?_, ?_, u, ?_, ?_, ?_, hu'.d, fun k hk => .inr (hu'.f k hk)⟩
      · rw [List.getElem?_append_right (by omega), show (L.length + j) * 5 - xs.length = j * 5 by omega]; exact e1
      · rw [List.getElem?_append_right (by omega), show (L.length + j) * 5 + 1 - xs.length = j * 5 + 1 by omega]; exact e2
      · rw [List.getElem?_append_right (by omega), show (L.length + j) * 5 + 2 - xs.length = j * 5 + 2 by omega]; exact e3
      · rw [List.getElem?_append_right (by omega), show (L.length + j) * 5 + 2 + 1 - xs.length = j * 5 + 2 + 1 by omega]; exact e4
      · rw [List.getElem?_append_right (by omega), show (L.length + j) * 5 + 2 + 2 - xs.length = j * 5 + 2 + 2 by omega]; exact e5
  · rintro j (hj | hj)
    · obtain ⟨c, hc⟩ := h.ft j hj
      exact ⟨c, hO.keep hc (hF j hj)⟩
    · obtain ⟨c, hc⟩ := k.ft j hj
      exact ⟨c, hO.keep hc (hF2 j hj)⟩
end

/-- append(all, one...). -/
theorem wpList_append_got {w : World} {ops : Array Oper} {rest : List Oper} {o : Oper} {a : Act} {Q : Exit → Act → World → Prop} {F F2 : Nat → Prop} {v v2 : Value} {xs ys : List Value} {L M : List OutR} (hgd : o.guard = none) (s x : Operand)
    (ho : o.op = .call { callee := .builtin .append, args := #[s, x], argTypes := #[37, 37] })
    (h : GotR w F v xs L) (k : GotR w F2 v2 ys M) (hs : a.eval s = v) (hx : a.eval x = v2) (hn : L.length + M.length ≤ 1000000)
    (hK : ∀ v3 w', GotR w' (fun k => F k ∨ F2 k) v3 (xs ++ ys) (L ++ M) → Only (fun k => v.ownBlock = some k) w w' → (v3.ownBlock = v.ownBlock ∨ v3.ownBlock = some w.heap.size) → wpList Try.prog ops Q rest (a.put o.dst v3) w') :
    wpList Try.prog ops Q (o :: rest) a w := by
  obtain ⟨i0, hi, hz, hz1, hz2⟩ := info_parts info_out
  rcases k.row.2 with ⟨hv, h0⟩ | ⟨g, cap, cur, hv, hg, hh, hnc, hcm, hcs, hxy⟩
  · subst hv
    have hM : M = [] := List.eq_nil_of_length_eq_zero h0
    have hys : ys = [] := List.eq_nil_of_length_eq_zero (by have := k.len; omega)
    subst hM hys
    refine wpList_append_own_none hgd s x _ ho 0 40 i0 5 Try.underlying37 hi v L.length xs hs h.row hx ?_
    refine hK v w ?_ (Only.refl _ _) (.inl rfl)
    rw [List.append_nil, List.append_nil]
    exact ⟨h.row, fun i z hz => let ⟨e1, e2, u, hu⟩ := h.cs i z hz; ⟨e1, e2, u, hu.c0, hu.c1, hu.c2, hu.d, fun k hk => .inl (hu.f k hk)⟩, fun j hj => hj.elim (h.ft j) (k.ft j)⟩
  · refine wpList_append_row _ hgd s x _ ho 40 i0 _ 5 56 Try.underlying37 hi hz hz1 hz2 rfl (by decide) v L.length xs hs h.row ⟨g, 0, none⟩ M.length cap ys (hx.trans hv) k.len (fun j u hj => ?_) k.one (by unfold maxLen; omega) (by omega) (fun v' w' hO hG hb => ?_)
    · rw [Addr.add_lit, Nat.zero_add]
      refine (cell_of_block hh j).trans ?_
      have hj2 := hj
      rw [← hxy] at hj2
      have hlt : j < M.length * 5 := by
        have := (List.getElem?_eq_some_iff.1 hj).1
        have := k.len
        omega
      rw [List.getElem?_take_of_lt hlt] at hj2
      simpa using hj2
    · exact hK v' w' (h.append k hO hG) ((Only.refl _ _).grown hG (fun k hk _ => hk)) hb

theorem ditem_is (no sz : Int) (y : Value) (d : List Nat) (w : World) (hy : Holds8 w y d) :
    Calls Try.prog 13 #[.agg #[.int .u64 no, .int .i64 sz, y]] w fun e w' => e = .returned (.agg #[.int .u64 no, .int .i64 sz, .string (str8 d)]) ∧ Below w.heap.size w w' := by
  have hA : Below w.heap.size w ((w.alloc (.cells #[.int .u64 no, .int .i64 sz, y] 34)).alloc (.cells #[.int .u64 0, .int .i64 0, .string ⟨#[]⟩] 42)) := ((Below.refl _ _).alloc (Nat.le_refl _) _).alloc (by simp) _
  have hc : ∀ w', Below w.heap.size w w' → (convert 32 9 y).run Try.prog w' = .ok (.string (str8 d)) w' := fun w' hB => conv8 (hy.below hB)
  obtain ⟨ao, cap, rfl, _⟩ := hy
  have h1 := hc _ hA
  clear hc
  generalize d.length = n at *
  generalize str8 d = s at *
  go_enter Try.func13, Try.ntmps13
  go_wp2_with fail
  exact bodyPost_ret (v := .agg #[.int .u64 no, .int .i64 sz, .string s]) (by simp [results, Try.results13, go_sem]) rfl ⟨rfl, ((Below.refl _ _).alloc (Nat.le_refl _) _).alloc (by simp) _⟩
end Go.Proofs.Ythipfcmjpgbemaa
