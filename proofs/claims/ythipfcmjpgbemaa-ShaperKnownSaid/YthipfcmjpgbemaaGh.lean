/- What goes out, up to a tick: plain laws; a row of what went out in new memory. -/
import Derived.Test.YthipfcmjpgbemaaGg
import Derived.Test.YthipfcmjpgbemaaGe
namespace Go.Proofs.Ythipfcmjpgbemaa
open Go.RowKit

/-- What a search has found, of the lines ahead of n. -/
structure Found (tick : Nat) (ls : List Ln) (n : Nat) (f : Fnd) : Prop where
  no : f.ok = false → f = ⟨0, 0, false⟩ ∧ ∀ c L, c < n → ls[c]? = some L → (lnWhen tick L).2 = false
  yes : f.ok = true → ∃ c L, f.cls = (c : Nat) ∧ c < n ∧ ls[c]? = some L ∧ lnWhen tick L = (f.at', true) ∧ ∀ d M, d < n → ls[d]? = some M → (lnWhen tick M).2 = true → f.at' ≤ (lnWhen tick M).1 ∧ (d < c → f.at' < (lnWhen tick M).1)
theorem found_take (tick : Nat) (ls : List Ln) : ∀ n, n ≤ ls.length → Found tick ls n (nextL tick 0 ⟨0, 0, false⟩ (ls.take n))
  | 0, _ => ⟨fun _ => ⟨rfl, fun c L h => absurd h (Nat.not_lt_zero _)⟩, fun h => by simp [nextL] at h⟩
  | n + 1, hn => by
    have ih := found_take tick ls n (by omega)
    obtain ⟨L, hL⟩ : ∃ L, ls[n]? = some L := ⟨_, List.getElem?_eq_getElem (by omega)⟩
    rw [List.take_add_one, hL, Option.toList_some, nextL_snoc, Nat.zero_add, List.length_take_of_le (by omega)]
    generalize nextL tick 0 ⟨0, 0, false⟩ (ls.take n) = f at ih
    obtain ⟨a, ev, hw⟩ : ∃ a ev, lnWhen tick L = (a, ev) := ⟨_, _, rfl⟩
    cases ev with
    | false =>
      have e : lookL tick f n L = f := by simp [lookL, hw]
      rw [e]
      refine ⟨fun h => ⟨(ih.no h).1, fun c M hc hM => ?_⟩, fun h => ?_⟩
      · rcases Nat.lt_or_ge c n with h1 | h1
        · exact (ih.no h).2 c M h1 hM
        · rw [show c = n by omega, hL] at hM
          injection hM with hM
          rw [← hM, hw]
      · obtain ⟨c, M, h1, h2, h3, h4, h5⟩ := ih.yes h
        refine ⟨c, M, h1, by omega, h3, h4, fun d N hd hN hNt => ?_⟩
        rcases Nat.lt_or_ge d n with h6 | h6
        · exact h5 d N h6 hN hNt
        · rw [show d = n by omega, hL] at hN
          injection hN with hN
          rw [← hN, hw] at hNt
          cases hNt
    | true =>
      cases hok : f.ok with
      | false =>
        have e : lookL tick f n L = ⟨a, n, true⟩ := by simp [lookL, hw, hok]
        rw [e]
        refine ⟨fun h => (Bool.noConfusion h), fun _ => ⟨n, L, rfl, by omega, hL, hw, fun d M hd hM hMt => ?_⟩⟩
        rcases Nat.lt_or_ge d n with h6 | h6
        · rw [(ih.no hok).2 d M h6 hM] at hMt
          cases hMt
        · rw [show d = n by omega, hL] at hM
          injection hM with hM
          rw [← hM, hw]
          exact ⟨Nat.le_refl _, fun h => by omega⟩
      | true =>
        obtain ⟨c, M, h1, h2, h3, h4, h5⟩ := ih.yes hok
        by_cases hlt : a < f.at'
        · have e : lookL tick f n L = ⟨a, n, true⟩ := by simp [lookL, hw, hlt]
          rw [e]
          refine ⟨fun h => (Bool.noConfusion h), fun _ => ⟨n, L, rfl, by omega, hL, hw, fun d N hd hN hNt => ?_⟩⟩
          rcases Nat.lt_or_ge d n with h6 | h6
          · have := (h5 d N h6 hN hNt).1
            exact ⟨by show a ≤ _; omega, fun _ => by show a < _; omega⟩
          · rw [show d = n by omega, hL] at hN
            injection hN with hN
            rw [← hN, hw]
            exact ⟨Nat.le_refl _, fun h => by omega⟩
        · have e : lookL tick f n L = f := by simp [lookL, hw, hok, hlt]
          rw [e]
          refine ⟨fun h => (by rw [hok] at h; cases h), fun _ => ⟨c, M, h1, by omega, h3, h4, fun d N hd hN hNt => ?_⟩⟩
          rcases Nat.lt_or_ge d n with h6 | h6
          · exact h5 d N h6 hN hNt
          · rw [show d = n by omega, hL] at hN
            injection hN with hN
            rw [← hN, hw]
            exact ⟨by show f.at' ≤ a; omega, fun h => by omega⟩
theorem Sh.found (S : Sh) : Found S.tick S.ls S.ls.length S.next := by
  have h := found_take S.tick S.ls S.ls.length (Nat.le_refl _)
  rwa [List.take_length] at h

/-- What went out: when, of which class, what. -/
structure OutR where
  at' : Nat
  cls : Nat
  x : It
/-- The next step of a Release up to t. -/
def Sh.step (S : Sh) (t : Nat) : Option (Sh × OutR) :=
  if S.next.ok = false ∨ t < S.next.at' then none
  else match S.ls[S.next.cls.toNat]? with
    | some L => match L.Q.L with
      | x :: l => some (⟨S.next.at', S.ls.set S.next.cls.toNat (outL L S.next.at' x l)⟩, ⟨S.next.at', S.next.cls.toNat, x⟩)
      | [] => none
    | none => none
def relN : Nat → Nat → Sh → List OutR → Sh × List OutR
  | 0, t, S, o => (⟨t, S.ls⟩, o)
  | n + 1, t, S, o => match S.step t with
    | none => (⟨t, S.ls⟩, o)
    | some (S', x) => relN n t S' (o ++ [x])
/-- How many items are queued. -/
def total (ls : List Ln) : Nat := (ls.map fun L => L.Q.L.length).sum
def Sh.rel (S : Sh) (t : Nat) : Sh × List OutR := relN (total S.ls + 1) (max t S.tick) S []

theorem total_set : ∀ (ls : List Ln) (c : Nat) (L M : Ln), ls[c]? = some L → total (ls.set c M) + L.Q.L.length = total ls + M.Q.L.length
  | [], c, L, M, h => by simp at h
  | K :: ls, 0, L, M, h => by
    simp at h
    subst h
    simp [total]
    omega
  | K :: ls, c + 1, L, M, h => by
    have ih := total_set ls c L M (by simpa using h)
    simp [total] at ih ⊢
    omega

/-- What a step is. -/
theorem step_some {S S' : Sh} {t : Nat} {o : OutR} (h : S.step t = some (S', o)) :
    ∃ L l, S.next.ok = true ∧ S.next.cls = (o.cls : Nat) ∧ S.next.at' = o.at' ∧ ¬ t < o.at' ∧ S.ls[o.cls]? = some L ∧ L.Q.L = o.x :: l ∧ S' = ⟨o.at', S.ls.set o.cls (outL L o.at' o.x l)⟩ ∧ total S'.ls + 1 = total S.ls := by
  unfold Sh.step at h
  split at h
  · cases h
  · rename_i hn
    split at h
    · rename_i L hL
      split at h
      · rename_i x l hx
        injection h with h
        injection h with h1 h2
        subst h1 h2
        have hok : S.next.ok = true := by
          cases he : S.next.ok
          · exact absurd (.inl he) hn
          · rfl
        obtain ⟨c, M, hc, -, hM, hw, -⟩ := S.found.yes hok
        refine ⟨L, l, hok, by rw [hc]; rfl, rfl, fun h => hn (.inr h), hL, hx, rfl, ?_⟩
        have ht := total_set S.ls S.next.cls.toNat L (outL L S.next.at' x l) hL
        rw [hx] at ht
        have e : (outL L S.next.at' x l).Q.L = l := rfl
        rw [e] at ht
        show total (S.ls.set S.next.cls.toNat (outL L S.next.at' x l)) + 1 = _
        simp at ht
        omega
      · cases h
    · cases h
theorem step_none {S : Sh} {t : Nat} (h : S.step t = none) : S.next.ok = false ∨ t < S.next.at' := by
  rcases Classical.em (S.next.ok = false ∨ t < S.next.at') with h1 | h1
  · exact h1
  · exfalso
    unfold Sh.step at h
    rw [if_neg h1] at h
    have hok : S.next.ok = true := by
      cases he : S.next.ok
      · exact absurd (.inl he) h1
      · rfl
    obtain ⟨c, M, hc, -, hM, hw, -⟩ := S.found.yes hok
    rw [hc, Int.toNat_natCast, hM] at h
    cases hq : M.Q.L with
    | nil => simp [lnWhen, hq] at hw
    | cons x l => simp [hq] at h
end Go.Proofs.Ythipfcmjpgbemaa

/- A row of what went out. -/
namespace Go.Proofs.Ythipfcmjpgbemaa
open Go.RowKit

/-- What went out, in new memory. -/
structure NewO (base : Nat) (w : World) (F : Nat → Prop) (v : Value) (xs : List Value) (L : List OutR) : Prop where
  row : w.ownsRow base 40 5 v L.length xs
  cs : ∀ i o, L[i]? = some o → xs[i * 5]? = some (.int .u64 o.at') ∧ xs[i * 5 + 1]? = some (.int .i64 (o.cls : Nat)) ∧ ∃ y, ItAt w F xs (i * 5 + 2) o.x y
  ge : ∀ k, F k → base ≤ k
  ft : ∀ k, F k → ∃ c, w.heap[k]? = some (.cells c 5 (0, 0))
  dj : ∀ i j yi yj, i < j → j < L.length → xs[i * 5 + 4]? = some yi → xs[j * 5 + 4]? = some yj → ∀ k, yi.ownBlock = some k → ¬ yj.ownBlock = some k

theorem NewO.keep {base : Nat} {w w' : World} {F S : Nat → Prop} {v : Value} {xs : List Value} {L : List OutR} (h : NewO base w F v xs L) (hO : Only S w w') (hF : ∀ k, F k → ¬ S k) (hv : ∀ k, v.ownBlock = some k → ¬ S k) : NewO base w' F v xs L :=
  ⟨own_only h.row hO hv, fun i x hx => let ⟨e1, e2, y, hy⟩ := h.cs i x hx; ⟨e1, e2, y, hy.keep hO hF⟩, h.ge, fun k hk => let ⟨c, hc⟩ := h.ft k hk; ⟨c, hO.keep hc (hF k hk)⟩, h.dj⟩
theorem NewO.below {base : Nat} {w w' : World} {F : Nat → Prop} {v : Value} {xs : List Value} {L : List OutR} (h : NewO base w F v xs L) (hB : Below w.heap.size w w') : NewO base w' F v xs L :=
  h.keep (Below.only hB (fun _ => False)) (fun _ _ h => h) (fun _ _ h => h)
/-- Behind a change of one block that holds something else. -/
theorem NewO.other {base : Nat} {w w' : World} {F : Nat → Prop} {v : Value} {xs : List Value} {L : List OutR} (h : NewO base w F v xs L) {b : Nat} {o : Obj} (ho : w.heap[b]? = some o) (h1 : ∀ c, o ≠ .cells c 5 (0, 0)) (h2 : ∀ c, o ≠ .cells c 40 (0, 0)) (hO : Only (· = b) w w') : NewO base w' F v xs L := by
  refine h.keep hO (fun k hk e => ?_) (fun k hk e => ?_)
  · obtain ⟨c, hc⟩ := h.ft k hk
    subst e
    rw [ho] at hc
    injection hc with hc
    exact h1 c hc
  · obtain ⟨c, hc⟩ := row_type h.row k hk
    subst e
    rw [ho] at hc
    injection hc with hc
    exact h2 c hc
theorem NewO.ne_row {base : Nat} {w : World} {F : Nat → Prop} {v : Value} {xs : List Value} {L : List OutR} (h : NewO base w F v xs L) {b : Nat} {o : Obj} (ho : w.heap[b]? = some o) (h2 : ∀ c, o ≠ .cells c 40 (0, 0)) : ¬ v.ownBlock = some b := fun e => by
  obtain ⟨c, hc⟩ := row_type h.row b e
  rw [ho] at hc
  injection hc with hc
  exact h2 c hc
/-- One more. -/
theorem NewO.snoc {base : Nat} {w w5 : World} {F : Nat → Prop} {v v2 y : Value} {xs : List Value} {L : List OutR} (h : NewO base w F v xs L) (o : OutR) (hy : Own8 w base y o.x.data) (hyF : ∀ k, y.ownBlock = some k → ¬ F k)
    (hOW : w5.ownsRow base 40 5 v2 (L.length + 1) (xs ++ [.int .u64 o.at', .int .i64 (o.cls : Nat), .int .u64 o.x.no, .int .i64 o.x.size, y])) (hG : w.grownBy w5 v.ownBlock) : NewO base w5 (fun k => F k ∨ y.ownBlock = some k) v2 (xs ++ [.int .u64 o.at', .int .i64 (o.cls : Nat), .int .u64 o.x.no, .int .i64 o.x.size, y]) (L ++ [o]) := by
  have hO : Only (fun k => v.ownBlock = some k) w w5 := (Only.refl _ _).grown hG (fun k hk _ => hk)
  have hd : ∀ k c, w.heap[k]? = some (.cells c 5 (0, 0)) → ¬ v.ownBlock = some k := fun k c hc hk => by
    obtain ⟨c', hc'⟩ := row_type h.row k hk
    rw [hc] at hc'
    injection hc' with hc'
    injection hc' with _ e _
    exact absurd e (by decide)
  have hF : ∀ k, F k → ¬ v.ownBlock = some k := fun k hk => let ⟨c, hc⟩ := h.ft k hk; hd k c hc
  have hY : ∀ k, y.ownBlock = some k → ¬ v.ownBlock = some k := fun k hk => let ⟨c, hc⟩ := row_type hy k hk; hd k c hc
  have hxl : xs.length = L.length * 5 := h.row.1
  refine ⟨by simpa using hOW, fun i z hz => ?_, ?_, ?_, ?_⟩
  · by_cases hi : i < L.length
    · rw [List.getElem?_append_left hi] at hz
      obtain ⟨e1, e2, u, hu⟩ := h.cs i z hz
      have hu' := hu.keep hO hF
      exact ⟨by rw [List.getElem?_append_left (by omega)]; exact e1, by rw [List.getElem?_append_left (by omega)]; exact e2, u, by rw [List.getElem?_append_left (by omega)]; exact hu'.c0, by rw [List.getElem?_append_left (by omega)]; exact hu'.c1, by rw [List.getElem?_append_left (by omega)]; exact hu'.c2, hu'.d, fun k hk => .inl (hu'.f k hk)⟩
    · have hin : i = L.length := by
        have := (List.getElem?_eq_some_iff.1 hz).1
        simp at this
        omega
      subst hin
      rw [List.getElem?_append_right (by omega), Nat.sub_self] at hz
      simp at hz
      subst hz
      refine ⟨?_, ?_, y, ?_, ?_, ?_, own_lower (own_only hy hO hY) (Nat.zero_le _), fun k hk => .inr hk⟩
      · rw [List.getElem?_append_right (by omega), hxl, Nat.sub_self]; rfl
      · rw [List.getElem?_append_right (by omega), hxl, show L.length * 5 + 1 - L.length * 5 = 1 by omega]; rfl
      · rw [List.getElem?_append_right (by omega), hxl, show L.length * 5 + 2 - L.length * 5 = 2 by omega]; rfl
      · rw [List.getElem?_append_right (by omega), hxl, show L.length * 5 + 2 + 1 - L.length * 5 = 3 by omega]; rfl
      · rw [List.getElem?_append_right (by omega), hxl, show L.length * 5 + 2 + 2 - L.length * 5 = 4 by omega]; rfl
  · rintro k (hk | hk)
    · exact h.ge k hk
    · exact own_ge hy k hk
  · rintro k (hk | hk)
    · obtain ⟨c, hc⟩ := h.ft k hk
      exact ⟨c, hO.keep hc (hF k hk)⟩
    · obtain ⟨c, hc⟩ := row_type hy k hk
      exact ⟨c, hO.keep hc (hY k hk)⟩
  · intro i j yi yj hij hj hi hjj k hk
    simp only [List.length_append, List.length_cons, List.length_nil] at hj
    rw [List.getElem?_append_left (by omega)] at hi
    by_cases hjl : j < L.length
    · rw [List.getElem?_append_left (by omega)] at hjj
      exact h.dj i j yi yj hij hjl hi hjj k hk
    · obtain rfl : j = L.length := by omega
      rw [List.getElem?_append_right (by omega), hxl, show L.length * 5 + 4 - L.length * 5 = 4 by omega] at hjj
      simp at hjj
      subst hjj
      obtain ⟨-, -, u, hu⟩ := h.cs i L[i] (List.getElem?_eq_getElem hij)
      have e := hu.c2
      rw [hi] at e
      injection e with e
      subst e
      exact fun e => hyF k e (hu.f k hk)
end Go.Proofs.Ythipfcmjpgbemaa

/- Release: walked. -/
namespace Go.Proofs.Ythipfcmjpgbemaa
open Go.RowKit

theorem outL_ok {L : Ln} {n t : Nat} {x : It} {l : List It} (h : L.Ok n) (hq : L.Q.L = x :: l) (ht : t < 18446744073709551616) : (outL L t x l).Ok n := by
  have h1 := h.out
  have h2 := h.size x (by rw [hq]; simp)
  have h3 := h.byt
  rw [hq] at h1
  simp at h1
  refine ⟨h.off, h.drp, ?_, ?_, h.drops, fun z hz => h.size z (by rw [hq]; exact List.mem_cons_of_mem _ hz), h.B.take ht⟩
  · show L.out + 1 + l.length ≤ n
    omega
  · show L.byt + x.size ≤ 2048 * (L.out + 1)
    omega
theorem next_lt {S : Sh} {n : Nat} (h : S.Ok n) (ho : S.next.ok = true) : S.tick ≤ S.next.at' ∧ S.next.at' < 18446744073709551616 := by
  obtain ⟨c, M, hc, -, hM, hw, -⟩ := S.found.yes ho
  cases hq : M.Q.L with
  | nil => simp [lnWhen, hq] at hw
  | cons x l =>
    simp [lnWhen, hq] at hw
    have h1 := when_lt (n := x.size) (h.ln M (List.mem_of_getElem? hM)).B
    have h2 := h.tick
    omega
theorem step_ok {S S' : Sh} {n t : Nat} {o : OutR} (h : S.Ok n) (hs : S.step t = some (S', o)) : S'.Ok n := by
  obtain ⟨L, l, hok, hc, ha, ht, hL, hq, rfl, -⟩ := step_some hs
  have hl := next_lt h hok
  rw [ha] at hl
  refine ⟨fun M hM => ?_, h.few, hl.2, by show (S.ls.set _ _).length ≤ 8; rw [List.length_set]; exact h.len⟩
  rcases List.mem_or_eq_of_mem_set hM with h1 | rfl
  · exact h.ln M h1
  · exact outL_ok (h.ln L (List.mem_of_getElem? hL)) hq hl.2

theorem Release_nil (t : Nat) (w : World) : Calls Try.prog 12 #[.pointer none, .int .u64 t] w fun e w' => e = .returned (.slice none 0 0) ∧ w' = w := by
  go_enter Try.func12, Try.ntmps12
  go_wp2_with fail
  go_ret
  exact ⟨rfl, rfl⟩

def sliceLen : Value → Nat
  | .slice _ n _ => n
  | _ => 0
structure ROut (W w : World) (p : Nat) (O O' : Nat → Nat) (v : Value) (ps : List Nat) (S : Sh) (F : Nat → Prop) (vo : Value) (xs : List Value) (outs : List OutR) : Prop where
  new : NewO W.heap.size w F vo xs outs
  is : IsS w p O' v ps S
  grow : Grow O O' W w
  df : ∀ k, F k → O' k = 0
  dv : ∀ k, vo.ownBlock = some k → O' k = 0
def RRel (W : World) (n t p : Nat) (O : Nat → Nat) (v : Value) (ps : List Nat) (S0 : Sh) (iv : Value) (w : World) : Prop :=
  ∃ S1 outs O1 xs F a c, iv = .slice a outs.length c ∧ ROut W w p O O1 v ps S1 F iv xs outs ∧ S1.Ok n ∧ relN (total S1.ls + 1) t S1 outs = relN (total S0.ls + 1) t S0 [] ∧ total S1.ls + outs.length = total S0.ls
def RelOk (W : World) (p : Nat) (O : Nat → Nat) (v : Value) (ps : List Nat) (R : Sh × List OutR) (e : Ending) (w : World) : Prop :=
  ∃ O' F vo xs, e = .returned vo ∧ ROut W w p O O' v ps R.1 F vo xs R.2

theorem newO_nil (w : World) : NewO w.heap.size w (fun _ => False) (.slice none 0 0) [] [] :=
  ⟨⟨rfl, .inl ⟨rfl, rfl⟩⟩, fun i x hx => by simp at hx, fun _ h => h.elim, fun _ h => h.elim, fun i j yi yj _ hj => by simp at hj⟩

theorem NewO.flt {base : Nat} {w : World} {F : Nat → Prop} {v : Value} {xs : List Value} {L : List OutR} (h : NewO base w F v xs L) {k : Nat} (hk : F k) : k < w.heap.size := let ⟨_, hc⟩ := h.ft k hk; lt_of_obj hc
theorem NewO.vlt {base : Nat} {w : World} {F : Nat → Prop} {v : Value} {xs : List Value} {L : List OutR} (h : NewO base w F v xs L) {k : Nat} (hk : v.ownBlock = some k) : k < w.heap.size := let ⟨_, hc⟩ := row_type h.row k hk; lt_of_obj hc
theorem ROut.tick {W w w2 : World} {p : Nat} {O O' : Nat → Nat} {v : Value} {ps : List Nat} {S : Sh} {F : Nat → Prop} {vo : Value} {xs : List Value} {outs : List OutR} (h : ROut W w p O O' v ps S F vo xs outs) (hB : Below w.heap.size w w2) (m : Nat) :
    ROut W (w2.setCell ⟨p, 0, none⟩ (.int .u64 m)) p O O' v ps ⟨m, S.ls⟩ F vo xs outs := by
  have h2 := h.is.below hB
  obtain ⟨h3, h4⟩ := h2.tickSet m
  have hO : Only (· = p) w2 (w2.setCell ⟨p, 0, none⟩ (.int .u64 m)) := Only.setCell (S := (· = p)) (p := ⟨p, 0, none⟩) (Only.refl _ _) (fun _ => rfl) _
  exact ⟨(h.new.below hB).keep hO (fun k hk e => by have := h.df k hk; rw [e, h2.op] at this; cases this) (fun k hk e => by have := h.dv k hk; rw [e, h2.op] at this; cases this), h3, (h.grow.trans (Grow.below hB)).trans h4, h.df, h.dv⟩
theorem Grow.after {O O' : Nat → Nat} {T : Nat → Prop} {a b c : World} (h : Grow O O' a b) (k : Only T b c) (hT : ∀ j, j < a.heap.size → ¬ T j) : Grow O O' a c :=
  ⟨h.only.after k (fun j hj _ => hT j hj), h.old, h.new⟩
theorem ROut.keepOut {W w3 w4 : World} {p c lp bp qp : Nat} {r : Nat → Nat} {O O1 : Nat → Nat} {v : Value} {ps : List Nat} {S : Sh} {F : Nat → Prop} {vo : Value} {xs : List Value} {outs : List OutR} {L : Ln}
    (h : ROut W w3 p O O1 v ps S F vo xs outs) (hI : IsL w3 O1 c lp bp qp r L) (hO4 : Only (fun k => k = lp ∨ k = bp ∨ r k ≠ 0) w3 w4) : NewO W.heap.size w4 F vo xs outs := by
  have hS : ∀ k, O1 k = 0 → ¬ (k = lp ∨ k = bp ∨ r k ≠ 0) := by
    rintro k hk (rfl | rfl | h1)
    · rw [hI.ol] at hk; omega
    · rw [hI.ob] at hk; omega
    · rw [hI.oq k h1] at hk; omega
  exact h.new.keep hO4 (fun k hk => hS k (h.df k hk)) (fun k hk => hS k (h.dv k hk))
theorem total_le (n : Nat) : ∀ ls : List Ln, (∀ L ∈ ls, L.Q.L.length ≤ n) → total ls ≤ ls.length * n
  | [], _ => by simp [total]
  | L :: ls, h => by
    have h1 := total_le n ls (fun M hM => h M (List.mem_cons_of_mem _ hM))
    have h2 := h L (by simp)
    have e : total (L :: ls) = L.Q.L.length + total ls := by simp [total]
    rw [e, List.length_cons, Nat.succ_mul]
    omega
theorem Sh.Ok.total {S : Sh} {n : Nat} (h : S.Ok n) : Go.Proofs.Ythipfcmjpgbemaa.total S.ls ≤ 8000000 := by
  have h1 := total_le n S.ls (fun L hL => by have := (h.ln L hL).out; omega)
  have h2 := h.len
  have h3 := h.few
  have h4 : S.ls.length * n ≤ 8 * 1000000 := Nat.mul_le_mul h2 h3
  omega
theorem info_out : (Try.prog.info? 40).map (fun i => (i.zero, i.size, i.bytes)) = some (some (.agg #[.int .u64 0, .int .i64 0, .int .u64 0, .int .i64 0, .slice none 0 0]), 5, 56) := by kernel_rfl
theorem own_raise {w : World} {base base' : Nat} {e : TypeId} {size : Nat} {v : Value} {n : Nat} {xs : List Value} (h : w.ownsRow base e size v n xs) (hb : ∀ k, v.ownBlock = some k → base' ≤ k) : w.ownsRow base' e size v n xs := by
  refine ⟨h.1, ?_⟩
  rcases h.2 with hn | ⟨g, cap, cur, hv, hg, rest⟩
  · exact .inl hn
  · exact .inr ⟨g, cap, cur, hv, hb g (by rw [hv]; rfl), rest⟩
/-- One more item has gone out. -/
theorem ROut.out {W w3 w4 w5 w6 : World} {p c lp bp qp : Nat} {r : Nat → Nat} {O O1 : Nat → Nat} {v : Value} {ps : List Nat} {S : Sh} {F : Nat → Prop} {vo v2 y : Value} {xs : List Value} {outs : List OutR} {L L' : Ln} {o : OutR}
    (h : ROut W w3 p O O1 v ps S F vo xs outs) (hL : S.ls[c]? = some L) (hlp : ps[c]? = some lp) (hI : IsL w3 O1 c lp bp qp r L)
    (hy : Own8 w4 w3.heap.size y o.x.data) (hb : w4.heap[lp]? = some (.cells (L'.cells bp qp) 88 (0, 0))) (hB : IsB w4 bp L'.B) (hQ : Que w4 qp r L'.Q) (hO4 : Only (fun k => k = lp ∨ k = bp ∨ r k ≠ 0) w3 w4)
    (hB5 : Below w4.heap.size w4 w5) (hrow : w6.ownsRow W.heap.size 40 5 v2 (outs.length + 1) (xs ++ [.int .u64 o.at', .int .i64 (o.cls : Nat), .int .u64 o.x.no, .int .i64 o.x.size, y])) (hG : w5.grownBy w6 vo.ownBlock) (hv2 : v2.ownBlock = vo.ownBlock ∨ v2.ownBlock = some w5.heap.size) :
    ∃ O2 F', ROut W w6 p O O2 v ps ⟨S.tick, S.ls.set c L'⟩ F' v2 (xs ++ [.int .u64 o.at', .int .i64 (o.cls : Nat), .int .u64 o.x.no, .int .i64 o.x.size, y]) (outs ++ [o]) := by
  obtain ⟨O2, h4, hg4, hn⟩ := h.is.set hL hlp hI hO4 hb hB hQ (fun k hk => .inl hk)
  have hqr := hI.q.lt
  have hn2 : ∀ k, O2 k ≠ 0 → O1 k ≠ 0 := fun k hk => by
    rcases hn k hk with h | h
    · exact h
    · have := hqr k h.2; omega
  have hz : ∀ k, O1 k = 0 → O2 k = 0 := fun k hk => by
    rcases Nat.eq_zero_or_pos (O2 k) with e | e
    · exact e
    · exact absurd hk (hn2 k (by omega))
  have hS : ∀ k, O1 k = 0 → ¬ (k = lp ∨ k = bp ∨ r k ≠ 0) := by
    rintro k hk (rfl | rfl | h1)
    · rw [hI.ol] at hk; omega
    · rw [hI.ob] at hk; omega
    · rw [hI.oq k h1] at hk; omega
  have hN4 := (h.new.keep hO4 (fun k hk => hS k (h.df k hk)) (fun k hk => hS k (h.dv k hk)))
  have hN5 := hN4.below hB5
  have h5 := h4.below hB5
  have hy5 := own_below hy hB5
  have hO6 : Only (fun k => vo.ownBlock = some k) w5 w6 := (Only.refl _ _).grown hG (fun k hk _ => hk)
  have hyz : ∀ k, y.ownBlock = some k → O2 k = 0 := fun k hk => hz k (h.is.zero (own_ge hy k hk))
  have hyF : ∀ k, y.ownBlock = some k → ¬ F k := fun k hk hF => by
    have := own_ge hy k hk
    have := h.new.flt hF
    omega
  have hW : W.heap.size ≤ w3.heap.size := h.grow.only.size
  have h6 := h5.keep hO6 (fun k hk e => hk (hz k (h.dv k e)))
  refine ⟨O2, fun k => F k ∨ y.ownBlock = some k, hN5.snoc o (own_lower hy5 hW) hyF hrow hG, h6, ((h.grow.trans hg4).trans (Grow.below hB5)).after hO6 (fun k hk e => by have := own_ge h.new.row k e; omega), ?_, ?_⟩
  · rintro k (hk | hk)
    · exact hz k (h.df k hk)
    · exact hyz k hk
  · intro k hk
    rcases hv2 with e | e
    · rw [e] at hk
      exact hz k (h.dv k hk)
    · rw [e] at hk
      injection hk with hk
      subst hk
      exact h5.zero (Nat.le_refl _)

set_option maxRecDepth 100000 in
theorem Release_is {w : World} {p n t : Nat} {O : Nat → Nat} {v : Value} {ps : List Nat} {S : Sh} (h : IsS w p O v ps S) (hS : S.Ok n) (ht : t < 18446744073709551616) :
    Calls Try.prog 12 #[ptr p, .int .u64 t] w (RelOk w p O v ps (S.rel t)) := by
  unfold Sh.rel
  have c0 := h.c0
  have htk := hS.tick
  have H := Lib.hid (And.intro h hS)
  clear h hS
  obtain ⟨m, hm⟩ : ∃ m, max t S.tick = m := ⟨_, rfl⟩
  have hml : m < 18446744073709551616 := by omega
  rw [hm]
  have HM : Hid (S.tick ≤ m) := by show S.tick ≤ m; omega
  unfold ptr
  go_enter Try.func12, Try.ntmps12
  by_cases hts : t < S.tick
  · have e : S.tick = m := by omega
    go_wp2_with fail
    try rw [e]
    clear c0 hts
    go_loopw [4] (RRel w n m p O v ps S) (fun a _ => total S.ls + 1 - sliceLen a)
    case atStart =>
      exact ⟨S, [], O, [], _, none, 0, rfl, ⟨newO_nil w, H.out.1, Grow.below (Below.refl _ _), fun _ h => h.elim, fun k hk => by cases hk⟩, H.out.2, rfl, rfl⟩
    case round =>
      obtain ⟨S1, outs, O1, xs, F, a, c, rfl, hR, hS1, hN, hT⟩ := hrel
      have HN := Lib.hid (next_is hR.is hS1)
      have HR := Lib.hid (And.intro hR (And.intro hS1 (And.intro hN hT)))
      clear hR hS1 hN hT
      cases hst : S1.step m with
      | none =>
        have hc := step_none hst
        have HS := Lib.hid hst
        clear hst
        have hfin : Hid (relN (total S.ls + 1) m S [] = (⟨m, S1.ls⟩, outs)) := by
          show _ = _
          rw [← HR.out.2.2.1]
          unfold relN
          rw [HS.out]
        cases hok : S1.next.ok with
        | false =>
          rw [hok] at HN
          go_wp2_with fail
          refine HN.out.mono ?_
          rintro e w2 ⟨rfl, hB2⟩
          have hR2 := HR.out.1
          have h2 := hR2.is.below hB2
          have k0 := h2.c0
          have f0 := free_of_block h2.blk 0
          have HB2 := Lib.hid hB2
          have H2 := Lib.hid h2
          clear hR2 h2 hB2
          go_wp2_with fail
          go_ret
          rw [hfin.out]
          exact ⟨O1, F, _, xs, rfl, HR.out.1.tick HB2.out m⟩
        | true =>
          have hlt : m < S1.next.at' := by
            rcases hc with h | h
            · rw [hok] at h; cases h
            · exact h
          rw [hok] at HN
          have hltb : decide (S1.next.at' ≤ m) = false := decide_eq_false (by omega)
          go_wp2_with fail
          refine HN.out.mono ?_
          rintro e w2 ⟨rfl, hB2⟩
          have h2 := HR.out.1.is.below hB2
          have k0 := h2.c0
          have f0 := free_of_block h2.blk 0
          have HB2 := Lib.hid hB2
          clear h2 hB2
          go_wp2_with fail
          go_ret
          rw [hfin.out]
          exact ⟨O1, F, _, xs, rfl, HR.out.1.tick HB2.out m⟩
      | some q =>
        obtain ⟨S', o⟩ := q
        obtain ⟨L, l, hok, hcl, hat, hnt, hL, hq, hS', hto⟩ := step_some hst
        have hS1 := HR.out.2.1
        have hS'o := step_ok hS1 hst
        have hnl := next_lt hS1 hok
        have hfin : Hid (relN (total S'.ls + 1) m S' (outs ++ [o]) = relN (total S.ls + 1) m S []) := by
          show _ = _
          rw [← HR.out.2.2.1, hto]
          conv => rhs; unfold relN
          rw [hst]
        rw [hok, hcl, hat] at HN
        rw [hat] at hnl
        have HS := Lib.hid (And.intro hS'o (And.intro hS' hto))
        clear hS'o hS' hto hst hcl hat hok
        go_wp2_with fail
        refine HN.out.mono ?_
        rintro e w2 ⟨rfl, hB2⟩
        clear HN
        have h2 := HR.out.1.is.below hB2
        have k0 := h2.c0
        have f0 := free_of_block h2.blk 0
        have h3 := HR.out.1.tick hB2 o.at'
        obtain ⟨lp, hlp⟩ : ∃ lp, ps[o.cls]? = some lp := ⟨_, List.getElem?_eq_getElem (by rw [h2.len]; exact (List.getElem?_eq_some_iff.1 hL).1)⟩
        obtain ⟨bp, qp, r, hI⟩ := h3.is.ln o.cls L lp hL hlp
        obtain ⟨g, cap, hv, hcap, hcell⟩ := row_ptr h2.row hlp h2.len
        have hov := h2.ov
        have hop := h2.op
        have k1 := h2.c1
        subst hv
        have hgp : ¬ g = p := fun e => by
          have := hov g rfl
          rw [e, hop] at this
          cases this
        have hgp' : ¬ p = g := fun e => hgp e.symm
        unfold ptr at hcell
        have hLo := hS1.ln L (List.mem_of_getElem? hL)
        have hci : (o.cls : Int) < (S1.ls.length : Int) := by
          have := (List.getElem?_eq_some_iff.1 hL).1
          omega
        have HO := Lib.hid (out_is hI hq hLo.B hnl.2 (hLo.size o.x (by rw [hq]; simp)) (by have := hLo.out; have := hS1.few; omega) (by have := hLo.byt; have := hLo.out; have := hS1.few; omega))
        unfold ptr at HO
        have HX := Lib.hid (And.intro h3 (And.intro hL (And.intro hlp (And.intro hI hB2))))
        have HBL := Lib.hid (And.intro hS1.few (And.intro hLo.out hcap))
        clear h2 h3 hov hop hI hLo hB2 hS1 hL hlp hq hnl
        go_wp2_with fail
        refine HO.out.mono ?_
        rintro e w4 ⟨y, rfl, hy4, hlb4, hb4, hQ4, hO4⟩
        clear HO
        obtain ⟨ya, yc, rfl⟩ := own_shape hy4
        have HY := Lib.hid (And.intro hy4 (And.intro hlb4 (And.intro hb4 (And.intro hQ4 hO4))))
        clear hy4 hlb4 hb4 hQ4 hO4 k0 f0 k1 hcell
        have hNo := HX.out.1.keepOut HX.out.2.2.2.1 HY.out.2.2.2.2
        have HRo := Lib.hid (hNo.row.alloc (.cells #[.int .u64 o.at', .int .i64 o.cls, .int .u64 o.x.no, .int .i64 o.x.size, .slice ya o.x.data.length yc] 40))
        have hol : outs.length ≤ 8000000 := by
          have h1 := H.out.2.total
          have h2 := HR.out.2.2.2
          omega
        obtain ⟨i0, hi0, hz0, hz1, hz2⟩ := info_parts info_out
        clear hNo
        have hgx := alloc_block_new w4 (.cells #[.int .u64 o.at', .int .i64 o.cls, .int .u64 o.x.no, .int .i64 o.x.size, .slice ya o.x.data.length yc] 40)
        have hcg : ∀ j u, [(Value.int .u64 o.at'), .int .i64 o.cls, .int .u64 o.x.no, .int .i64 o.x.size, .slice ya o.x.data.length yc][j]? = some u → (w4.alloc (.cells #[.int .u64 o.at', .int .i64 o.cls, .int .u64 o.x.no, .int .i64 o.x.size, .slice ya o.x.data.length yc] 40)).cell? (Addr.add ⟨w4.heap.size, 0, none⟩ j) = some u := fun j u hj => by
          rw [Addr.add_lit, Nat.zero_add, cell_of_block hgx]
          simpa using hj
        have hone : ∀ u ∈ [(Value.int .u64 o.at'), .int .i64 o.cls, .int .u64 o.x.no, .int .i64 o.x.size, .slice ya o.x.data.length yc], u.oneCell' = true := fun u hu => by
          simp at hu
          rcases hu with rfl | rfl | rfl | rfl | rfl <;> rfl
        have HCG := Lib.hid hcg
        have HON := Lib.hid hone
        clear hcg hone hgx
        go_wp2_with (first | (at_builtin; refine wpList_append_row _ rfl (.tmp 38) (.tmp 51) 37 rfl 40 i0 _ 5 56 Try.underlying37 hi0 hz0 hz1 hz2 rfl (by decide) (.slice a outs.length c) outs.length xs rfl (own_lower HRo.out (Nat.zero_le _)) ⟨w4.heap.size, 0, none⟩ 1 1 [.int .u64 o.at', .int .i64 o.cls, .int .u64 o.x.no, .int .i64 o.x.size, .slice ya o.x.data.length yc] rfl rfl HCG.out HON.out (by unfold maxLen; omega) (by omega) ?_))
        intro v' w' ho hg hvv
        obtain ⟨va, vc, rfl⟩ := own_shape ho
        have hwb : w.heap.size ≤ w4.heap.size := Nat.le_trans HX.out.1.grow.only.size HY.out.2.2.2.2.size
        obtain ⟨O2, F', hR'⟩ := HX.out.1.out (L' := outL L o.at' o.x l) (o := o) HX.out.2.1 HX.out.2.2.1 HX.out.2.2.2.1 HY.out.1 HY.out.2.1 HY.out.2.2.1 HY.out.2.2.2.1 HY.out.2.2.2.2 ((Below.refl _ _).alloc (Nat.le_refl _) _)
          (own_raise ho (fun k hk => by
            rcases hvv with e | e
            · rw [e] at hk
              exact own_ge HRo.out k hk
            · rw [e] at hk
              injection hk with hk
              omega)) hg (hvv.imp id (fun e => by rw [e]; simp))
        have HM2 : Hid (RRel w n m p O (.slice (some ⟨g, 0, none⟩) S1.ls.length cap) ps S (.slice va (outs.length + 1) vc) w') :=
          ⟨S', outs ++ [o], O2, _, F', va, vc, by rw [List.length_append]; rfl, by rw [HS.out.2.1]; exact hR', HS.out.1, hfin.out, by rw [List.length_append]; have h1 := HS.out.2.2; have h2 := HR.out.2.2.2; simp; omega⟩
        have hms : outs.length ≤ total S.ls := by have := HR.out.2.2.2; omega
        clear ho hg hvv hR' HX HY HRo HCG HON hi0 hz0 hz1 hz2 HBL HR hfin HS
        go_wp2_with fail
        go_roundw
        case rel => exact HM2.out
        case measure => simp [sliceLen]; omega
  · have e : t = m := by omega
    go_wp2_with fail
    try rw [e]
    clear c0 hts
    go_loopw [4] (RRel w n m p O v ps S) (fun a _ => total S.ls + 1 - sliceLen a)
    case atStart =>
      exact ⟨S, [], O, [], _, none, 0, rfl, ⟨newO_nil w, H.out.1, Grow.below (Below.refl _ _), fun _ h => h.elim, fun k hk => by cases hk⟩, H.out.2, rfl, rfl⟩
    case round =>
      obtain ⟨S1, outs, O1, xs, F, a, c, rfl, hR, hS1, hN, hT⟩ := hrel
      have HN := Lib.hid (next_is hR.is hS1)
      have HR := Lib.hid (And.intro hR (And.intro hS1 (And.intro hN hT)))
      clear hR hS1 hN hT
      cases hst : S1.step m with
      | none =>
        have hc := step_none hst
        have HS := Lib.hid hst
        clear hst
        have hfin : Hid (relN (total S.ls + 1) m S [] = (⟨m, S1.ls⟩, outs)) := by
          show _ = _
          rw [← HR.out.2.2.1]
          unfold relN
          rw [HS.out]
        cases hok : S1.next.ok with
        | false =>
          rw [hok] at HN
          go_wp2_with fail
          refine HN.out.mono ?_
          rintro e w2 ⟨rfl, hB2⟩
          have hR2 := HR.out.1
          have h2 := hR2.is.below hB2
          have k0 := h2.c0
          have f0 := free_of_block h2.blk 0
          have HB2 := Lib.hid hB2
          have H2 := Lib.hid h2
          clear hR2 h2 hB2
          go_wp2_with fail
          go_ret
          rw [hfin.out]
          exact ⟨O1, F, _, xs, rfl, HR.out.1.tick HB2.out m⟩
        | true =>
          have hlt : m < S1.next.at' := by
            rcases hc with h | h
            · rw [hok] at h; cases h
            · exact h
          rw [hok] at HN
          have hltb : decide (S1.next.at' ≤ m) = false := decide_eq_false (by omega)
          go_wp2_with fail
          refine HN.out.mono ?_
          rintro e w2 ⟨rfl, hB2⟩
          have h2 := HR.out.1.is.below hB2
          have k0 := h2.c0
          have f0 := free_of_block h2.blk 0
          have HB2 := Lib.hid hB2
          clear h2 hB2
          go_wp2_with fail
          go_ret
          rw [hfin.out]
          exact ⟨O1, F, _, xs, rfl, HR.out.1.tick HB2.out m⟩
      | some q =>
        obtain ⟨S', o⟩ := q
        obtain ⟨L, l, hok, hcl, hat, hnt, hL, hq, hS', hto⟩ := step_some hst
        have hS1 := HR.out.2.1
        have hS'o := step_ok hS1 hst
        have hnl := next_lt hS1 hok
        have hfin : Hid (relN (total S'.ls + 1) m S' (outs ++ [o]) = relN (total S.ls + 1) m S []) := by
          show _ = _
          rw [← HR.out.2.2.1, hto]
          conv => rhs; unfold relN
          rw [hst]
        rw [hok, hcl, hat] at HN
        rw [hat] at hnl
        have HS := Lib.hid (And.intro hS'o (And.intro hS' hto))
        clear hS'o hS' hto hst hcl hat hok
        go_wp2_with fail
        refine HN.out.mono ?_
        rintro e w2 ⟨rfl, hB2⟩
        clear HN
        have h2 := HR.out.1.is.below hB2
        have k0 := h2.c0
        have f0 := free_of_block h2.blk 0
        have h3 := HR.out.1.tick hB2 o.at'
        obtain ⟨lp, hlp⟩ : ∃ lp, ps[o.cls]? = some lp := ⟨_, List.getElem?_eq_getElem (by rw [h2.len]; exact (List.getElem?_eq_some_iff.1 hL).1)⟩
        obtain ⟨bp, qp, r, hI⟩ := h3.is.ln o.cls L lp hL hlp
        obtain ⟨g, cap, hv, hcap, hcell⟩ := row_ptr h2.row hlp h2.len
        have hov := h2.ov
        have hop := h2.op
        have k1 := h2.c1
        subst hv
        have hgp : ¬ g = p := fun e => by
          have := hov g rfl
          rw [e, hop] at this
          cases this
        have hgp' : ¬ p = g := fun e => hgp e.symm
        unfold ptr at hcell
        have hLo := hS1.ln L (List.mem_of_getElem? hL)
        have hci : (o.cls : Int) < (S1.ls.length : Int) := by
          have := (List.getElem?_eq_some_iff.1 hL).1
          omega
        have HO := Lib.hid (out_is hI hq hLo.B hnl.2 (hLo.size o.x (by rw [hq]; simp)) (by have := hLo.out; have := hS1.few; omega) (by have := hLo.byt; have := hLo.out; have := hS1.few; omega))
        unfold ptr at HO
        have HX := Lib.hid (And.intro h3 (And.intro hL (And.intro hlp (And.intro hI hB2))))
        have HBL := Lib.hid (And.intro hS1.few (And.intro hLo.out hcap))
        clear h2 h3 hov hop hI hLo hB2 hS1 hL hlp hq hnl
        go_wp2_with fail
        refine HO.out.mono ?_
        rintro e w4 ⟨y, rfl, hy4, hlb4, hb4, hQ4, hO4⟩
        clear HO
        obtain ⟨ya, yc, rfl⟩ := own_shape hy4
        have HY := Lib.hid (And.intro hy4 (And.intro hlb4 (And.intro hb4 (And.intro hQ4 hO4))))
        clear hy4 hlb4 hb4 hQ4 hO4 k0 f0 k1 hcell
        have hNo := HX.out.1.keepOut HX.out.2.2.2.1 HY.out.2.2.2.2
        have HRo := Lib.hid (hNo.row.alloc (.cells #[.int .u64 o.at', .int .i64 o.cls, .int .u64 o.x.no, .int .i64 o.x.size, .slice ya o.x.data.length yc] 40))
        have hol : outs.length ≤ 8000000 := by
          have h1 := H.out.2.total
          have h2 := HR.out.2.2.2
          omega
        obtain ⟨i0, hi0, hz0, hz1, hz2⟩ := info_parts info_out
        clear hNo
        have hgx := alloc_block_new w4 (.cells #[.int .u64 o.at', .int .i64 o.cls, .int .u64 o.x.no, .int .i64 o.x.size, .slice ya o.x.data.length yc] 40)
        have hcg : ∀ j u, [(Value.int .u64 o.at'), .int .i64 o.cls, .int .u64 o.x.no, .int .i64 o.x.size, .slice ya o.x.data.length yc][j]? = some u → (w4.alloc (.cells #[.int .u64 o.at', .int .i64 o.cls, .int .u64 o.x.no, .int .i64 o.x.size, .slice ya o.x.data.length yc] 40)).cell? (Addr.add ⟨w4.heap.size, 0, none⟩ j) = some u := fun j u hj => by
          rw [Addr.add_lit, Nat.zero_add, cell_of_block hgx]
          simpa using hj
        have hone : ∀ u ∈ [(Value.int .u64 o.at'), .int .i64 o.cls, .int .u64 o.x.no, .int .i64 o.x.size, .slice ya o.x.data.length yc], u.oneCell' = true := fun u hu => by
          simp at hu
          rcases hu with rfl | rfl | rfl | rfl | rfl <;> rfl
        have HCG := Lib.hid hcg
        have HON := Lib.hid hone
        clear hcg hone hgx
        go_wp2_with (first | (at_builtin; refine wpList_append_row _ rfl (.tmp 38) (.tmp 51) 37 rfl 40 i0 _ 5 56 Try.underlying37 hi0 hz0 hz1 hz2 rfl (by decide) (.slice a outs.length c) outs.length xs rfl (own_lower HRo.out (Nat.zero_le _)) ⟨w4.heap.size, 0, none⟩ 1 1 [.int .u64 o.at', .int .i64 o.cls, .int .u64 o.x.no, .int .i64 o.x.size, .slice ya o.x.data.length yc] rfl rfl HCG.out HON.out (by unfold maxLen; omega) (by omega) ?_))
        intro v' w' ho hg hvv
        obtain ⟨va, vc, rfl⟩ := own_shape ho
        have hwb : w.heap.size ≤ w4.heap.size := Nat.le_trans HX.out.1.grow.only.size HY.out.2.2.2.2.size
        obtain ⟨O2, F', hR'⟩ := HX.out.1.out (L' := outL L o.at' o.x l) (o := o) HX.out.2.1 HX.out.2.2.1 HX.out.2.2.2.1 HY.out.1 HY.out.2.1 HY.out.2.2.1 HY.out.2.2.2.1 HY.out.2.2.2.2 ((Below.refl _ _).alloc (Nat.le_refl _) _)
          (own_raise ho (fun k hk => by
            rcases hvv with e | e
            · rw [e] at hk
              exact own_ge HRo.out k hk
            · rw [e] at hk
              injection hk with hk
              omega)) hg (hvv.imp id (fun e => by rw [e]; simp))
        have HM2 : Hid (RRel w n m p O (.slice (some ⟨g, 0, none⟩) S1.ls.length cap) ps S (.slice va (outs.length + 1) vc) w') :=
          ⟨S', outs ++ [o], O2, _, F', va, vc, by rw [List.length_append]; rfl, by rw [HS.out.2.1]; exact hR', HS.out.1, hfin.out, by rw [List.length_append]; have h1 := HS.out.2.2; have h2 := HR.out.2.2.2; simp; omega⟩
        have hms : outs.length ≤ total S.ls := by have := HR.out.2.2.2; omega
        clear ho hg hvv hR' HX HY HRo HCG HON hi0 hz0 hz1 hz2 HBL HR hfin HS
        go_wp2_with fail
        go_roundw
        case rel => exact HM2.out
        case measure => simp [sliceLen]; omega
end Go.Proofs.Ythipfcmjpgbemaa

/- Clear: walked. -/
namespace Go.Proofs.Ythipfcmjpgbemaa
open Go.RowKit

def clr (L : Ln) : Ln := { L with Q := cleared L.Q }
def clrTo (c : Nat) (ls : List Ln) : List Ln := (ls.take c).map clr ++ ls.drop c
theorem clrTo_zero (ls : List Ln) : clrTo 0 ls = ls := by simp [clrTo]
theorem clrTo_all (ls : List Ln) : clrTo ls.length ls = ls.map clr := by simp [clrTo]
theorem clrTo_len (c : Nat) (ls : List Ln) : (clrTo c ls).length = ls.length := by
  simp [clrTo, List.length_take, List.length_drop]
  omega
theorem clrTo_at {c : Nat} {ls : List Ln} {L : Ln} (h : ls[c]? = some L) : (clrTo c ls)[c]? = some L := by
  have hc := (List.getElem?_eq_some_iff.1 h).1
  unfold clrTo
  rw [List.getElem?_append_right (by simp; omega)]
  simp [List.length_take, Nat.min_eq_left (Nat.le_of_lt hc), h]
theorem clrTo_set {c : Nat} {ls : List Ln} {L : Ln} (h : ls[c]? = some L) : (clrTo c ls).set c (clr L) = clrTo (c + 1) ls := by
  have hc := (List.getElem?_eq_some_iff.1 h).1
  unfold clrTo
  rw [List.set_append_right _ _ (by simp; omega), List.take_add_one, h, Option.toList_some, List.map_append, List.append_assoc]
  congr 1
  rw [List.drop_eq_getElem_cons hc]
  rw [List.getElem?_eq_getElem hc] at h
  injection h with h
  simp [List.length_take, Nat.min_eq_left (Nat.le_of_lt hc), h]
theorem total_take {c : Nat} {ls : List Ln} {L : Ln} (h : ls[c]? = some L) : total (ls.take (c + 1)) = total (ls.take c) + L.Q.L.length := by
  rw [List.take_add_one, h, Option.toList_some]
  simp [total]

theorem total_le_all (ls : List Ln) (c : Nat) : total (ls.take c) ≤ total ls := by
  have h : total (ls.take c ++ ls.drop c) = total (ls.take c) + total (ls.drop c) := by unfold total; rw [List.map_append, List.sum_append]
  rw [List.take_append_drop] at h
  omega

theorem Clear_nil (w : World) : Calls Try.prog 25 #[.pointer none] w fun e w' => e = .returned (.int .i64 0) ∧ w' = w := by
  go_enter Try.func25, Try.ntmps25
  go_wp2_with fail
  go_ret
  exact ⟨rfl, rfl⟩

def CRel (W : World) (p : Nat) (O : Nat → Nat) (v : Value) (ps : List Nat) (S : Sh) (nv iv : Value) (w : World) : Prop :=
  ∃ c : Nat, ∃ O', iv = .int .i64 c ∧ c ≤ S.ls.length ∧ nv = .int .i64 (total (S.ls.take c)) ∧ IsS w p O' v ps ⟨S.tick, clrTo c S.ls⟩ ∧ Grow O O' W w
set_option maxRecDepth 100000 in
theorem Clear_is {w : World} {p n : Nat} {O : Nat → Nat} {v : Value} {ps : List Nat} {S : Sh} (h : IsS w p O v ps S) (hS : S.Ok n) :
    Calls Try.prog 25 #[ptr p] w fun e w' => e = .returned (.int .i64 (total S.ls)) ∧ ∃ O', IsS w' p O' v ps ⟨S.tick, S.ls.map clr⟩ ∧ Grow O O' w w' := by
  obtain ⟨va, vc, rfl⟩ := own_shape h.row
  have c1 := h.c1
  have H := Lib.hid (And.intro h hS)
  have hlen := hS.len
  clear h hS
  unfold ptr
  go_enter Try.func25, Try.ntmps25
  go_wp2_with fail
  go_loopw [2, 12] (CRel w p O (.slice va S.ls.length vc) ps S) (fun _ i _ => S.ls.length - (intOf i).toNat)
  case atStart => exact ⟨0, O, rfl, Nat.zero_le _, rfl, by rw [clrTo_zero]; exact H.out.1, Grow.below (Below.refl _ _)⟩
  case round =>
    obtain ⟨c, O', rfl, hc, rfl, hI, hG⟩ := hrel
    have htot : total S.ls ≤ 8000000 := H.out.2.total
    by_cases hlt : c < S.ls.length
    · obtain ⟨L, hL⟩ : ∃ L, S.ls[c]? = some L := ⟨_, List.getElem?_eq_getElem hlt⟩
      obtain ⟨lp, hlp⟩ : ∃ lp, ps[c]? = some lp := ⟨_, List.getElem?_eq_getElem (by rw [H.out.1.len]; exact hlt)⟩
      obtain ⟨bp, qp, r, hIL⟩ := hI.ln c L lp (clrTo_at hL) hlp
      obtain ⟨g, cap, hv, hcap, hcell⟩ := row_ptr hI.row hlp hI.len
      injection hv with hva hvl hvc
      clear hvl
      subst hva
      subst hvc
      have hcap : S.ls.length ≤ vc := by rw [show (clrTo c S.ls).length = S.ls.length from clrTo_len c S.ls] at hcap; exact hcap
      unfold ptr at hcell
      have hci : (c : Int) < (S.ls.length : Int) := by omega
      have c5 : wr.cell? ⟨lp, 5, none⟩ = some (.pointer (some ⟨qp, 0, none⟩)) := cell_of_block hIL.blk 5
      have HC := Lib.hid (clear_q hIL.q)
      have htk : total (S.ls.take (c + 1)) = total (S.ls.take c) + L.Q.L.length := total_take hL
      have ht2 : total (S.ls.take (c + 1)) ≤ 8000000 := Nat.le_trans (total_le_all S.ls (c + 1)) htot
      have HX := Lib.hid (And.intro hI (And.intro hG (And.intro hL (And.intro hlp hIL))))
      have hwr : IntKind.i64.wrap ((total (S.ls.take c) : Int) + (L.Q.L.length : Int)) = ((total (S.ls.take (c + 1)) : Nat) : Int) := by rw [IntWalk.i64_in _ (by omega), htk]; rfl
      clear hI hG hL hlp hIL htk htot
      go_wp2_with fail
      refine HC.out.mono ?_
      rintro e w2 ⟨rfl, hQ2, hO2⟩
      obtain ⟨hI, hG, hL, hlp, hIL⟩ := HX.out
      have hrl : ∀ k, O' k ≠ 5 + 3 * c → ¬ r k ≠ 0 := fun k hk h => hk (hIL.oq k h)
      obtain ⟨O2, h1, h2, -⟩ := hI.set (L' := clr L) (clrTo_at hL) hlp hIL (hO2.mono fun k _ h => .inr (.inr h)) (hO2.keep hIL.blk (hrl lp (by rw [hIL.ol]; omega))) (hO2.keep hIL.b (hrl bp (by rw [hIL.ob]; omega))) hQ2 (fun k hk => .inl hk)
      have HM : Hid (CRel w p O (.slice (some ⟨g, 0, none⟩) S.ls.length vc) ps S (.int .i64 ((total (S.ls.take (c + 1)) : Nat) : Int)) (.int .i64 (c + 1 : Nat)) w2) :=
        ⟨c + 1, O2, rfl, hlt, rfl, by rw [← clrTo_set hL]; exact h1, hG.trans h2⟩
      clear hI hG hL hlp hIL h1 h2 hQ2 hO2 hrl HX HC c5 hcell
      go_wp2_with fail
      go_roundw
      case rel => exact HM.out
      case measure => simp [intOf]; omega
    · obtain rfl : c = S.ls.length := by omega
      have HX := Lib.hid (And.intro hI hG)
      clear hI hG
      go_wp2_with fail
      go_ret
      exact ⟨by rw [List.take_length]; rfl, O', by rw [← clrTo_all]; exact HX.out.1, HX.out.2⟩
end Go.Proofs.Ythipfcmjpgbemaa
