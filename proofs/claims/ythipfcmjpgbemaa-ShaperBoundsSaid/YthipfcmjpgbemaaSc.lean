/- A shaper whose lines change; the small functions: walked. -/
import Derived.Test.YthipfcmjpgbemaaSb
namespace Go.Proofs.Ythipfcmjpgbemaa
open Go.RowKit

/-- Only what is the shaper's has changed; what becomes the shaper's is new. -/
structure Grow (O O' : Nat → Nat) (w w' : World) : Prop where
  only : Only (fun k => O k ≠ 0) w w'
  old : ∀ k, O k ≠ 0 → O' k = O k
  new : ∀ k, O' k ≠ 0 → O k ≠ 0 ∨ w.heap.size ≤ k
theorem Grow.below {O : Nat → Nat} {w w' : World} (h : Below w.heap.size w w') : Grow O O w w' := ⟨Below.only h _, fun _ _ => rfl, fun _ h => .inl h⟩
theorem Grow.trans {O O1 O2 : Nat → Nat} {w w1 w2 : World} (h : Grow O O1 w w1) (k : Grow O1 O2 w1 w2) : Grow O O2 w w2 := by
  have hs := Nat.le_trans h.only.size k.only.size
  refine ⟨⟨k.only.os.trans h.only.os, k.only.tape.trans h.only.tape, k.only.output.trans h.only.output, hs, fun b hb h0 => ?_⟩, fun b hb => ?_, fun b hb => ?_⟩
  · refine (k.only.block b (Nat.lt_of_lt_of_le hb h.only.size) (fun h1 => ?_)).trans (h.only.block b hb h0)
    rcases h.new b h1 with h2 | h2
    · exact h0 h2
    · omega
  · have e := h.old b hb
    rw [k.old b (by rw [e]; exact hb), e]
  · rcases k.new b hb with h1 | h1
    · exact h.new b h1
    · exact .inr (Nat.le_trans h.only.size h1)

theorem IsS.set {w w' : World} {p : Nat} {O : Nat → Nat} {v : Value} {ps : List Nat} {S : Sh} {c lp bp qp : Nat} {r r' : Nat → Nat} {L L' : Ln} (h : IsS w p O v ps S) (hc : S.ls[c]? = some L) (hl : ps[c]? = some lp) (hL : IsL w O c lp bp qp r L)
    (hO : Only (fun k => k = lp ∨ k = bp ∨ r k ≠ 0) w w') (hb : w'.heap[lp]? = some (.cells (L'.cells bp qp) 88 (0, 0))) (hB : IsB w' bp L'.B) (hQ : Que w' qp r' L'.Q) (hr : ∀ k, r' k ≠ 0 → r k ≠ 0 ∨ w.heap.size ≤ k) :
    ∃ O', IsS w' p O' v ps { S with ls := S.ls.set c L' } ∧ Grow O O' w w' ∧ ∀ k, O' k ≠ 0 → O k ≠ 0 ∨ w.heap.size ≤ k ∧ r' k ≠ 0 := by
  have hcl := (List.getElem?_eq_some_iff.1 hc).1
  have hol := hL.ol
  have hob := hL.ob
  have hS : ∀ k, O k ≠ 0 → (∀ j, j < 3 → O k ≠ 3 + 3 * c + j) → ¬ (k = lp ∨ k = bp ∨ r k ≠ 0) := by
    rintro k _ h3 (rfl | rfl | hk)
    · exact h3 0 (by omega) (by omega)
    · exact h3 1 (by omega) (by omega)
    · exact h3 2 (by omega) (by have := hL.oq k hk; omega)
  have hold : ∀ k, O k ≠ 0 → (if w.heap.size ≤ k ∧ r' k ≠ 0 then 5 + 3 * c else O k) = O k := fun k hk => by
    rw [if_neg]
    have := h.lt k hk
    omega
  refine ⟨fun k => if w.heap.size ≤ k ∧ r' k ≠ 0 then 5 + 3 * c else O k, ⟨?_, ?_, ?_, ?_, ?_, ?_, ?_⟩, ⟨hO.mono ?_, hold, ?_⟩, ?_⟩
  · exact hO.keep h.blk (hS p (by rw [h.op]; decide) (fun j _ => by rw [h.op]; omega))
  · show w'.ownsRow 0 77 1 v (S.ls.set c L').length (ps.map ptr)
    rw [List.length_set]
    exact own_only h.row hO (fun k hk => hS k (by rw [h.ov k hk]; decide) (fun j _ => by rw [h.ov k hk]; omega))
  · show ps.length = (S.ls.set c L').length
    rw [List.length_set]
    exact h.len
  · intro d M mp hd hm
    by_cases hdc : d = c
    · subst hdc
      rw [hl] at hm
      injection hm with hm
      subst hm
      have hd : (S.ls.set d L')[d]? = some M := hd
      rw [List.getElem?_set_self hcl] at hd
      injection hd with hd
      subst hd
      refine ⟨bp, qp, r', hb, hB, hQ, by rw [hold lp (by rw [hol]; omega)]; exact hol, by rw [hold bp (by rw [hob]; omega)]; exact hob, fun k hk => ?_⟩
      show (if w.heap.size ≤ k ∧ r' k ≠ 0 then 5 + 3 * d else O k) = _
      by_cases hkw : w.heap.size ≤ k
      · rw [if_pos ⟨hkw, hk⟩]
      · rw [if_neg (by omega)]
        rcases hr k hk with h1 | h1
        · exact hL.oq k h1
        · omega
    · have hd : (S.ls.set c L')[d]? = some M := hd
      rw [List.getElem?_set_ne (by omega)] at hd
      obtain ⟨bm, qm, rm, hM⟩ := h.ln d M mp hd hm
      have hMl := hM.ol
      have hMb := hM.ob
      exact ⟨bm, qm, rm, (hM.keep hO (hS mp (by omega) (fun j _ => by omega)) (hS bm (by omega) (fun j _ => by omega)) (fun k hk => hS k (by have := hM.oq k hk; omega) (fun j _ => by have := hM.oq k hk; omega))).roles hold⟩
  · show (if w.heap.size ≤ p ∧ r' p ≠ 0 then 5 + 3 * c else O p) = 1
    rw [hold p (by rw [h.op]; decide)]
    exact h.op
  · intro k hk
    show (if w.heap.size ≤ k ∧ r' k ≠ 0 then 5 + 3 * c else O k) = 2
    rw [hold k (by rw [h.ov k hk]; decide)]
    exact h.ov k hk
  · intro k (hk : (if w.heap.size ≤ k ∧ r' k ≠ 0 then 5 + 3 * c else O k) ≠ 0)
    by_cases hkw : w.heap.size ≤ k ∧ r' k ≠ 0
    · exact hQ.lt k hkw.2
    · rw [if_neg hkw] at hk
      exact Nat.lt_of_lt_of_le (h.lt k hk) hO.size
  · rintro k _ (rfl | rfl | hk)
    · omega
    · omega
    · have := hL.oq k hk; omega
  · intro k (hk : (if w.heap.size ≤ k ∧ r' k ≠ 0 then 5 + 3 * c else O k) ≠ 0)
    by_cases hkw : w.heap.size ≤ k ∧ r' k ≠ 0
    · exact .inr hkw.1
    · rw [if_neg hkw] at hk
      exact .inl hk
  · intro k (hk : (if w.heap.size ≤ k ∧ r' k ≠ 0 then 5 + 3 * c else O k) ≠ 0)
    by_cases hkw : w.heap.size ≤ k ∧ r' k ≠ 0
    · exact .inr hkw
    · rw [if_neg hkw] at hk
      exact .inl hk
/-- The shaper's tick is set. -/
theorem IsS.tickSet {w : World} {p : Nat} {O : Nat → Nat} {v : Value} {ps : List Nat} {S : Sh} (h : IsS w p O v ps S) (t : Nat) :
    IsS (w.setCell ⟨p, 0, none⟩ (.int .u64 t)) p O v ps { S with tick := t } ∧ Grow O O w (w.setCell ⟨p, 0, none⟩ (.int .u64 t)) := by
  have hO : Only (· = p) w (w.setCell ⟨p, 0, none⟩ (.int .u64 t)) := Only.setCell (S := (· = p)) (p := ⟨p, 0, none⟩) (Only.refl _ _) (fun _ => rfl) _
  have hne : ∀ k, O k ≠ 1 → ¬ k = p := fun k hk e => hk (by rw [e]; exact h.op)
  refine ⟨⟨setCell_block h.blk 0 _, own_only h.row hO (fun k hk => hne k (by rw [h.ov k hk]; decide)), h.len, fun c L lp hc hl => ?_, h.op, h.ov, fun k hk => Nat.lt_of_lt_of_le (h.lt k hk) hO.size⟩, ⟨hO.mono (fun k _ e => by rw [e, h.op]; decide), fun _ _ => rfl, fun _ h => .inl h⟩⟩
  obtain ⟨bp, qp, r, hL⟩ := h.ln c L lp hc hl
  exact ⟨bp, qp, r, hL.keep hO (hne _ (by rw [hL.ol]; omega)) (hne _ (by rw [hL.ob]; omega)) (fun k hk => hne k (by rw [hL.oq k hk]; omega))⟩

/-! ### Next, Tick -/
theorem Next_nil (w : World) : Calls Try.prog 16 #[.pointer none] w fun e w' => e = .returned (.tuple #[.int .u64 0, .bool false]) ∧ w' = w := by
  go_enter Try.func16, Try.ntmps16
  go_wp2_with fail
  go_ret2
  exact ⟨rfl, rfl⟩
theorem Next_is {w : World} {p n : Nat} {O : Nat → Nat} {v : Value} {ps : List Nat} {S : Sh} (h : IsS w p O v ps S) (hS : S.Ok n) :
    Calls Try.prog 16 #[ptr p] w fun e w' => e = .returned (.tuple #[.int .u64 S.next.at', .bool S.next.ok]) ∧ Below w.heap.size w w' := by
  have HN := Lib.hid (next_is h hS)
  clear h hS
  unfold ptr at *
  go_enter Try.func16, Try.ntmps16
  go_wp2_with fail
  refine HN.out.mono ?_
  rintro e w1 ⟨rfl, hB⟩
  go_wp2_with fail
  go_ret2
  exact ⟨rfl, hB⟩
theorem Tick_nil (w : World) : Calls Try.prog 17 #[.pointer none] w fun e w' => e = .returned (.int .u64 0) ∧ w' = w := by
  go_enter Try.func17, Try.ntmps17
  go_wp2_with fail
  go_ret
  exact ⟨rfl, rfl⟩
theorem Tick_is {w : World} {p : Nat} {O : Nat → Nat} {v : Value} {ps : List Nat} {S : Sh} (h : IsS w p O v ps S) :
    Calls Try.prog 17 #[ptr p] w fun e w' => e = .returned (.int .u64 S.tick) ∧ w' = w := by
  have c0 := h.c0
  clear h
  unfold ptr
  go_enter Try.func17, Try.ntmps17
  go_wp2_with fail
  go_ret
  exact ⟨rfl, rfl⟩

/-! ### Queued -/
/-- The items of a class, if there is one. -/
def Sh.queued (S : Sh) (c : Int) : List It := if c < 0 then [] else match S.ls[c.toNat]? with | some L => L.Q.L | none => []
theorem Queued_nil (c : Int) (w : World) : Calls Try.prog 15 #[.pointer none, .int .i64 c] w fun e w' => e = .returned (.slice none 0 0) ∧ w' = w := by
  go_enter Try.func15, Try.ntmps15
  go_wp2_with fail
  refine (line_nil c w).mono ?_
  rintro e w1 ⟨rfl, rfl⟩
  go_wp2_with fail
  go_ret
  exact ⟨rfl, rfl⟩
theorem newI_nil (w : World) : NewI w.heap.size w (fun _ => False) (.slice none 0 0) [] [] :=
  ⟨⟨rfl, .inl ⟨rfl, rfl⟩⟩, fun i x hx => by simp at hx, fun _ h => h.elim, fun _ h => h.elim, fun i j yi yj _ hj => by simp at hj⟩
theorem lineAt_none {w : World} {p : Nat} {O : Nat → Nat} {v : Value} {ps : List Nat} {S : Sh} (h : IsS w p O v ps S) {c : Int} (hc : ¬ (0 ≤ c ∧ c < S.ls.length)) : lineAt ps c = .pointer none := by
  unfold lineAt
  rw [h.len, if_neg hc]
theorem lineAt_some {w : World} {p : Nat} {O : Nat → Nat} {v : Value} {ps : List Nat} {S : Sh} (h : IsS w p O v ps S) {c : Nat} (hc : c < S.ls.length) :
    ∃ lp L bp qp r, lineAt ps (c : Int) = ptr lp ∧ ps[c]? = some lp ∧ S.ls[c]? = some L ∧ IsL w O c lp bp qp r L := by
  obtain ⟨L, hL⟩ : ∃ L, S.ls[c]? = some L := ⟨_, List.getElem?_eq_getElem hc⟩
  obtain ⟨lp, hlp⟩ : ∃ lp, ps[c]? = some lp := ⟨_, List.getElem?_eq_getElem (by rw [h.len]; exact hc)⟩
  obtain ⟨bp, qp, r, hI⟩ := h.ln c L lp hL hlp
  refine ⟨lp, L, bp, qp, r, ?_, hlp, hL, hI⟩
  unfold lineAt
  rw [h.len, if_pos ⟨by omega, by omega⟩, Int.toNat_natCast, List.getD_eq_getElem?_getD, hlp]
  rfl
theorem Queued_is {w : World} {p : Nat} {O : Nat → Nat} {v : Value} {ps : List Nat} {S : Sh} (h : IsS w p O v ps S) (c : Int) :
    Calls Try.prog 15 #[ptr p, .int .i64 c] w (AllOk w (S.queued c)) := by
  have HL := Lib.hid (line_is h c)
  by_cases hc : 0 ≤ c ∧ c < S.ls.length
  · obtain ⟨n, rfl⟩ := Int.eq_ofNat_of_zero_le hc.1
    obtain ⟨lp, L, bp, qp, r, hla, _, hL, hI⟩ := lineAt_some h (c := n) (by omega)
    have hq : S.queued (n : Int) = L.Q.L := by
      unfold Sh.queued
      rw [if_neg (by omega), Int.toNat_natCast, hL]
    rw [hla] at HL
    rw [hq]
    have c5 : w.cell? ⟨lp, 5, none⟩ = some (.pointer (some ⟨qp, 0, none⟩)) := cell_of_block hI.blk 5
    have HQ := Lib.hid (all_q hI.q)
    clear h hla hL hI hq hc
    unfold ptr at *
    go_enter Try.func15, Try.ntmps15
    go_wp2_with fail
    refine HL.out.mono ?_
    rintro e w1 ⟨rfl, rfl⟩
    go_wp2_with fail
    refine HQ.out.mono ?_
    rintro e w2 ⟨v2, ys, F, rfl, hN, hB⟩
    go_wp2_with fail
    go_ret
    exact ⟨_, ys, F, rfl, hN, hB⟩
  · have hq : S.queued c = [] := by
      unfold Sh.queued
      split
      · rfl
      · rw [List.getElem?_eq_none (by omega)]
    rw [lineAt_none h hc] at HL
    rw [hq]
    clear h hq hc
    unfold ptr at *
    go_enter Try.func15, Try.ntmps15
    go_wp2_with fail
    refine HL.out.mono ?_
    rintro e w1 ⟨rfl, rfl⟩
    go_wp2_with fail
    go_ret
    exact ⟨_, [], _, rfl, newI_nil _, Below.refl _ _⟩
end Go.Proofs.Ythipfcmjpgbemaa
