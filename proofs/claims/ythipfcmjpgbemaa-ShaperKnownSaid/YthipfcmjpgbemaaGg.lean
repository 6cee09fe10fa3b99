/- A shaper whose lines change; the small functions: walked. -/
import Derived.Test.YthipfcmjpgbemaaGf
namespace Go.Proofs.Ythipfcmjpgbemaa
open Go.RowKit

/-- Only what is the shaper's has changed; what becomes the shaper's is new. -/
structure Grow (O O' : Nat → Nat) (w w' : World) : Prop where
  only : Only (fun k => O k ≠ 0) w w'
  old : ∀ k, O k ≠ 0 → O' k = O k
  new : ∀ k, O' k ≠ 0 → O k ≠ 0 ∨ w.heap.size ≤ k
theorem Grow.below {O : Nat → Nat} {w w' : World} (h : Below w.heap.size w w') : Grow O O w w' := ⟨Below.only h _, fun _ _ => rfl, fun _ h => .inl h⟩
theorem Grow.trans {O O1 O2 : Nat → Nat} {w w1 w2 : World} (h : Grow O O1 w w1) (k : Grow O1 O2 w1 w2) : Grow O O2 w w2 := by
  have hs := Nat.le_trans h.only.size k.only.size
  refine ⟨⟨k.only.os.trans h.only.os, k.only.tape.trans h.only.tape, k.only.output.trans h.only.output, hs, fun b hb h0 => ?_⟩, fun b hb => ?_, fun b hb => ?_⟩
  · refine (k.only.block b (Nat.lt_of_lt_of_le hb h.only.size) (fun h1 => ?_)).trans (h.only.block b hb h0)
    rcases h.new b h1 with h2 | h2
    · exact h0 h2
    · omega
  · have e := h.old b hb
    rw [k.old b (by rw [e]; exact hb), e]
  · rcases k.new b hb with h1 | h1
    · exact h.new b h1
    · exact .inr (Nat.le_trans h.only.size h1)

theorem IsS.set {w w' : World} {p : Nat} {O : Nat → Nat} {v : Value} {ps : List Nat} {S : Sh} {c lp bp qp : Nat} {r r' : Nat → Nat} {L L' : Ln} (h : IsS w p O v ps S) (hc : S.ls[c]? = some L) (hl : ps[c]? = some lp) (hL : IsL w O c lp bp qp r L)
    (hO : Only (fun k => k = lp ∨ k = bp ∨ r k ≠ 0) w w') (hb : w'.heap[lp]? = some (.cells (L'.cells bp qp) 88 (0, 0))) (hB : IsB w' bp L'.B) (hQ : Que w' qp r' L'.Q) (hr : ∀ k, r' k ≠ 0 → r k ≠ 0 ∨ w.heap.size ≤ k) :
    ∃ O', IsS w' p O' v ps { S with ls := S.ls.set c L' } ∧ Grow O O' w w' ∧ ∀ k, O' k ≠ 0 → O k ≠ 0 ∨ w.heap.size ≤ k ∧ r' k ≠ 0 := by
  have hcl := (List.getElem?_eq_some_iff.1 hc).1
  have hol := hL.ol
  have hob := hL.ob
  have hS : ∀ k, O k ≠ 0 → (∀ j, j < 3 → O k ≠ 3 + 3 * c + j) → ¬ (k = lp ∨ k = bp ∨ r k ≠ 0) := by
    rintro k _ h3 (rfl | rfl | hk)
    · exact h3 0 (by omega) (by omega)
    · exact h3 1 (by omega) (by omega)
    · exact h3 2 (by omega) (by have := hL.oq k hk; omega)
  have hold : ∀ k, O k ≠ 0 → (if w.heap.size ≤ k ∧ r' k ≠ 0 then 5 + 3 * c else O k) = O k := fun k hk => by
    rw [if_neg]
    have := h.lt k hk
    omega
  refine ⟨fun k => if w.heap.size ≤ k ∧ r' k ≠ 0 then 5 + 3 * c else O k, ⟨?_, ?_, ?_, ?_, ?_, ?_, ?_⟩, ⟨hO.mono ?_, hold, ?_⟩, ?_⟩
  · exact hO.keep h.blk (hS p (by rw [h.op]; decide) (fun j _ => by rw [h.op]; omega))
  · show w'.ownsRow 0 77 1 v (S.ls.set c L').length (ps.map ptr)
    rw [List.length_set]
    exact own_only h.row hO (fun k hk => hS k (by rw [h.ov k hk]; decide) (fun j _ => by rw [h.ov k hk]; omega))
  · show ps.length = (S.ls.set c L').length
    rw [List.length_set]
    exact h.len
  · intro d M mp hd hm
    by_cases hdc : d = c
    · subst hdc
      rw [hl] at hm
      injection hm with hm
      subst hm
      have hd : (S.ls.set d L')[d]? = some M := hd
      rw [List.getElem?_set_self hcl] at hd
      injection hd with hd
      subst hd
      refine ⟨bp, qp, r', hb, hB, hQ, by rw [hold lp (by rw [hol]; omega)]; exact hol, by rw [hold bp (by rw [hob]; omega)]; exact hob, fun k hk => ?_⟩
      show (if w.heap.size ≤ k ∧ r' k ≠ 0 then 5 + 3 * d else O k) = _
      by_cases hkw : w.heap.size ≤ k
      · rw [if_pos ⟨hkw, hk⟩]
      · rw [if_neg (by omega)]
        rcases hr k hk with h1 | h1
        · exact hL.oq k h1
        · omega
    · have hd : (S.ls.set c L')[d]? = some M := hd
      rw [List.getElem?_set_ne (by omega)] at hd
      obtain ⟨bm, qm, rm, hM⟩ := h.ln d M mp hd hm
      have hMl := hM.ol
      have hMb := hM.ob
      exact ⟨bm, qm, rm, (hM.keep hO (hS mp (by omega) (fun j _ => by omega)) (hS bm (by omega) (fun j _ => by omega)) (fun k hk => hS k (by have := hM.oq k hk; omega) (fun j _ => by have := hM.oq k hk; omega))).roles hold⟩
  · show (if w.heap.size ≤ p ∧ r' p ≠ 0 then 5 + 3 * c else O p) = 1
    rw [hold p (by rw [h.op]; decide)]
    exact h.op
  · intro k hk
    show (if w.heap.size ≤ k ∧ r' k ≠ 0 then 5 + 3 * c else O k) = 2
    rw [hold k (by rw [h.ov k hk]; decide)]
    exact h.ov k hk
  · intro k (hk : (if w.heap.size ≤ k ∧ r' k ≠ 0 then 5 + 3 * c else O k) ≠ 0)
    by_cases hkw : w.heap.size ≤ k ∧ r' k ≠ 0
    · exact hQ.lt k hkw.2
    · rw [if_neg hkw] at hk
      exact Nat.lt_of_lt_of_le (h.lt k hk) hO.size
  · rintro k _ (rfl | rfl | hk)
    · omega
    · omega
    · have := hL.oq k hk; omega
  · intro k (hk : (if w.heap.size ≤ k ∧ r' k ≠ 0 then 5 + 3 * c else O k) ≠ 0)
    by_cases hkw : w.heap.size ≤ k ∧ r' k ≠ 0
    · exact .inr hkw.1
    · rw [if_neg hkw] at hk
      exact .inl hk
  · intro k (hk : (if w.heap.size ≤ k ∧ r' k ≠ 0 then 5 + 3 * c else O k) ≠ 0)
    by_cases hkw : w.heap.size ≤ k ∧ r' k ≠ 0
    · exact .inr hkw
    · rw [if_neg hkw] at hk
      exact .inl hk
/-- The shaper's tick is set. -/
theorem IsS.tickSet {w : World} {p : Nat} {O : Nat → Nat} {v : Value} {ps : List Nat} {S : Sh} (h : IsS w p O v ps S) (t : Nat) :
    IsS (w.setCell ⟨p, 0, none⟩ (.int .u64 t)) p O v ps { S with tick := t } ∧ Grow O O w (w.setCell ⟨p, 0, none⟩ (.int .u64 t)) := by
  have hO : Only (· = p) w (w.setCell ⟨p, 0, none⟩ (.int .u64 t)) := Only.setCell (S := (· = p)) (p := ⟨p, 0, none⟩) (Only.refl _ _) (fun _ => rfl) _
  have hne : ∀ k, O k ≠ 1 → ¬ k = p := fun k hk e => hk (by rw [e]; exact h.op)
  refine ⟨⟨setCell_block h.blk 0 _, own_only h.row hO (fun k hk => hne k (by rw [h.ov k hk]; decide)), h.len, fun c L lp hc hl => ?_, h.op, h.ov, fun k hk => Nat.lt_of_lt_of_le (h.lt k hk) hO.size⟩, ⟨hO.mono (fun k _ e => by rw [e, h.op]; decide), fun _ _ => rfl, fun _ h => .inl h⟩⟩
  obtain ⟨bp, qp, r, hL⟩ := h.ln c L lp hc hl
  exact ⟨bp, qp, r, hL.keep hO (hne _ (by rw [hL.ol]; omega)) (hne _ (by rw [hL.ob]; omega)) (fun k hk => hne k (by rw [hL.oq k hk]; omega))⟩

/-! ### Next, Tick -/
theorem Next_nil (w : World) : Calls Try.prog 16 #[.pointer none] w fun e w' => e = .returned (.tuple #[.int .u64 0, .bool false]) ∧ w' = w := by
  go_enter Try.func16, Try.ntmps16
  go_wp2_with fail
  go_ret2
  exact ⟨rfl, rfl⟩
theorem Next_is {w : World} {p n : Nat} {O : Nat → Nat} {v : Value} {ps : List Nat} {S : Sh} (h : IsS w p O v ps S) (hS : S.Ok n) :
    Calls Try.prog 16 #[ptr p] w fun e w' => e = .returned (.tuple #[.int .u64 S.next.at', .bool S.next.ok]) ∧ Below w.heap.size w w' := by
  have HN := Lib.hid (next_is h hS)
  clear h hS
  unfold ptr at *
  go_enter Try.func16, Try.ntmps16
  go_wp2_with fail
  refine HN.out.mono ?_
  rintro e w1 ⟨rfl, hB⟩
  go_wp2_with fail
  go_ret2
  exact ⟨rfl, hB⟩
theorem Tick_nil (w : World) : Calls Try.prog 17 #[.pointer none] w fun e w' => e = .returned (.int .u64 0) ∧ w' = w := by
  go_enter Try.func17, Try.ntmps17
  go_wp2_with fail
  go_ret
  exact ⟨rfl, rfl⟩
theorem Tick_is {w : World} {p : Nat} {O : Nat → Nat} {v : Value} {ps : List Nat} {S : Sh} (h : IsS w p O v ps S) :
    Calls Try.prog 17 #[ptr p] w fun e w' => e = .returned (.int .u64 S.tick) ∧ w' = w := by
  have c0 := h.c0
  clear h
  unfold ptr
  go_enter Try.func17, Try.ntmps17
  go_wp2_with fail
  go_ret
  exact ⟨rfl, rfl⟩

/-! ### Queued -/
/-- The items of a class, if there is one. -/
def Sh.queued (S : Sh) (c : Int) : List It := if c < 0 then [] else match S.ls[c.toNat]? with | some L => L.Q.L | none => []
theorem Queued_nil (c : Int) (w : World) : Calls Try.prog 15 #[.pointer none, .int .i64 c] w fun e w' => e = .returned (.slice none 0 0) ∧ w' = w := by
  go_enter Try.func15, Try.ntmps15
  go_wp2_with fail
  refine (line_nil c w).mono ?_
  rintro e w1 ⟨rfl, rfl⟩
  go_wp2_with fail
  go_ret
  exact ⟨rfl, rfl⟩
theorem newI_nil (w : World) : NewI w.heap.size w (fun _ => False) (.slice none 0 0) [] [] :=
  ⟨⟨rfl, .inl ⟨rfl, rfl⟩⟩, fun i x hx => by simp at hx, fun _ h => h.elim, fun _ h => h.elim, fun i j yi yj _ hj => by simp at hj⟩
theorem lineAt_none {w : World} {p : Nat} {O : Nat → Nat} {v : Value} {ps : List Nat} {S : Sh} (h : IsS w p O v ps S) {c : Int} (hc : ¬ (0 ≤ c ∧ c < S.ls.length)) : lineAt ps c = .pointer none := by
  unfold lineAt
  rw [h.len, if_neg hc]
theorem lineAt_some {w : World} {p : Nat} {O : Nat → Nat} {v : Value} {ps : List Nat} {S : Sh} (h : IsS w p O v ps S) {c : Nat} (hc : c < S.ls.length) :
    ∃ lp L bp qp r, lineAt ps (c : Int) = ptr lp ∧ ps[c]? = some lp ∧ S.ls[c]? = some L ∧ IsL w O c lp bp qp r L := by
  obtain ⟨L, hL⟩ : ∃ L, S.ls[c]? = some L := ⟨_, List.getElem?_eq_getElem hc⟩
  obtain ⟨lp, hlp⟩ : ∃ lp, ps[c]? = some lp := ⟨_, List.getElem?_eq_getElem (by rw [h.len]; exact hc)⟩
  obtain ⟨bp, qp, r, hI⟩ := h.ln c L lp hL hlp
  refine ⟨lp, L, bp, qp, r, ?_, hlp, hL, hI⟩
  unfold lineAt
  rw [h.len, if_pos ⟨by omega, by omega⟩, Int.toNat_natCast, List.getD_eq_getElem?_getD, hlp]
  rfl
theorem Queued_is {w : World} {p : Nat} {O : Nat → Nat} {v : Value} {ps : List Nat} {S : Sh} (h : IsS w p O v ps S) (c : Int) :
    Calls Try.prog 15 #[ptr p, .int .i64 c] w (AllOk w (S.queued c)) := by
  have HL := Lib.hid (line_is h c)
  by_cases hc : 0 ≤ c ∧ c < S.ls.length
  · obtain ⟨n, rfl⟩ := Int.eq_ofNat_of_zero_le hc.1
    obtain ⟨lp, L, bp, qp, r, hla, _, hL, hI⟩ := lineAt_some h (c := n) (by omega)
    have hq : S.queued (n : Int) = L.Q.L := by
      unfold Sh.queued
      rw [if_neg (by omega), Int.toNat_natCast, hL]
    rw [hla] at HL
    rw [hq]
    have c5 : w.cell? ⟨lp, 5, none⟩ = some (.pointer (some ⟨qp, 0, none⟩)) := cell_of_block hI.blk 5
    have HQ := Lib.hid (all_q hI.q)
    clear h hla hL hI hq hc
    unfold ptr at *
    go_enter Try.func15, Try.ntmps15
    go_wp2_with fail
    refine HL.out.mono ?_
    rintro e w1 ⟨rfl, rfl⟩
    go_wp2_with fail
    refine HQ.out.mono ?_
    rintro e w2 ⟨v2, ys, F, rfl, hN, hB⟩
    go_wp2_with fail
    go_ret
    exact ⟨_, ys, F, rfl, hN, hB⟩
  · have hq : S.queued c = [] := by
      unfold Sh.queued
      split
      · rfl
      · rw [List.getElem?_eq_none (by omega)]
    rw [lineAt_none h hc] at HL
    rw [hq]
    clear h hq hc
    unfold ptr at *
    go_enter Try.func15, Try.ntmps15
    go_wp2_with fail
    refine HL.out.mono ?_
    rintro e w1 ⟨rfl, rfl⟩
    go_wp2_with fail
    go_ret
    exact ⟨_, [], _, rfl, newI_nil _, Below.refl _ _⟩
end Go.Proofs.Ythipfcmjpgbemaa

/- Stat; a head that goes out; an offer: walked. -/
namespace Go.Proofs.Ythipfcmjpgbemaa
open Go.RowKit

/-! ### Stat -/
/-- What is counted of a class. -/
def statArr (o d u b : Nat) : Array Value := #[.int .u64 o, .int .u64 d, .int .u64 u, .int .u64 b]
def Sh.stat (S : Sh) (c : Int) : Array Value := if c < 0 then statArr 0 0 0 0 else match S.ls[c.toNat]? with | some L => statArr L.off L.drp L.out L.byt | none => statArr 0 0 0 0
theorem set4_blk {w : World} {b : Nat} {x0 x1 x2 x3 : Value} {t : TypeId} (h : w.heap[b]? = some (.cells #[x0, x1, x2, x3] t (0, 0))) (y0 y1 y2 y3 : Value) :
    ((((w.setCell ⟨b, 0, none⟩ y0).setCell ⟨b, 1, none⟩ y1).setCell ⟨b, 2, none⟩ y2).setCell ⟨b, 3, none⟩ y3).heap[b]? = some (.cells #[y0, y1, y2, y3] t (0, 0)) ∧ Only (· = b) w ((((w.setCell ⟨b, 0, none⟩ y0).setCell ⟨b, 1, none⟩ y1).setCell ⟨b, 2, none⟩ y2).setCell ⟨b, 3, none⟩ y3) := by
  refine ⟨?_, ((((Only.refl (· = b) w).setCell (p := ⟨b, 0, none⟩) (fun _ => rfl) _).setCell (p := ⟨b, 1, none⟩) (fun _ => rfl) _).setCell (p := ⟨b, 2, none⟩) (fun _ => rfl) _).setCell (p := ⟨b, 3, none⟩) (fun _ => rfl) _⟩
  exact setCell_block (setCell_block (setCell_block (setCell_block h 0 _) 1 _) 2 _) 3 _
theorem Stat_nil (c : Int) (w : World) : Calls Try.prog 24 #[.pointer none, .int .i64 c] w fun e w' => e = .returned (.agg (statArr 0 0 0 0)) ∧ Below w.heap.size w w' := by
  go_enter Try.func24, Try.ntmps24
  go_wp2_with fail
  have hA : Below w.heap.size w (w.alloc (.cells #[.int .u64 0, .int .u64 0, .int .u64 0, .int .u64 0] 67)) := (Below.refl _ _).alloc (Nat.le_refl _) _
  have g := alloc_block_new w (.cells #[.int .u64 0, .int .u64 0, .int .u64 0, .int .u64 0] 67)
  generalize w.alloc (.cells #[.int .u64 0, .int .u64 0, .int .u64 0, .int .u64 0] 67) = wa at *
  generalize hW : w.heap.size = bw at *
  have g0 : wa.cell? ⟨bw, 0, none⟩ = some (.int .u64 0) := cell_of_block g 0
  have g1 : wa.cell? ⟨bw, 1, none⟩ = some (.int .u64 0) := cell_of_block g 1
  have g2 : wa.cell? ⟨bw, 2, none⟩ = some (.int .u64 0) := cell_of_block g 2
  have g3 : wa.cell? ⟨bw, 3, none⟩ = some (.int .u64 0) := cell_of_block g 3
  have k0 : wa.frozen? ⟨bw, 0, none⟩ = false := free_of_block g 0
  have k1 : wa.frozen? ⟨bw, 1, none⟩ = false := free_of_block g 1
  have k2 : wa.frozen? ⟨bw, 2, none⟩ = false := free_of_block g 2
  have k3 : wa.frozen? ⟨bw, 3, none⟩ = false := free_of_block g 3
  have GG := Lib.hid (And.intro hW (And.intro hA g))
  clear hW hA g
  refine (line_nil c wa).mono ?_
  rintro e w1 ⟨rfl, rfl⟩
  go_wp2_with fail
  obtain ⟨hb5, hO5⟩ := set4_blk GG.out.2.2 (.int .u64 0) (.int .u64 0) (.int .u64 0) (.int .u64 0)
  generalize (((w1.setCell ⟨bw, 0, none⟩ (.int .u64 0)).setCell ⟨bw, 1, none⟩ (.int .u64 0)).setCell ⟨bw, 2, none⟩ (.int .u64 0)).setCell ⟨bw, 3, none⟩ (.int .u64 0) = w5 at *
  have q0 : w5.cell? ⟨bw, 0, none⟩ = some (.int .u64 0) := cell_of_block hb5 0
  have q1 : w5.cell? ⟨bw, 1, none⟩ = some (.int .u64 0) := cell_of_block hb5 1
  have q2 : w5.cell? ⟨bw, 2, none⟩ = some (.int .u64 0) := cell_of_block hb5 2
  have q3 : w5.cell? ⟨bw, 3, none⟩ = some (.int .u64 0) := cell_of_block hb5 3
  clear g0 g1 g2 g3 k0 k1 k2 k3
  try go_wp2_with fail
  exact bodyPost_ret (v := .agg (statArr 0 0 0 0)) (by simp [results, Try.results24, go_sem, q0, q1, q2, q3, statArr]) rfl ⟨rfl, by rw [GG.out.1]; exact GG.out.2.1.trans (hO5.below (by have := GG.out.2.1.size; have := GG.out.1; omega) (fun k hk e => by have := GG.out.1; omega))⟩
set_option maxRecDepth 100000 in
theorem Stat_is {w : World} {p : Nat} {O : Nat → Nat} {v : Value} {ps : List Nat} {S : Sh} (h : IsS w p O v ps S) (c : Int) :
    Calls Try.prog 24 #[ptr p, .int .i64 c] w fun e w' => e = .returned (.agg (S.stat c)) ∧ Below w.heap.size w w' := by
  have hA : Below w.heap.size w (w.alloc (.cells #[.int .u64 0, .int .u64 0, .int .u64 0, .int .u64 0] 67)) := (Below.refl _ _).alloc (Nat.le_refl _) _
  have g := alloc_block_new w (.cells #[.int .u64 0, .int .u64 0, .int .u64 0, .int .u64 0] 67)
  have h := h.below hA
  have HL := Lib.hid (line_is h c)
  unfold ptr at HL
  unfold ptr
  go_enter Try.func24, Try.ntmps24
  go_wp2_with fail
  generalize w.alloc (.cells #[.int .u64 0, .int .u64 0, .int .u64 0, .int .u64 0] 67) = wa at *
  generalize hW : w.heap.size = bw at *
  by_cases hc : 0 ≤ c ∧ c < S.ls.length
  · obtain ⟨n, rfl⟩ := Int.eq_ofNat_of_zero_le hc.1
    obtain ⟨lp, L, bp, qp, r, hla, _, hL, hI⟩ := lineAt_some h (c := n) (by omega)
    have hq : S.stat (n : Int) = statArr L.off L.drp L.out L.byt := by
      unfold Sh.stat
      rw [if_neg (by omega), Int.toNat_natCast, hL]
    have HQ := Lib.hid (hq)
    rw [hla] at HL
    unfold ptr at HL
    have y0 : wa.cell? ⟨lp, 0, none⟩ = some (.int .u64 L.off) := cell_of_block hI.blk 0
    have y1 : wa.cell? ⟨lp, 1, none⟩ = some (.int .u64 L.drp) := cell_of_block hI.blk 1
    have y2 : wa.cell? ⟨lp, 2, none⟩ = some (.int .u64 L.out) := cell_of_block hI.blk 2
    have y3 : wa.cell? ⟨lp, 3, none⟩ = some (.int .u64 L.byt) := cell_of_block hI.blk 3

    have HL0 := Lib.hid (load_cnt y0)
    have HL1 := Lib.hid (load_cnt y1)
    have HL2 := Lib.hid (load_cnt y2)
    have HL3 := Lib.hid (load_cnt y3)
    clear h hla hL hI hq hc HL0 HL1 HL2 HL3
    refine HL.out.mono ?_
    rintro e w1 ⟨rfl, rfl⟩
    clear HL
    go_wp2_with fail
    refine region_tail 21 (by kernel_rfl) (by kernel_rfl) ?_
    simp only [List.take_succ_cons, List.take_zero, List.drop_succ_cons, List.drop_zero]
    have y0 : w1.drew.cell? ⟨lp, 0, none⟩ = some (.int .u64 L.off) := y0
    have y1 : w1.drew.cell? ⟨lp, 1, none⟩ = some (.int .u64 L.drp) := y1
    have y2 : w1.drew.cell? ⟨lp, 2, none⟩ = some (.int .u64 L.out) := y2
    have y3 : w1.drew.cell? ⟨lp, 3, none⟩ = some (.int .u64 L.byt) := y3
    have g := (show w1.drew.heap[bw]? = _ from g)
    have hA := hA.drew
    have g0 : w1.drew.cell? ⟨bw, 0, none⟩ = some (.int .u64 0) := cell_of_block g 0
    have g1 : w1.drew.cell? ⟨bw, 1, none⟩ = some (.int .u64 0) := cell_of_block g 1
    have g2 : w1.drew.cell? ⟨bw, 2, none⟩ = some (.int .u64 0) := cell_of_block g 2
    have g3 : w1.drew.cell? ⟨bw, 3, none⟩ = some (.int .u64 0) := cell_of_block g 3
    have k0 : w1.drew.frozen? ⟨bw, 0, none⟩ = false := free_of_block g 0
    have k1 : w1.drew.frozen? ⟨bw, 1, none⟩ = false := free_of_block g 1
    have k2 : w1.drew.frozen? ⟨bw, 2, none⟩ = false := free_of_block g 2
    have k3 : w1.drew.frozen? ⟨bw, 3, none⟩ = false := free_of_block g 3
    have GG := Lib.hid (And.intro hW (And.intro hA g))
    clear hW hA g
    generalize w1.drew = w2 at *
    repeat still_step
    still_call (load_cnt y0)
    repeat still_step
    still_call (load_cnt y1)
    repeat still_step
    still_call (load_cnt y2)
    repeat still_step
    still_call (load_cnt y3)
    repeat still_step
    refine wpStill_nil ?_
    go_wp2_with fail
    obtain ⟨hb5, hO5⟩ := set4_blk GG.out.2.2 (.int .u64 L.off) (.int .u64 L.drp) (.int .u64 L.out) (.int .u64 L.byt)
    generalize (((w2.setCell ⟨bw, 0, none⟩ (.int .u64 L.off)).setCell ⟨bw, 1, none⟩ (.int .u64 L.drp)).setCell ⟨bw, 2, none⟩ (.int .u64 L.out)).setCell ⟨bw, 3, none⟩ (.int .u64 L.byt) = w5 at *
    have q0 : w5.cell? ⟨bw, 0, none⟩ = some (.int .u64 L.off) := cell_of_block hb5 0
    have q1 : w5.cell? ⟨bw, 1, none⟩ = some (.int .u64 L.drp) := cell_of_block hb5 1
    have q2 : w5.cell? ⟨bw, 2, none⟩ = some (.int .u64 L.out) := cell_of_block hb5 2
    have q3 : w5.cell? ⟨bw, 3, none⟩ = some (.int .u64 L.byt) := cell_of_block hb5 3
    clear g0 g1 g2 g3 k0 k1 k2 k3
    try go_wp2_with fail
    exact bodyPost_ret (v := .agg (statArr L.off L.drp L.out L.byt)) (by simp [results, Try.results24, go_sem, q0, q1, q2, q3, statArr]) rfl ⟨by rw [HQ.out], by rw [GG.out.1]; exact GG.out.2.1.trans (hO5.below (by have := GG.out.2.1.size; have := GG.out.1; omega) (fun k hk e => by have := GG.out.1; omega))⟩
  · have hq : S.stat c = statArr 0 0 0 0 := by
      unfold Sh.stat
      split
      · rfl
      · rw [List.getElem?_eq_none (by omega)]
    have HQ := Lib.hid (hq)
    rw [lineAt_none h hc] at HL
    have g0 : wa.cell? ⟨bw, 0, none⟩ = some (.int .u64 0) := cell_of_block g 0
    have g1 : wa.cell? ⟨bw, 1, none⟩ = some (.int .u64 0) := cell_of_block g 1
    have g2 : wa.cell? ⟨bw, 2, none⟩ = some (.int .u64 0) := cell_of_block g 2
    have g3 : wa.cell? ⟨bw, 3, none⟩ = some (.int .u64 0) := cell_of_block g 3
    have k0 : wa.frozen? ⟨bw, 0, none⟩ = false := free_of_block g 0
    have k1 : wa.frozen? ⟨bw, 1, none⟩ = false := free_of_block g 1
    have k2 : wa.frozen? ⟨bw, 2, none⟩ = false := free_of_block g 2
    have k3 : wa.frozen? ⟨bw, 3, none⟩ = false := free_of_block g 3
    have GG := Lib.hid (And.intro hW (And.intro hA g))
    clear hW hA g
    clear h hq hc
    refine HL.out.mono ?_
    rintro e w1 ⟨rfl, rfl⟩
    go_wp2_with fail
    obtain ⟨hb5, hO5⟩ := set4_blk GG.out.2.2 (.int .u64 0) (.int .u64 0) (.int .u64 0) (.int .u64 0)
    generalize (((w1.setCell ⟨bw, 0, none⟩ (.int .u64 0)).setCell ⟨bw, 1, none⟩ (.int .u64 0)).setCell ⟨bw, 2, none⟩ (.int .u64 0)).setCell ⟨bw, 3, none⟩ (.int .u64 0) = w5 at *
    have q0 : w5.cell? ⟨bw, 0, none⟩ = some (.int .u64 0) := cell_of_block hb5 0
    have q1 : w5.cell? ⟨bw, 1, none⟩ = some (.int .u64 0) := cell_of_block hb5 1
    have q2 : w5.cell? ⟨bw, 2, none⟩ = some (.int .u64 0) := cell_of_block hb5 2
    have q3 : w5.cell? ⟨bw, 3, none⟩ = some (.int .u64 0) := cell_of_block hb5 3
    clear g0 g1 g2 g3 k0 k1 k2 k3
    try go_wp2_with fail
    exact bodyPost_ret (v := .agg (statArr 0 0 0 0)) (by simp [results, Try.results24, go_sem, q0, q1, q2, q3, statArr]) rfl ⟨by rw [HQ.out], by rw [GG.out.1]; exact GG.out.2.1.trans (hO5.below (by have := GG.out.2.1.size; have := GG.out.1; omega) (fun k hk e => by have := GG.out.1; omega))⟩
end Go.Proofs.Ythipfcmjpgbemaa

/- A head that goes out: walked. -/
namespace Go.Proofs.Ythipfcmjpgbemaa
open Go.RowKit

theorem Only.after {S T : Nat → Prop} {a b c : World} (h : Only S a b) (k : Only T b c) (hT : ∀ j, j < a.heap.size → ¬ S j → ¬ T j) : Only S a c :=
  ⟨k.os.trans h.os, k.tape.trans h.tape, k.output.trans h.output, Nat.le_trans h.size k.size, fun j hj hs => (k.block j (Nat.lt_of_lt_of_le hj h.size) (hT j hj hs)).trans (h.block j hj hs)⟩

/-- A line whose head x goes out at a tick. -/
def outL (L : Ln) (t : Nat) (x : It) (l : List It) : Ln := ⟨L.off, L.drp, L.out + 1, L.byt + x.size, L.B.take t x.size, popped L.Q l⟩
def OutOk (w : World) (lp bp qp : Nat) (r : Nat → Nat) (L' : Ln) (x : It) (e : Ending) (w' : World) : Prop :=
  ∃ y, e = .returned (.agg #[.int .u64 x.no, .int .i64 x.size, y]) ∧ Own8 w' w.heap.size y x.data ∧ w'.heap[lp]? = some (.cells (L'.cells bp qp) 88 (0, 0)) ∧ IsB w' bp L'.B ∧ Que w' qp r L'.Q ∧ Only (fun k => k = lp ∨ k = bp ∨ r k ≠ 0) w w'

set_option maxRecDepth 100000 in
theorem out_is {w : World} {O : Nat → Nat} {c lp bp qp t : Nat} {r : Nat → Nat} {L : Ln} {x : It} {l : List It} (hI : IsL w O c lp bp qp r L) (hq : L.Q.L = x :: l) (hB : L.B.Ok) (ht : t < 18446744073709551616) (hx : x.size ≤ 2048) (ho : L.out ≤ 1000000) (hy : L.byt ≤ 10000000000) :
    Calls Try.prog 32 #[ptr lp, .int .u64 t] w (OutOk w lp bp qp r (outL L t x l) x) := by
  unfold ptr
  have hA : Below w.heap.size w (w.alloc (.cells #[.int .u64 0, .int .i64 0, .slice none 0 0] 34)) := (Below.refl _ _).alloc (Nat.le_refl _) _
  have g := alloc_block_new w (.cells #[.int .u64 0, .int .i64 0, .slice none 0 0] 34)
  have hI1 := hI.keep (Below.only hA (fun _ => False)) (fun h => h) (fun h => h) (fun _ _ h => h)
  have hlp := lt_of_obj hI.blk
  have hbp := lt_of_obj hI.b
  have hqr := hI.q.lt
  go_enter Try.func32, Try.ntmps32
  go_upto_region 1 with (fail)
  generalize w.alloc (.cells #[.int .u64 0, .int .i64 0, .slice none 0 0] 34) = w1 at *
  have c5 : w1.cell? ⟨lp, 5, none⟩ = some (.pointer (some ⟨qp, 0, none⟩)) := cell_of_block hI1.blk 5
  have HG := Lib.hid (And.intro hA g)
  have HP := Lib.hid (pop_q x l hI1.q hq)
  clear hA g
  go_wp2_with fail
  refine HP.out.mono ?_
  rintro e w2 ⟨y, rfl, hQ2, hO2, hy2⟩
  obtain ⟨ya, yc, rfl⟩ := own_shape hy2
  go_wp2_with fail
  have hrl : ∀ k, O k ≠ 5 + 3 * c → ¬ r k ≠ 0 := fun k hk h => hk (hI.oq k h)
  have hlb := hO2.keep hI1.blk (hrl lp (by rw [hI.ol]; omega))
  have hbb := hO2.keep hI1.b (hrl bp (by rw [hI.ob]; omega))
  have hg2 := hO2.keep HG.out.2 (fun h => by have := hqr _ h; omega)
  have hA3 : Below w2.heap.size w2 (w2.alloc (.cells #[.int .u64 x.no, .int .i64 x.size, .slice ya x.data.length yc] 34)).drew := ((Below.refl _ _).alloc (Nat.le_refl _) _).drew
  have gx : (w2.alloc (.cells #[.int .u64 x.no, .int .i64 x.size, .slice ya x.data.length yc] 34)).drew.heap[w2.heap.size]? = _ := alloc_block_new w2 (.cells #[.int .u64 x.no, .int .i64 x.size, .slice ya x.data.length yc] 34)
  refine region_tail 8 (by kernel_rfl) (by kernel_rfl) ?_
  simp only [List.take_succ_cons, List.take_zero, List.drop_succ_cons, List.drop_zero]
  generalize (w2.alloc (.cells #[.int .u64 x.no, .int .i64 x.size, .slice ya x.data.length yc] 34)).drew = w3 at *
  have hlb3 := (hA3.block _ (lt_of_obj hlb)).trans hlb
  have hbb3 := (hA3.block _ (lt_of_obj hbb)).trans hbb
  have hg3 := (hA3.block _ (lt_of_obj hg2)).trans hg2
  have hQ3 := hQ2.below hA3
  have hy3 := own_below hy2 hA3
  have hO3 : Only (fun k => k = lp ∨ k = bp ∨ r k ≠ 0) w w3 := ((Below.only HG.out.1 _).trans (hO2.mono fun k _ h => .inr (.inr h))).trans (Below.only hA3 _)
  have hbx : w.heap.size < w2.heap.size := Nat.lt_of_lt_of_le (lt_of_obj HG.out.2) hO2.size
  generalize w2.heap.size = bx at *
  obtain ⟨bw, hbw⟩ : ∃ bw, w.heap.size = bw := ⟨_, rfl⟩
  have hw64 : IntKind.u64.wrap (x.size : Int) = x.size := IntWalk.u64_in _ (by omega)
  have c4 : w3.cell? ⟨lp, 4, none⟩ = some (.pointer (some ⟨bp, 0, none⟩)) := cell_of_block hlb3 4
  have x1 : w3.cell? ⟨bx, 1, none⟩ = some (.int .i64 x.size) := cell_of_block gx 1
  have HT := Lib.hid (take_is bp t x.size w3 hbb3 hB ht rfl rfl)
  repeat still_step
  refine wpStill_nil ?_
  have HX := Lib.hid (And.intro hlb3 (And.intro hg3 (And.intro gx (And.intro hQ3 (And.intro hy3 hO3)))))
  clear hlb3 hg3 gx hQ3 hy3 hO3 hA3 hlb hbb hg2 hbb3
  go_wp2_with fail
  refine HT.out.mono ?_
  rintro e w4 ⟨rfl, hb4, hO4⟩
  obtain ⟨hlb3, hg3, gx, hQ3, hy3, hO3⟩ := HX.out
  clear HT c4 x1 HX HP
  have hlbne : ¬ lp = bp := fun e => by have h1 := hI.ol; have h2 := hI.ob; rw [e] at h1; omega
  have hbpr : ¬ r bp ≠ 0 := fun h => by have h1 := hI.oq bp h; have h2 := hI.ob; omega
  have hlb4 := hO4.keep hlb3 hlbne
  have hg4 := hO4.keep hg3 (by omega)
  have gx4 := hO4.keep gx (by omega)
  have hQ4 := hQ3.keep hO4 (fun k hk e => hbpr (e ▸ hk))
  have hy4 := own_only hy3 hO4 (fun k hk e => by have := own_ge hy3 k hk; have := HG.out.1.size; omega)
  have hO4' := hO3.trans (hO4.mono fun k _ h => .inr (.inl h))
  clear hlb3 hg3 gx hQ3 hy3 hO3 hO4
  have a2 : w4.cell? ⟨lp, 2, none⟩ = some (.int .u64 L.out) := cell_of_block hlb4 2
  have HA2 := Lib.hid (add_cnt (y := 1) a2 (free_of_block hlb4 2) (by omega))
  clear a2
  go_wp2_with fail
  refine HA2.out.mono ?_
  rintro e w5 ⟨rfl, hw5⟩
  clear HA2
  have hlpr : ¬ r lp ≠ 0 := fun h => by have h1 := hI.oq lp h; have h2 := hI.ol; omega
  have hO5 : Only (· = lp) w4 w5 := by rw [hw5]; exact Only.setCell (S := (· = lp)) (p := ⟨lp, 2, none⟩) (Only.refl _ _) (fun _ => rfl) _
  have hlb5 : w5.heap[lp]? = some (.cells #[.int .u64 L.off, .int .u64 L.drp, .int .u64 ((L.out + 1 : Nat) : Int), .int .u64 L.byt, ptr bp, ptr qp] 88 (0, 0)) := by rw [hw5]; exact setCell_block hlb4 2 _
  have hb5 := hO5.keep hb4 (fun e => hlbne e.symm)
  have hg5 := hO5.keep hg4 (by omega)
  have gx5 := hO5.keep gx4 (by omega)
  have hQ5 := hQ4.keep hO5 (fun k hk e => hlpr (e ▸ hk))
  have hy5 := own_only hy4 hO5 (fun k hk e => by have := own_ge hy4 k hk; have := HG.out.1.size; omega)
  have hO5' := hO4'.trans (hO5.mono fun k _ h => .inl h)
  clear hlb4 hg4 gx4 hQ4 hy4 hO5 hw5 hb4 hO4'
  have hlb5 : w5.drew.heap[lp]? = _ := hlb5
  have hb5 : w5.drew.heap[bp]? = _ := hb5
  have hg5 : w5.drew.heap[w.heap.size]? = _ := hg5
  have gx5 : w5.drew.heap[bx]? = _ := gx5
  have hQ5 := hQ5.below ((Below.refl w5.heap.size w5).drew)
  have hy5 := own_below hy5 ((Below.refl w5.heap.size w5).drew)
  have hO5' := hO5'.drew
  go_wp2_with fail
  refine region_tail 7 (by kernel_rfl) (by kernel_rfl) ?_
  simp only [List.take_succ_cons, List.take_zero, List.drop_succ_cons, List.drop_zero]
  generalize w5.drew = w5 at *
  have x1 : w5.cell? ⟨bx, 1, none⟩ = some (.int .i64 x.size) := cell_of_block gx5 1
  have a3 : w5.cell? ⟨lp, 3, none⟩ = some (.int .u64 L.byt) := cell_of_block hlb5 3
  have HA3 := Lib.hid (add_cnt (y := x.size) a3 (free_of_block hlb5 3) (by omega))
  clear a3
  have HX := Lib.hid (And.intro hlb5 (And.intro hg5 (And.intro gx5 (And.intro hQ5 (And.intro hy5 (And.intro hO5' hb5))))))
  clear hlb5 hg5 gx5 hQ5 hy5 hO5' hb5
  repeat still_step
  refine wpStill_nil ?_
  go_wp2_with fail
  refine HA3.out.mono ?_
  rintro e w6 ⟨rfl, hw6⟩
  clear HA3 x1
  obtain ⟨hlb5, hg5, gx5, hQ5, hy5, hO5', hb5⟩ := HX.out
  have hO6 : Only (· = lp) w5 w6 := by rw [hw6]; exact Only.setCell (S := (· = lp)) (p := ⟨lp, 3, none⟩) (Only.refl _ _) (fun _ => rfl) _
  have hlb6 : w6.heap[lp]? = some (.cells ((outL L t x l).cells bp qp) 88 (0, 0)) := by rw [hw6]; exact setCell_block hlb5 3 _
  have hb6 := hO6.keep hb5 (fun e => hlbne e.symm)
  have hg6 := hO6.keep hg5 (by omega)
  have gx6 := hO6.keep gx5 (by omega)
  have hQ6 := hQ5.keep hO6 (fun k hk e => hlpr (e ▸ hk))
  have hy6 := own_only hy5 hO6 (fun k hk e => by have := own_ge hy5 k hk; have := HG.out.1.size; omega)
  have hO6' := hO5'.trans (hO6.mono fun k _ h => .inl h)
  clear hlb5 hg5 gx5 hQ5 hy5 hO6 hw6 hb5 hO5' HX
  have x0 : w6.cell? ⟨bx, 0, none⟩ = some (.int .u64 x.no) := cell_of_block gx6 0
  have x1 : w6.cell? ⟨bx, 1, none⟩ = some (.int .i64 x.size) := cell_of_block gx6 1
  have x2 : w6.cell? ⟨bx, 2, none⟩ = some (.slice ya x.data.length yc) := cell_of_block gx6 2
  rw [hbw] at hg6
  have g0 : w6.cell? ⟨bw, 0, none⟩ = some (.int .u64 0) := cell_of_block hg6 0
  have g1 : w6.cell? ⟨bw, 1, none⟩ = some (.int .i64 0) := cell_of_block hg6 1
  have g2 : w6.cell? ⟨bw, 2, none⟩ = some (.slice none 0 0) := cell_of_block hg6 2
  have k0 : w6.frozen? ⟨bw, 0, none⟩ = false := free_of_block hg6 0
  have k1 : w6.frozen? ⟨bw, 1, none⟩ = false := free_of_block hg6 1
  have k2 : w6.frozen? ⟨bw, 2, none⟩ = false := free_of_block hg6 2
  have HX := Lib.hid (And.intro hlb6 (And.intro hg6 (And.intro hQ6 (And.intro hy6 (And.intro hO6' hb6)))))
  clear hlb6 hg6 gx6 hQ6 hy6 hO6' hb6
  go_wp2_with fail
  obtain ⟨hlb6, hg6, hQ6, hy6, hO6', hb6⟩ := HX.out
  have hO7 : Only (· = bw) w6 (((w6.setCell ⟨bw, 0, none⟩ (.int .u64 x.no)).setCell ⟨bw, 1, none⟩ (.int .i64 x.size)).setCell ⟨bw, 2, none⟩ (.slice ya x.data.length yc)) := (((Only.refl (· = bw) w6).setCell (p := ⟨bw, 0, none⟩) (fun _ => rfl) _).setCell (p := ⟨bw, 1, none⟩) (fun _ => rfl) _).setCell (p := ⟨bw, 2, none⟩) (fun _ => rfl) _
  have hg7 : (((w6.setCell ⟨bw, 0, none⟩ (.int .u64 x.no)).setCell ⟨bw, 1, none⟩ (.int .i64 x.size)).setCell ⟨bw, 2, none⟩ (.slice ya x.data.length yc)).heap[bw]? = some (.cells #[.int .u64 x.no, .int .i64 x.size, .slice ya x.data.length yc] 34 (0, 0)) := setCell_block (setCell_block (setCell_block hg6 0 _) 1 _) 2 _
  generalize ((w6.setCell ⟨bw, 0, none⟩ (.int .u64 x.no)).setCell ⟨bw, 1, none⟩ (.int .i64 x.size)).setCell ⟨bw, 2, none⟩ (.slice ya x.data.length yc) = w7 at *
  have q0 : w7.cell? ⟨bw, 0, none⟩ = some (.int .u64 x.no) := cell_of_block hg7 0
  have q1 : w7.cell? ⟨bw, 1, none⟩ = some (.int .i64 x.size) := cell_of_block hg7 1
  have q2 : w7.cell? ⟨bw, 2, none⟩ = some (.slice ya x.data.length yc) := cell_of_block hg7 2
  clear x0 x1 x2 g0 g1 g2 k0 k1 k2
  have hy7 := own_only hy6 hO7 (fun k hk e => by
    have h1 := own_ge hy6 k hk
    have h2 := lt_of_obj HG.out.2
    omega)
  refine bodyPost_ret (v := .agg #[.int .u64 x.no, .int .i64 x.size, .slice ya x.data.length yc]) (by simp [results, Try.results32, go_sem, q0, q1, q2]) rfl ⟨_, rfl, own_lower hy7 HG.out.1.size, hO7.keep hlb6 (by omega), hO7.keep hb6 (by omega), hQ6.keep hO7 (fun k hk e => by have := hqr k hk; omega), ?_⟩
  exact hO6'.after hO7 (fun k hk _ e => by omega)
end Go.Proofs.Ythipfcmjpgbemaa

/- An offer: walked. -/
namespace Go.Proofs.Ythipfcmjpgbemaa
open Go.RowKit

/-- A line behind an offer of an item of a size that may be. -/
def offL (L : Ln) (no : Nat) (sz : Int) (ds : List Nat) : Ln := ⟨L.off + 1, L.drp + (if pushC L.Q sz = 110 then 1 else 0), L.out, L.byt, L.B, pushA L.Q no sz ds⟩

set_option maxRecDepth 100000 in
theorem Offer_nil (c : Int) (no : Nat) (sz : Int) (y : Value) (a : Option Addr) (n m : Nat) (hy : y = .slice a n m) (w : World) :
    Calls Try.prog 11 #[.pointer none, .int .i64 c, .agg #[.int .u64 no, .int .i64 sz, y]] w fun e w' => e = .returned (.int .i64 1) ∧ Below w.heap.size w w' := by
  subst hy
  have hA : Below w.heap.size w (w.alloc (.cells #[.int .u64 no, .int .i64 sz, .slice a n m] 34)) := (Below.refl _ _).alloc (Nat.le_refl _) _
  go_enter Try.func11, Try.ntmps11
  go_wp2_with fail
  refine (line_nil c _).mono ?_
  rintro e w1 ⟨rfl, rfl⟩
  go_wp2_with fail
  go_ret
  exact ⟨rfl, hA⟩

set_option maxRecDepth 100000 in
theorem Offer_ok (no : Nat) (sz : Int) (y : Value) (ds : List Nat) {w : World} {p c n : Nat} {O : Nat → Nat} {v : Value} {ps : List Nat} {S : Sh} {L : Ln} (h : IsS w p O v ps S) (hc : S.ls[c]? = some L) (hL : L.Ok n) (hn : n ≤ 1000000) (hs0 : 0 ≤ sz) (hs1 : sz ≤ 2048)
    (hy : Holds8 w y ds) (hyr : 0 < ds.length → ∀ k, y.ownBlock = some k → O k = 0) (hd : ds.length ≤ 1000000) :
    Calls Try.prog 11 #[ptr p, .int .i64 c, .agg #[.int .u64 no, .int .i64 sz, y]] w fun e w' => e = .returned (.int .i64 (pushC L.Q sz)) ∧ ∃ O', IsS w' p O' v ps { S with ls := S.ls.set c (offL L no sz ds) } ∧ Grow O O' w w' := by
  obtain ⟨ya, yc, ey, _⟩ := id hy
  subst ey
  have hA : Below w.heap.size w (w.alloc (.cells #[.int .u64 no, .int .i64 sz, .slice ya ds.length yc] 34)) := (Below.refl _ _).alloc (Nat.le_refl _) _
  have g := alloc_block_new w (.cells #[.int .u64 no, .int .i64 sz, .slice ya ds.length yc] 34)
  have h1 := h.below hA
  have hcl := (List.getElem?_eq_some_iff.1 hc).1
  obtain ⟨lp, L', bp, qp, r, hla, hlp, hL', hI⟩ := lineAt_some h1 hcl
  rw [hc] at hL'
  injection hL' with hL'
  subst hL'
  have HL := Lib.hid (line_is h1 c)
  rw [hla] at HL
  have hp := lt_of_obj h.blk
  unfold ptr at HL
  unfold ptr
  go_enter Try.func11, Try.ntmps11
  go_upto_region 1 with (fail)
  have hy1 := hy.below hA
  have hxr : 0 < ds.length → ∀ k, (Value.slice ya ds.length yc).ownBlock = some k → r k = 0 := fun h0 k hk => by
    rcases Nat.eq_zero_or_pos (r k) with e | e
    · exact e
    · have := hyr h0 k hk
      have := hI.oq k (by omega)
      omega
  have x1 : (w.alloc (.cells #[.int .u64 no, .int .i64 sz, .slice ya ds.length yc] 34)).cell? ⟨w.heap.size, 1, none⟩ = some (.int .i64 sz) := cell_of_block g 1
  have HA := Lib.hid hA
  have HZ := Lib.hid (And.intro h1 (And.intro hI (And.intro g (And.intro hy1 hxr))))
  clear hy hy1 hxr hyr g hA h1 hI hla
  generalize w.alloc (.cells #[.int .u64 no, .int .i64 sz, .slice ya ds.length yc] 34) = w1 at *
  generalize hbw : w.heap.size = bw at *
  have hpi : ¬ (sz < 0) := by omega
  have hpj : ¬ (2048 < sz) := by omega
  go_wp2_with fail
  refine HL.out.mono ?_
  rintro e w2 ⟨rfl, rfl⟩
  clear HL
  go_wp2_with fail
  refine region_tail 5 (by kernel_rfl) (by kernel_rfl) ?_
  simp only [List.take_succ_cons, List.take_zero, List.drop_succ_cons, List.drop_zero]
  have hD : Below w2.heap.size w2 w2.drew := (Below.refl _ _).drew
  have HZ := Lib.hid (And.intro (HZ.out.1.below hD) (And.intro (HZ.out.2.1.keep (Below.only hD (fun _ => False)) (fun h => h) (fun h => h) (fun _ _ h => h)) (And.intro ((hD.block _ (lt_of_obj HZ.out.2.2.1)).trans HZ.out.2.2.1) (And.intro (HZ.out.2.2.2.1.below hD) HZ.out.2.2.2.2))))
  have HA := Lib.hid (show Below bw w w2.drew from hbw ▸ HA.out.drew)
  clear hD x1
  generalize w2.drew = w2 at *
  have c5 : w2.cell? ⟨lp, 5, none⟩ = some (.pointer (some ⟨qp, 0, none⟩)) := cell_of_block HZ.out.2.1.blk 5
  have x0 : w2.cell? ⟨bw, 0, none⟩ = some (.int .u64 no) := cell_of_block HZ.out.2.2.1 0
  have x1 : w2.cell? ⟨bw, 1, none⟩ = some (.int .i64 sz) := cell_of_block HZ.out.2.2.1 1
  have x2 : w2.cell? ⟨bw, 2, none⟩ = some (.slice ya ds.length yc) := cell_of_block HZ.out.2.2.1 2
  have HPu := Lib.hid (push_any no sz _ ds HZ.out.2.1.q HZ.out.2.2.2.1 HZ.out.2.2.2.2 hd (Nat.le_trans hL.drops hn))
  repeat still_step
  refine wpStill_nil ?_
  go_wp2_with fail
  refine HPu.out.mono ?_
  rintro e w3 ⟨rfl, r', hQ3, hO3, hr3⟩
  clear x0 x1 x2 c5 HPu
  have hrl : ∀ k, O k ≠ 5 + 3 * c → ¬ r k ≠ 0 := fun k hk h => hk (HZ.out.2.1.oq k h)
  have hlb3 := hO3.keep HZ.out.2.1.blk (hrl lp (by rw [HZ.out.2.1.ol]; omega))
  have hbb3 := hO3.keep HZ.out.2.1.b (hrl bp (by rw [HZ.out.2.1.ob]; omega))
  have hlpr : ¬ r lp ≠ 0 := hrl lp (by rw [HZ.out.2.1.ol]; omega)
  have hlb : ¬ bp = lp := fun e => by have h1 := HZ.out.2.1.ol; have h2 := HZ.out.2.1.ob; rw [e] at h2; omega
  have hlw := lt_of_obj HZ.out.2.1.blk
  have hr3l : ∀ k, r' k ≠ 0 → ¬ k = lp := fun k hk e => by
    rcases hr3 k hk with h | h
    · exact hlpr (e ▸ h)
    · omega
  have a0 : w3.cell? ⟨lp, 0, none⟩ = some (.int .u64 L.off) := cell_of_block hlb3 0
  have HA0 := Lib.hid (add_cnt (y := 1) a0 (free_of_block hlb3 0) (by have := hL.off; omega))
  clear a0
  obtain ⟨cd, hcd⟩ : ∃ cd, pushC L.Q sz = cd := ⟨_, rfl⟩
  have HCD : Hid (pushC L.Q sz = cd) := hcd
  rw [hcd]
  have hcd2 : cd = 0 ∨ cd = 110 := by
    rw [← hcd]
    unfold pushC
    rw [if_neg (by omega)]
    split
    · exact .inl rfl
    · exact .inr rfl
  clear hcd
  have hGB : Grow O O w w2 := Grow.below (by rw [hbw]; exact HA.out)
  rcases hcd2 with rfl | rfl
  · go_wp2_with fail
    refine HA0.out.mono ?_
    rintro e w4 ⟨rfl, hw4⟩
    have HW4 := Lib.hid hw4
    clear hw4
    go_wp2_with fail
    go_ret
    refine ⟨by rw [HCD.out]; rfl, ?_⟩
    have hO4 : Only (· = lp) w3 w4 := by rw [HW4.out]; exact Only.setCell (S := (· = lp)) (p := ⟨lp, 0, none⟩) (Only.refl _ _) (fun _ => rfl) _
    have hlb4 : w4.heap[lp]? = some (.cells ((offL L no sz ds).cells bp qp) 88 (0, 0)) := by
      rw [HW4.out, setCell_block hlb3 0]
      unfold offL
      rw [HCD.out]
      rfl
    obtain ⟨O', h1, h2, -⟩ := HZ.out.1.set (L' := offL L no sz ds) hc hlp HZ.out.2.1 ((hO3.mono (fun k _ h => .inr (.inr h))).trans (hO4.mono fun k _ h => .inl h)) hlb4 (hO4.keep hbb3 hlb) (hQ3.keep hO4 hr3l) hr3
    exact ⟨O', h1, hGB.trans h2⟩
  · have hlb3' := hlb3
    go_wp2_with fail
    refine HA0.out.mono ?_
    rintro e w4 ⟨rfl, hw4⟩
    have HW4 := Lib.hid hw4
    clear hw4
    have hO4 : Only (· = lp) w3 w4 := by rw [HW4.out]; exact Only.setCell (S := (· = lp)) (p := ⟨lp, 0, none⟩) (Only.refl _ _) (fun _ => rfl) _
    have hlb4 : w4.heap[lp]? = some (.cells #[.int .u64 ((L.off + 1 : Nat) : Int), .int .u64 L.drp, .int .u64 L.out, .int .u64 L.byt, ptr bp, ptr qp] 88 (0, 0)) := by
      rw [HW4.out, setCell_block hlb3 0]
      rfl
    have a1 : w4.cell? ⟨lp, 1, none⟩ = some (.int .u64 L.drp) := cell_of_block hlb4 1
    have HA1 := Lib.hid (add_cnt (y := 1) a1 (free_of_block hlb4 1) (by have := hL.drp; omega))
    clear a1 HA0
    go_wp2_with fail
    refine HA1.out.mono ?_
    rintro e w5 ⟨rfl, hw5⟩
    have HW5 := Lib.hid hw5
    clear hw5
    go_wp2_with fail
    go_ret
    refine ⟨by rw [HCD.out]; rfl, ?_⟩
    have hO5 : Only (· = lp) w4 w5 := by rw [HW5.out]; exact Only.setCell (S := (· = lp)) (p := ⟨lp, 1, none⟩) (Only.refl _ _) (fun _ => rfl) _
    have hlb5 : w5.heap[lp]? = some (.cells ((offL L no sz ds).cells bp qp) 88 (0, 0)) := by
      rw [HW5.out, setCell_block hlb4 1]
      unfold offL
      rw [HCD.out]
      rfl
    have hO35 := hO4.trans hO5
    obtain ⟨O', h1, h2, -⟩ := HZ.out.1.set (L' := offL L no sz ds) hc hlp HZ.out.2.1 ((hO3.mono (fun k _ h => .inr (.inr h))).trans (hO35.mono fun k _ h => .inl h)) hlb5 (hO35.keep hbb3 hlb) (hQ3.keep hO35 hr3l) hr3
    exact ⟨O', h1, hGB.trans h2⟩

set_option maxRecDepth 100000 in
theorem Offer_bad (no : Nat) (sz : Int) (y : Value) (a : Option Addr) (m q : Nat) (hy : y = .slice a m q) {w : World} {p : Nat} {c : Int} {O : Nat → Nat} {v : Value} {ps : List Nat} {S : Sh} (h : IsS w p O v ps S) (hb : ¬ (0 ≤ c ∧ c < S.ls.length) ∨ sz < 0 ∨ 2048 < sz) :
    Calls Try.prog 11 #[ptr p, .int .i64 c, .agg #[.int .u64 no, .int .i64 sz, y]] w fun e w' => e = .returned (.int .i64 2) ∧ Below w.heap.size w w' := by
  subst hy
  have hA : Below w.heap.size w (w.alloc (.cells #[.int .u64 no, .int .i64 sz, .slice a m q] 34)) := (Below.refl _ _).alloc (Nat.le_refl _) _
  have g := alloc_block_new w (.cells #[.int .u64 no, .int .i64 sz, .slice a m q] 34)
  have h1 := h.below hA
  have x1 : (w.alloc (.cells #[.int .u64 no, .int .i64 sz, .slice a m q] 34)).cell? ⟨w.heap.size, 1, none⟩ = some (.int .i64 sz) := cell_of_block g 1
  have HL := Lib.hid (line_is h1 c)
  have HA := Lib.hid hA
  by_cases hc : 0 ≤ c ∧ c < S.ls.length
  · obtain ⟨n, rfl⟩ := Int.eq_ofNat_of_zero_le hc.1
    obtain ⟨lp, L', bp, qp, r, hla, -, -, -⟩ := lineAt_some h1 (c := n) (by omega)
    rw [hla] at HL
    have hs : sz < 0 ∨ ¬ sz < 0 ∧ 2048 < sz := by omega
    clear h h1 hA g hla hb hc
    unfold ptr at *
    go_enter Try.func11, Try.ntmps11
    go_upto_region 1 with (fail)
    generalize w.alloc (.cells #[.int .u64 no, .int .i64 sz, .slice a m q] 34) = w1 at *
    go_wp2_with fail
    refine HL.out.mono ?_
    rintro e w2 ⟨rfl, rfl⟩
    clear HL
    rcases hs with hs | ⟨hs, hs2⟩
    all_goals
      go_wp2_with fail
      go_ret
      exact ⟨rfl, HA.out⟩
  · rw [lineAt_none h1 hc] at HL
    clear h h1 hA g hb hc
    unfold ptr at *
    go_enter Try.func11, Try.ntmps11
    go_upto_region 1 with (fail)
    generalize w.alloc (.cells #[.int .u64 no, .int .i64 sz, .slice a m q] 34) = w1 at *
    go_wp2_with fail
    refine HL.out.mono ?_
    rintro e w2 ⟨rfl, rfl⟩
    clear HL x1
    go_wp2_with fail
    go_ret
    exact ⟨rfl, HA.out⟩
end Go.Proofs.Ythipfcmjpgbemaa
