/- Stat; a head that goes out; an offer: walked. -/
import Derived.Test.YthipfcmjpgbemaaSc
namespace Go.Proofs.Ythipfcmjpgbemaa
open Go.RowKit

/-! ### Stat -/
/-- What is counted of a class. -/
def statArr (o d u b : Nat) : Array Value := #[.int .u64 o, .int .u64 d, .int .u64 u, .int .u64 b]
def Sh.stat (S : Sh) (c : Int) : Array Value := if c < 0 then statArr 0 0 0 0 else match S.ls[c.toNat]? with | some L => statArr L.off L.drp L.out L.byt | none => statArr 0 0 0 0
theorem set4_blk {w : World} {b : Nat} {x0 x1 x2 x3 : Value} {t : TypeId} (h : w.heap[b]? = some (.cells #[x0, x1, x2, x3] t (0, 0))) (y0 y1 y2 y3 : Value) :
    ((((w.setCell ⟨b, 0, none⟩ y0).setCell ⟨b, 1, none⟩ y1).setCell ⟨b, 2, none⟩ y2).setCell ⟨b, 3, none⟩ y3).heap[b]? = some (.cells #[y0, y1, y2, y3] t (0, 0)) ∧ Only (· = b) w ((((w.setCell ⟨b, 0, none⟩ y0).setCell ⟨b, 1, none⟩ y1).setCell ⟨b, 2, none⟩ y2).setCell ⟨b, 3, none⟩ y3) := by
  refine ⟨?_, ((((Only.refl (· = b) w).setCell (p := ⟨b, 0, none⟩) (fun _ => rfl) _).setCell (p := ⟨b, 1, none⟩) (fun _ => rfl) _).setCell (p := ⟨b, 2, none⟩) (fun _ => rfl) _).setCell (p := ⟨b, 3, none⟩) (fun _ => rfl) _⟩
  exact setCell_block (setCell_block (setCell_block (setCell_block h 0 _) 1 _) 2 _) 3 _
theorem Stat_nil (c : Int) (w : World) : Calls Try.prog 24 #[.pointer none, .int .i64 c] w fun e w' => e = .returned (.agg (statArr 0 0 0 0)) ∧ Below w.heap.size w w' := by
  go_enter Try.func24, Try.ntmps24
  go_wp2_with fail
  have hA : Below w.heap.size w (w.alloc (.cells #[.int .u64 0, .int .u64 0, .int .u64 0, .int .u64 0] 67)) := (Below.refl _ _).alloc (Nat.le_refl _) _
  have g := alloc_block_new w (.cells #[.int .u64 0, .int .u64 0, .int .u64 0, .int .u64 0] 67)
  generalize w.alloc (.cells #[.int .u64 0, .int .u64 0, .int .u64 0, .int .u64 0] 67) = wa at *
  generalize hW : w.heap.size = bw at *
  have g0 : wa.cell? ⟨bw, 0, none⟩ = some (.int .u64 0) := cell_of_block g 0
  have g1 : wa.cell? ⟨bw, 1, none⟩ = some (.int .u64 0) := cell_of_block g 1
  have g2 : wa.cell? ⟨bw, 2, none⟩ = some (.int .u64 0) := cell_of_block g 2
  have g3 : wa.cell? ⟨bw, 3, none⟩ = some (.int .u64 0) := cell_of_block g 3
  have k0 : wa.frozen? ⟨bw, 0, none⟩ = false := free_of_block g 0
  have k1 : wa.frozen? ⟨bw, 1, none⟩ = false := free_of_block g 1
  have k2 : wa.frozen? ⟨bw, 2, none⟩ = false := free_of_block g 2
  have k3 : wa.frozen? ⟨bw, 3, none⟩ = false := free_of_block g 3
  have GG := Lib.hid (And.intro hW (And.intro hA g))
  clear hW hA g
  refine (line_nil c wa).mono ?_
  rintro e w1 ⟨rfl, rfl⟩
  go_wp2_with fail
  obtain ⟨hb5, hO5⟩ := set4_blk GG.out.2.2 (.int .u64 0) (.int .u64 0) (.int .u64 0) (.int .u64 0)
  generalize (((w1.setCell ⟨bw, 0, none⟩ (.int .u64 0)).setCell ⟨bw, 1, none⟩ (.int .u64 0)).setCell ⟨bw, 2, none⟩ (.int .u64 0)).setCell ⟨bw, 3, none⟩ (.int .u64 0) = w5 at *
  have q0 : w5.cell? ⟨bw, 0, none⟩ = some (.int .u64 0) := cell_of_block hb5 0
  have q1 : w5.cell? ⟨bw, 1, none⟩ = some (.int .u64 0) := cell_of_block hb5 1
  have q2 : w5.cell? ⟨bw, 2, none⟩ = some (.int .u64 0) := cell_of_block hb5 2
  have q3 : w5.cell? ⟨bw, 3, none⟩ = some (.int .u64 0) := cell_of_block hb5 3
  clear g0 g1 g2 g3 k0 k1 k2 k3
  try go_wp2_with fail
  exact bodyPost_ret (v := .agg (statArr 0 0 0 0)) (by simp [results, Try.results24, go_sem, q0, q1, q2, q3, statArr]) rfl ⟨rfl, by rw [GG.out.1]; exact GG.out.2.1.trans (hO5.below (by have := GG.out.2.1.size; have := GG.out.1; omega) (fun k hk e => by have := GG.out.1; omega))⟩
set_option maxRecDepth 100000 in
theorem Stat_is {w : World} {p : Nat} {O : Nat → Nat} {v : Value} {ps : List Nat} {S : Sh} (h : IsS w p O v ps S) (c : Int) :
    Calls Try.prog 24 #[ptr p, .int .i64 c] w fun e w' => e = .returned (.agg (S.stat c)) ∧ Below w.heap.size w w' := by
  have hA : Below w.heap.size w (w.alloc (.cells #[.int .u64 0, .int .u64 0, .int .u64 0, .int .u64 0] 67)) := (Below.refl _ _).alloc (Nat.le_refl _) _
  have g := alloc_block_new w (.cells #[.int .u64 0, .int .u64 0, .int .u64 0, .int .u64 0] 67)
  have h := h.below hA
  have HL := Lib.hid (line_is h c)
  unfold ptr at HL
  unfold ptr
  go_enter Try.func24, Try.ntmps24
  go_wp2_with fail
  generalize w.alloc (.cells #[.int .u64 0, .int .u64 0, .int .u64 0, .int .u64 0] 67) = wa at *
  generalize hW : w.heap.size = bw at *
  by_cases hc : 0 ≤ c ∧ c < S.ls.length
  · obtain ⟨n, rfl⟩ := Int.eq_ofNat_of_zero_le hc.1
    obtain ⟨lp, L, bp, qp, r, hla, _, hL, hI⟩ := lineAt_some h (c := n) (by omega)
    have hq : S.stat (n : Int) = statArr L.off L.drp L.out L.byt := by
      unfold Sh.stat
      rw [if_neg (by omega), Int.toNat_natCast, hL]
    have HQ := Lib.hid (hq)
    rw [hla] at HL
    unfold ptr at HL
    have y0 : wa.cell? ⟨lp, 0, none⟩ = some (.int .u64 L.off) := cell_of_block hI.blk 0
    have y1 : wa.cell? ⟨lp, 1, none⟩ = some (.int .u64 L.drp) := cell_of_block hI.blk 1
    have y2 : wa.cell? ⟨lp, 2, none⟩ = some (.int .u64 L.out) := cell_of_block hI.blk 2
    have y3 : wa.cell? ⟨lp, 3, none⟩ = some (.int .u64 L.byt) := cell_of_block hI.blk 3

    have HL0 := Lib.hid (load_cnt y0)
    have HL1 := Lib.hid (load_cnt y1)
    have HL2 := Lib.hid (load_cnt y2)
    have HL3 := Lib.hid (load_cnt y3)
    clear h hla hL hI hq hc HL0 HL1 HL2 HL3
    refine HL.out.mono ?_
    rintro e w1 ⟨rfl, rfl⟩
    clear HL
    go_wp2_with fail
    refine region_tail 21 (by kernel_rfl) (by kernel_rfl) ?_
    simp only [List.take_succ_cons, List.take_zero, List.drop_succ_cons, List.drop_zero]
    have y0 : w1.drew.cell? ⟨lp, 0, none⟩ = some (.int .u64 L.off) := y0
    have y1 : w1.drew.cell? ⟨lp, 1, none⟩ = some (.int .u64 L.drp) := y1
    have y2 : w1.drew.cell? ⟨lp, 2, none⟩ = some (.int .u64 L.out) := y2
    have y3 : w1.drew.cell? ⟨lp, 3, none⟩ = some (.int .u64 L.byt) := y3
    have g := (show w1.drew.heap[bw]? = _ from g)
    have hA := hA.drew
    have g0 : w1.drew.cell? ⟨bw, 0, none⟩ = some (.int .u64 0) := cell_of_block g 0
    have g1 : w1.drew.cell? ⟨bw, 1, none⟩ = some (.int .u64 0) := cell_of_block g 1
    have g2 : w1.drew.cell? ⟨bw, 2, none⟩ = some (.int .u64 0) := cell_of_block g 2
    have g3 : w1.drew.cell? ⟨bw, 3, none⟩ = some (.int .u64 0) := cell_of_block g 3
    have k0 : w1.drew.frozen? ⟨bw, 0, none⟩ = false := free_of_block g 0
    have k1 : w1.drew.frozen? ⟨bw, 1, none⟩ = false := free_of_block g 1
    have k2 : w1.drew.frozen? ⟨bw, 2, none⟩ = false := free_of_block g 2
    have k3 : w1.drew.frozen? ⟨bw, 3, none⟩ = false := free_of_block g 3
    have GG := Lib.hid (And.intro hW (And.intro hA g))
    clear hW hA g
    generalize w1.drew = w2 at *
    repeat still_step
    still_call (load_cnt y0)
    repeat still_step
    still_call (load_cnt y1)
    repeat still_step
    still_call (load_cnt y2)
    repeat still_step
    still_call (load_cnt y3)
    repeat still_step
    refine wpStill_nil ?_
    go_wp2_with fail
    obtain ⟨hb5, hO5⟩ := set4_blk GG.out.2.2 (.int .u64 L.off) (.int .u64 L.drp) (.int .u64 L.out) (.int .u64 L.byt)
    generalize (((w2.setCell ⟨bw, 0, none⟩ (.int .u64 L.off)).setCell ⟨bw, 1, none⟩ (.int .u64 L.drp)).setCell ⟨bw, 2, none⟩ (.int .u64 L.out)).setCell ⟨bw, 3, none⟩ (.int .u64 L.byt) = w5 at *
    have q0 : w5.cell? ⟨bw, 0, none⟩ = some (.int .u64 L.off) := cell_of_block hb5 0
    have q1 : w5.cell? ⟨bw, 1, none⟩ = some (.int .u64 L.drp) := cell_of_block hb5 1
    have q2 : w5.cell? ⟨bw, 2, none⟩ = some (.int .u64 L.out) := cell_of_block hb5 2
    have q3 : w5.cell? ⟨bw, 3, none⟩ = some (.int .u64 L.byt) := cell_of_block hb5 3
    clear g0 g1 g2 g3 k0 k1 k2 k3
    try go_wp2_with fail
    exact bodyPost_ret (v := .agg (statArr L.off L.drp L.out L.byt)) (by simp [results, Try.results24, go_sem, q0, q1, q2, q3, statArr]) rfl ⟨by rw [HQ.out], by rw [GG.out.1]; exact GG.out.2.1.trans (hO5.below (by have := GG.out.2.1.size; have := GG.out.1; omega) (fun k hk e => by have := GG.out.1; omega))⟩
  · have hq : S.stat c = statArr 0 0 0 0 := by
      unfold Sh.stat
      split
      · rfl
      · rw [List.getElem?_eq_none (by omega)]
    have HQ := Lib.hid (hq)
    rw [lineAt_none h hc] at HL
    have g0 : wa.cell? ⟨bw, 0, none⟩ = some (.int .u64 0) := cell_of_block g 0
    have g1 : wa.cell? ⟨bw, 1, none⟩ = some (.int .u64 0) := cell_of_block g 1
    have g2 : wa.cell? ⟨bw, 2, none⟩ = some (.int .u64 0) := cell_of_block g 2
    have g3 : wa.cell? ⟨bw, 3, none⟩ = some (.int .u64 0) := cell_of_block g 3
    have k0 : wa.frozen? ⟨bw, 0, none⟩ = false := free_of_block g 0
    have k1 : wa.frozen? ⟨bw, 1, none⟩ = false := free_of_block g 1
    have k2 : wa.frozen? ⟨bw, 2, none⟩ = false := free_of_block g 2
    have k3 : wa.frozen? ⟨bw, 3, none⟩ = false := free_of_block g 3
    have GG := Lib.hid (And.intro hW (And.intro hA g))
    clear hW hA g
    clear h hq hc
    refine HL.out.mono ?_
    rintro e w1 ⟨rfl, rfl⟩
    go_wp2_with fail
    obtain ⟨hb5, hO5⟩ := set4_blk GG.out.2.2 (.int .u64 0) (.int .u64 0) (.int .u64 0) (.int .u64 0)
    generalize (((w1.setCell ⟨bw, 0, none⟩ (.int .u64 0)).setCell ⟨bw, 1, none⟩ (.int .u64 0)).setCell ⟨bw, 2, none⟩ (.int .u64 0)).setCell ⟨bw, 3, none⟩ (.int .u64 0) = w5 at *
    have q0 : w5.cell? ⟨bw, 0, none⟩ = some (.int .u64 0) := cell_of_block hb5 0
    have q1 : w5.cell? ⟨bw, 1, none⟩ = some (.int .u64 0) := cell_of_block hb5 1
    have q2 : w5.cell? ⟨bw, 2, none⟩ = some (.int .u64 0) := cell_of_block hb5 2
    have q3 : w5.cell? ⟨bw, 3, none⟩ = some (.int .u64 0) := cell_of_block hb5 3
    clear g0 g1 g2 g3 k0 k1 k2 k3
    try go_wp2_with fail
    exact bodyPost_ret (v := .agg (statArr 0 0 0 0)) (by simp [results, Try.results24, go_sem, q0, q1, q2, q3, statArr]) rfl ⟨by rw [HQ.out], by rw [GG.out.1]; exact GG.out.2.1.trans (hO5.below (by have := GG.out.2.1.size; have := GG.out.1; omega) (fun k hk e => by have := GG.out.1; omega))⟩
end Go.Proofs.Ythipfcmjpgbemaa
