/- The reference's Cut: walked. -/
import Derived.Test.YtcbkcalemfminaaRr3
namespace Go.Proofs.Ytcbkcalemfminaa
open Go.RowKit
attribute [local go_sem ↓] load_ra load_rp build_ra build_rp

theorem r4size {a : Ad} (w : World) :
    Calls Try.prog 80 #[.bool a.six] w fun e w' => e = .returned (.int .i64 (a.size : Nat)) ∧ w' = w :=
  (rsize_is a.six w).mono fun e w' ⟨he, hw⟩ => ⟨by rw [he]; unfold Ad.size; cases a.six <;> rfl, hw⟩
theorem pf_set (s : Bool) {bs : List Nat} (hl : bs.length = 16) (n : Int) {i : Nat} (hi : i < 16) (y : Nat) : (Pf.mk ⟨s, bs⟩ n).arr.setIfInBounds (1 + i) (.int .u8 (y : Nat)) = (Pf.mk ⟨s, bs.set i y⟩ n).arr := by
  unfold Pf.arr Pf.cs Ad.cs u8s
  apply Array.ext'
  rw [Array.toList_setIfInBounds, Nat.add_comm 1 i]
  simp [List.map_set, List.set_append, hl, hi]
/-- Ahead of each digit. -/
def C4Rel (W : World) (b c : Nat) (a : Ad) (m : Nat) (i : Value) (w : World) : Prop :=
  ∃ k : Nat, i = .int .i64 k ∧ k ≤ m ∧ Below b W w ∧ w.heap[b]? = some (.cells a.arr 77 (0, 0)) ∧ w.heap[b + 1]? = some (.cells Pf.zero.arr 86 (0, 0)) ∧ w.heap[c]? = some (.cells (Pf.mk ⟨a.six, cutB a.bs k 16⟩ m).arr 86 (0, 0))
/-- Ahead of each doubling. -/
def D4Rel (W : World) (d r : Nat) (k v : Value) (w : World) : Prop :=
  ∃ t : Nat, k = .int .i64 (r + t : Nat) ∧ r + t ≤ 7 ∧ v = .int .i64 (d * 2 ^ t : Nat) ∧ w = W

set_option maxRecDepth 100000 in
set_option maxHeartbeats 1000000 in
theorem rcut_is {a : Ad} (ha : a.Ok) (n : Int) (w : World) :
    Calls Try.prog 78 #[.agg a.arr, .int .i64 n] w fun e w' => e = .returned (.agg (a.cut n).arr) ∧ Below w.heap.size w w' := by
  go_enter Try.func78, Try.ntmps78
  go_upto_region 1 with (fail)
  have hB : Below w.heap.size w ((w.alloc (.cells a.arr 77)).alloc (.cells Pf.zero.arr 86)) := ((Below.refl _ _).alloc (Nat.le_refl _) _).alloc (by simp) _
  have g0 : ((w.alloc (.cells a.arr 77)).alloc (.cells Pf.zero.arr 86)).heap[w.heap.size]? = some (.cells a.arr 77 (0, 0)) := (alloc_block_old _ (by simp)).trans (alloc_block_new w _)
  have g1 : ((w.alloc (.cells a.arr 77)).alloc (.cells Pf.zero.arr 86)).heap[w.heap.size + 1]? = some (.cells Pf.zero.arr 86 (0, 0)) := alloc_block_at _ _ (by simp)
  rw [Pf.zero_arr]
  generalize (w.alloc (.cells a.arr 77)).alloc (.cells Pf.zero.arr 86) = w2 at *
  have hL := row_ra ha (range_block g0)
  have hl0 := lt_of_obj g0
  have hl1 := lt_of_obj g1
  have hbe : w.heap.size ≤ w.heap.size := Nat.le_refl _
  generalize hbb : w.heap.size = b at *
  have HBb := Lib.hid hbb
  have G := Lib.hid (And.intro g0 (And.intro g1 hB))
  clear g0 g1 hB hbb hbe
  go_wp2_with fail
  refine (r4right_is ha _).mono ?_
  rintro e w3 ⟨rfl, hB3⟩
  have g03 := (hB3.block _ hl0).trans G.out.1
  have g13 := (hB3.block _ hl1).trans G.out.2.1
  have hBB := G.out.2.2.trans (hB3.mono (by omega))
  have G3 := Lib.hid (And.intro g03 (And.intro g13 hBB))
  clear g03 g13 hBB hB3 G hL
  cases hR : a.right with
  | false =>
    have hz := built_rp0
    go_wp2_with (first | (refine wpList_store_blk rfl 86 (.tmp 4) (.tmp 12) rfl (b + 1) Pf.zero.arr rfl rfl 86 Pf.zero.arr G3.out.2.1 (by kernel_rfl) rfl (by kernel_rfl) ?_))
    intro w4 hS
    have hBf := G3.out.2.2.trans ((hS.only.below (B := b) (by have := lt_of_obj G3.out.1; omega) (fun k hk e => by omega)))
    have hv := var_rp Ad.zero_ok (range_block hS.blk)
    go_wp2_with fail
    refine bodyPost_ret (v := .agg Pf.zero.arr) (results_cell rfl rfl hv) rfl ⟨?_, by rw [HBb.out]; exact hBf⟩
    unfold Ad.cut
    simp [hR]
  | true =>
    have h6 : w3.cell? ⟨b, 0, none⟩ = some (.bool a.six) := Ad.cSix (range_block G3.out.1)
    go_upto_region 3 with (fail)
    go_cut [1] (fun v w' => v = .int .i64 (a.bound n : Nat) ∧ w' = w3)
    case first =>
      go_wp2_with fail
      refine (r4size _).mono ?_
      rintro e w4 ⟨rfl, rfl⟩
      have hsz : (a.size : Int) = 4 ∨ (a.size : Int) = 16 := by
        unfold Ad.size
        split
        · exact .inr rfl
        · exact .inl rfl
      clear G3
      have hw : wrap64 (8 * (a.size : Int)) = 8 * (a.size : Int) := IntWalk.wrap64_in _ (by omega)
      go_wp2_with fail
      all_goals
        go_meet
        case rel =>
          refine ⟨?_, rfl⟩
          unfold Ad.bound
          congr 1
          omega
    case rest =>
      obtain ⟨rfl, rfl⟩ := hcut
      obtain ⟨w3, rfl⟩ : ∃ wo : World, wo = wc := ⟨_, rfl⟩
      have hm : a.bound n ≤ 128 := by
        have : (a.size : Int) = 4 ∨ (a.size : Int) = 16 := by
          unfold Ad.size
          split
          · exact .inr rfl
          · exact .inl rfl
        unfold Ad.bound
        omega
      generalize hme : a.bound n = m at *
      have HME := Lib.hid hme
      clear hme
      have hba := built_ra a.six
      have hbp := built_rp (Ad.blank_ok a.six) (m : Int)
      have hsz : (Pf.mk (Ad.blank a.six) (m : Int)).arr.size = 18 := Pf.arr_size (Ad.blank_ok a.six)
      have hall := Pf.all (Pf.mk (Ad.blank a.six) (m : Int))
      have HSZ := Lib.hid (And.intro hsz hall)
      clear hsz hall
      go_wp2_with (first | (refine wpList_store_blk rfl 86 (.tmp 5) (.tmp 24) rfl w3.heap.size (Pf.mk (Ad.blank a.six) (m : Int)).arr rfl rfl 86 Pf.zero.arr (alloc_block_new w3 (.cells Pf.zero.arr 86)) (by rw [HSZ.out.1]; kernel_rfl) (by rw [HSZ.out.1]; rfl) HSZ.out.2 ?_))
      intro w4 hS
      have hl3 : b + 1 < w3.heap.size := lt_of_obj G3.out.2.1
      have hB4 : Below w3.heap.size w3 w4 := ((Below.refl _ _).alloc (Nat.le_refl _) (.cells Pf.zero.arr 86)).trans (hS.only.below (by simp) (fun k hk e => by omega))
      have hR0 : Hid (C4Rel w b w3.heap.size a m (.int .i64 (0 : Nat)) w4) := ⟨0, rfl, Nat.zero_le _, G3.out.2.2.trans (hB4.mono (by omega)), (hB4.block _ (by omega)).trans G3.out.1, (hB4.block _ hl3).trans G3.out.2.1, by rw [cutB_blank]; exact hS.blk⟩
      have hcb : b + 2 ≤ w3.heap.size := hl3
      generalize w3.heap.size = c at *
      clear hS hB4 G3 HSZ hba hbp h6 hl3
      go_wp2_with fail
      go_loopw [6] (C4Rel w b c a m) (fun i _ => m - (intOf i).toNat)
      case atStart => exact hR0.out
      case round =>
        obtain ⟨i, rfl, hi, hB, g0, g1, g2⟩ := hrel
        by_cases hlt : i < m
        · have hL := row_ra ha (range_block g0)
          have hii : (i : Int) < (m : Int) := by omega
          have HH := Lib.hid (And.intro hB (And.intro g0 (And.intro g1 g2)))
          clear hB g0 g1 g2
          go_wp2_with fail
          refine (rdigit_is ha (i := i) (by omega) _).mono ?_
          rintro e w5 ⟨rfl, hB5⟩
          have HH5 : Hid (Below b w w5 ∧ w5.heap[b]? = some (.cells a.arr 77 (0, 0)) ∧ w5.heap[b + 1]? = some (.cells Pf.zero.arr 86 (0, 0)) ∧ w5.heap[c]? = some (.cells (Pf.mk ⟨a.six, cutB a.bs i 16⟩ m).arr 86 (0, 0))) :=
            ⟨HH.out.1.trans (hB5.mono (by have := lt_of_obj HH.out.2.1; omega)), (hB5.block _ (lt_of_obj HH.out.2.1)).trans HH.out.2.1, (hB5.block _ (lt_of_obj HH.out.2.2.1)).trans HH.out.2.2.1, (hB5.block _ (lt_of_obj HH.out.2.2.2)).trans HH.out.2.2.2⟩
          have hd2 : dig a i < 2 := Nat.mod_lt _ (by decide)
          have HDG : Hid ((a.bs.getD (i / 8) 0 &&& mask i (i / 8)) + dig a i * 2 ^ (7 - i % 8) = a.bs.getD (i / 8) 0 &&& mask (i + 1) (i / 8)) := dig_step ha i
          have HST : Hid ((cutB a.bs i 16).set (i / 8) ((a.bs.getD (i / 8) 0 &&& mask i (i / 8)) + dig a i * 2 ^ (7 - i % 8)) = cutB a.bs (i + 1) 16) := cutB_step ha (by omega)
          have hx8 := getD_lt ha (i / 8)
          generalize dig a i = d at *
          have hrm : (i : Int) % 8 = ((i % 8 : Nat) : Int) := by omega
          clear hL HH hB5
          obtain ⟨wd, rfl⟩ : ∃ wo : World, wo = w5 := ⟨_, rfl⟩
          go_wp2_with fail
          go_loopw [8, 7] (D4Rel wd d (i % 8)) (fun k _ _ => 7 - (intOf k).toNat)
          case atStart => exact ⟨0, by rw [hrm]; rfl, by omega, by simp, rfl⟩
          case round =>
            obtain ⟨t, rfl, ht, rfl, rfl⟩ := hrel
            obtain ⟨y, hy⟩ : ∃ y, d * 2 ^ t = y := ⟨_, rfl⟩
            have hyl : y ≤ 128 := by
              rw [← hy]
              have : 2 ^ t ≤ 2 ^ 7 := Nat.pow_le_pow_right (by decide) (by omega)
              have := Nat.mul_le_mul (show d ≤ 1 by omega) this
              simpa using this
            rw [hy]
            obtain ⟨q, hqe⟩ : ∃ q, i % 8 + t = q := ⟨_, rfl⟩
            rw [hqe] at ht ⊢
            have HY := Lib.hid (And.intro hy hqe)
            clear hy hqe hrm
            by_cases h7 : q < 7
            · have h7i : (q : Int) < 7 := by omega
              have HN : Hid (D4Rel wr d (i % 8) (.int .i64 (q + 1 : Nat)) (.int .i64 ((2 * y : Nat) : Int)) wr) := ⟨t + 1, by rw [← HY.out.2]; rfl, by have := HY.out.2; omega, by rw [← HY.out.1, show d * 2 ^ (t + 1) = 2 * (d * 2 ^ t) by rw [Nat.pow_succ, ← Nat.mul_assoc, Nat.mul_comm 2]], rfl⟩
              have hw2 : wrap64 (2 * (y : Int)) = ((2 * y : Nat) : Int) := by rw [IntWalk.wrap64_in _ (by omega)]; omega
              go_wp2_with fail
              go_roundw
              case rel => exact HN.out
              case measure => simp [intOf]; omega
            · have h7i : ¬ (q : Int) < 7 := by omega
              have hye : y = d * 2 ^ (7 - i % 8) := by rw [← HY.out.1, show 7 - i % 8 = t by have := HY.out.2; omega]
              rw [← hye] at HDG HST
              have hlx : (cutB a.bs i 16)[i / 8]? = some (a.bs.getD (i / 8) 0 &&& mask i (i / 8)) := cutB_at (by omega)
              have hx9 : (a.bs.getD (i / 8) 0 &&& mask i (i / 8)) + y < 256 := by rw [HDG.out]; exact and_lt hx8
              have hq : i / 8 < 16 := by omega
              have hqi : ((i / 8 : Nat) : Int) < 16 := by omega
              have hq0 : (0 : Int) ≤ (i : Int) / 8 := by omega
              have hq1 : (i : Int) / 8 < 16 := by omega
              have hqt : ((i : Int) / 8).toNat = i / 8 := by omega
              clear hye HDG hx8
              generalize a.bs.getD (i / 8) 0 &&& mask i (i / 8) = x at *
              have hl16 := cutB_len a.bs i 16
              have hc : wr.cell? ⟨c, 1 + i / 8, none⟩ = some (.int .u8 (x : Nat)) := by
                refine (cell_of_block HH5.out.2.2.2 _).trans ?_
                have : (Pf.mk ⟨a.six, cutB a.bs i 16⟩ m).arr[1 + i / 8]? = (u8s (cutB a.bs i 16))[i / 8]? := by
                  unfold Pf.arr Pf.cs Ad.cs
                  rw [Nat.add_comm 1]
                  simp [List.getElem?_append, u8s_len, hl16, hq]
                rw [this, u8s_get, hlx]
                rfl
              have hfz : wr.frozen? ⟨c, 1 + i / 8, none⟩ = false := free_of_block HH5.out.2.2.2 _
              have hsum : ((x : Int) + (y : Int)) % 256 = ((x + y : Nat) : Int) := by rw [Int.emod_eq_of_lt (by omega) (by omega)]; rfl
              have HN : Hid (C4Rel w b c a m (.int .i64 (i + 1 : Nat)) (wr.setCell ⟨c, 1 + i / 8, none⟩ (.int .u8 ((x + y : Nat) : Int)))) := by
                refine ⟨i + 1, rfl, by omega, HH5.out.1.setCell (p := ⟨c, 1 + i / 8, none⟩) (by show b ≤ c; omega) _, (setCell_block_other _ _ (by omega)).trans HH5.out.2.1, (setCell_block_other _ _ (by omega)).trans HH5.out.2.2.1, ?_⟩
                have hs := setCell_block HH5.out.2.2.2 (1 + i / 8) (.int .u8 ((x + y : Nat) : Int))
                rw [pf_set a.six hl16 _ hq, HST.out] at hs
                exact hs
              clear HH5 HST hlx hl16
              go_wp2_with fail
              go_roundw
              case rel => exact HN.out
              case measure => simp [intOf]; omega
        · obtain rfl : i = m := by omega
          have hok : (Ad.mk a.six (cutB a.bs i 16)).Ok := ⟨cutB_len _ _ _, cutB_lt ha.2⟩
          have hL := row_rp (c := ⟨⟨a.six, cutB a.bs i 16⟩, i⟩) hok (range_block g2)
          have hsz : (Pf.mk (Ad.mk a.six (cutB a.bs i 16)) (i : Int)).arr.size = 18 := Pf.arr_size hok
          have hall := Pf.all (Pf.mk (Ad.mk a.six (cutB a.bs i 16)) (i : Int))
          have HF := Lib.hid (And.intro g1 (And.intro hB (And.intro hsz hall)))
          have HF0 := Lib.hid g0
          clear g0 hB g1 g2 hsz hall
          generalize hPe : Pf.mk (Ad.mk a.six (cutB a.bs i 16)) (i : Int) = p at *
          have HPE := Lib.hid hPe
          have hpo : p.a.Ok := by rw [← hPe]; exact hok
          clear hPe hok
          go_wp2_with (first | (refine wpList_store_blk rfl 86 (.tmp 4) (.tmp 55) rfl (b + 1) p.arr rfl rfl 86 Pf.zero.arr HF.out.1 (by rw [HF.out.2.2.1]; kernel_rfl) (by rw [HF.out.2.2.1]; rfl) HF.out.2.2.2 ?_))
          intro w6 hS
          have hBf := HF.out.2.1.trans (hS.only.below (B := b) (by have := lt_of_obj HF.out.1; omega) (fun k hk e => by omega))
          have hv := var_rp hpo (range_block hS.blk)
          go_wp2_with fail
          refine bodyPost_ret (v := .agg p.arr) (results_cell rfl rfl hv) rfl ⟨?_, by rw [HBb.out]; exact hBf⟩
          unfold Ad.cut
          rw [if_pos hR, HME.out, HPE.out]
end Go.Proofs.Ytcbkcalemfminaa
