/- The prefix of an address: walked. -/
import Derived.Test.YtcbkcalemfminaaRu2
import Derived.Deep.CutBlock
import Derived.Laws.BitsAllLaws
import Derived.Deep.DeepCutAuto
namespace Go.Proofs.Ytcbkcalemfminaa
open Go.RowKit
attribute [local go_sem ↓] load_ad load_pf load_ru load_ky load_bs build_pf

/-- Which bits of a byte a prefix holds. -/
def mask (n i : Nat) : Nat := (65280 >>> min (n - 8 * i) 8) % 256
/-- The bytes, the first i of them cut. -/
def cutB (bs : List Nat) (n i : Nat) : List Nat := (List.range 16).map fun j => if j < i then bs.getD j 0 &&& mask n j else bs.getD j 0
/-- A length, brought into its bounds. -/
def Ad.bound (a : Ad) (n : Int) : Nat := (max 0 (min n (8 * (a.size : Int)))).toNat
def Ad.cut (a : Ad) (n : Int) : Pf := if a.right = true then ⟨⟨a.six, cutB a.bs (a.bound n) 16⟩, a.bound n⟩ else Pf.zero

def CutRel (W : World) (b c : Nat) (a : Ad) (m : Nat) (v : Value) (w : World) : Prop :=
  ∃ i : Nat, v = .int .i64 i ∧ i ≤ 16 ∧ Below W.heap.size W w ∧ w.heap[b]? = some (.cells (Ad.mk a.six (cutB a.bs m i)).arr 25 (0, 0)) ∧ w.heap[c]? = some (.cells Pf.zero.arr 39 (0, 0))

theorem and_mask {x kp : Nat} (hx : x < 256) : bits .and .u8 (x : Int) ((65280 : Int) / (2 : Int) ^ kp % (256 : Int)) = ((x &&& (65280 >>> kp) % 256 : Nat) : Int) := by
  have hp : (2 : Int) ^ kp = ((2 ^ kp : Nat) : Int) := by rw [Int.natCast_pow]; rfl
  rw [hp, Nat.shiftRight_eq_div_pow]
  generalize 2 ^ kp = p
  have e : (65280 : Int) / (p : Int) % (256 : Int) = ((65280 / p % 256 : Nat) : Int) := by
    rw [Int.natCast_emod, Int.natCast_ediv]
    rfl
  rw [e, u8_and_nat _ _ hx (Nat.mod_lt _ (by decide))]
theorem arr_set (s : Bool) (bs : List Nat) (i y : Nat) : (Ad.mk s bs).arr.setIfInBounds (1 + i) (.int .u8 (y : Nat)) = (Ad.mk s (bs.set i y)).arr := by
  unfold Ad.arr Ad.cs u8s
  rw [Nat.add_comm 1 i]
  simp
theorem cutB_len (bs : List Nat) (n i : Nat) : (cutB bs n i).length = 16 := by simp [cutB]
theorem cutB_zero {bs : List Nat} (h : bs.length = 16) (n : Nat) : cutB bs n 0 = bs := by
  apply List.ext_getElem
  · simp [cutB_len, h]
  · intro j h1 h2
    simp [cutB, List.getD, List.getElem?_eq_getElem h2]
theorem cutB_get {bs : List Nat} {n i j : Nat} (hj : j < 16) : (cutB bs n i)[j]? = some (if j < i then bs.getD j 0 &&& mask n j else bs.getD j 0) := by
  unfold cutB
  rw [List.getElem?_map, List.getElem?_range hj]
  rfl
theorem cutB_set {bs : List Nat} {n i : Nat} (hi : i < 16) : (cutB bs n i).set i (bs.getD i 0 &&& mask n i) = cutB bs n (i + 1) := by
  apply List.ext_getElem?
  intro j
  by_cases hj : j < 16
  · rw [List.getElem?_set, cutB_get hj, cutB_len, cutB_get hj]
    by_cases e : i = j
    · subst e
      simp [hi]
    · by_cases h1 : j < i
      · simp [e, h1, show j < i + 1 by omega]
      · simp [e, h1, show ¬ j < i + 1 by omega]
  · rw [List.getElem?_eq_none (by simp [cutB_len]; omega), List.getElem?_eq_none (by simp [cutB_len]; omega)]
theorem and_lt {x y : Nat} (h : x < 256) : x &&& y < 256 := Nat.lt_of_le_of_lt Nat.and_le_left h
theorem cutB_lt {bs : List Nat} {n i : Nat} (h : ∀ x ∈ bs, x < 256) : ∀ x ∈ cutB bs n i, x < 256 := by
  intro x hx
  obtain ⟨j, hj, e⟩ := List.mem_map.1 hx
  rw [← e]
  have hg : bs.getD j 0 < 256 := by
    by_cases hl : j < bs.length
    · have := h bs[j] (List.getElem_mem hl)
      simpa [List.getD, List.getElem?_eq_getElem hl] using this
    · simp [List.getD, List.getElem?_eq_none (show bs.length ≤ j by omega)]
  split
  · exact and_lt hg
  · exact hg

set_option maxRecDepth 100000 in
theorem cut_is {a : Ad} (ha : a.Ok) (n : Int) (w : World) :
    Calls Try.prog 32 #[.agg a.arr, .int .i64 n] w fun e w' => e = .returned (.agg (a.cut n).arr) ∧ Below w.heap.size w w' := by
  go_enter Try.func32, Try.ntmps32
  go_upto_region 1 with (fail)
  have hB : Below w.heap.size w ((w.alloc (.cells a.arr 25)).alloc (.cells Pf.zero.arr 39)) := ((Below.refl _ _).alloc (Nat.le_refl _) _).alloc (by simp) _
  have g0 : ((w.alloc (.cells a.arr 25)).alloc (.cells Pf.zero.arr 39)).heap[w.heap.size]? = some (.cells a.arr 25 (0, 0)) := (alloc_block_old _ (by simp)).trans (alloc_block_new w _)
  have g1 : ((w.alloc (.cells a.arr 25)).alloc (.cells Pf.zero.arr 39)).heap[w.heap.size + 1]? = some (.cells Pf.zero.arr 39 (0, 0)) := alloc_block_at _ _ (by simp)
  rw [Pf.zero_arr]
  generalize (w.alloc (.cells a.arr 25)).alloc (.cells Pf.zero.arr 39) = w2 at *
  have hL := row_ad ha (range_block g0)
  have hl0 := lt_of_obj g0
  have hl1 := lt_of_obj g1
  have hbe : w.heap.size ≤ w.heap.size := Nat.le_refl _
  generalize hbb : w.heap.size = b at *
  have HBb := Lib.hid hbb
  have G := Lib.hid (And.intro g0 (And.intro g1 hB))
  clear g0 g1 hB hbb hbe
  go_wp2_with fail
  refine (right_is ha _).mono ?_
  rintro e w3 ⟨rfl, hB3⟩
  have g03 := (hB3.block _ hl0).trans G.out.1
  have g13 := (hB3.block _ hl1).trans G.out.2.1
  have hBB := G.out.2.2.trans (hB3.mono (by omega))
  have G3 := Lib.hid (And.intro g03 (And.intro g13 hBB))
  clear g03 g13 hBB hB3 G hL
  cases hR : a.right with
  | false =>
    have hz := built_zero
    go_wp2_with (first | (refine wpList_store_blk rfl 39 (.tmp 4) (.tmp 10) rfl (b + 1) Pf.zero.arr rfl rfl 39 Pf.zero.arr G3.out.2.1 (by kernel_rfl) rfl (by kernel_rfl) ?_))
    intro w4 hS
    have hBf := G3.out.2.2.trans ((hS.only.below (B := b) (by have := lt_of_obj G3.out.1; omega) (fun k hk e => by omega)))
    have hv := var_pf Ad.zero_ok (range_block hS.blk)
    go_wp2_with fail
    refine bodyPost_ret (v := .agg Pf.zero.arr) (results_cell rfl rfl hv) rfl ⟨?_, by rw [HBb.out]; exact hBf⟩
    unfold Ad.cut
    simp [hR]
  | true =>
    have hL := row_ad ha (range_block G3.out.1)
    go_upto_region 3 with (fail)
    go_cut [1] (fun v w' => v = .int .i64 (a.bound n : Nat) ∧ w'.heap[b]? = some (.cells a.arr 25 (0, 0)) ∧ w'.heap[b + 1]? = some (.cells Pf.zero.arr 39 (0, 0)) ∧ Below b w w')
    case first =>
      go_wp2_with fail
      refine (size_is _).mono ?_
      rintro e w4 ⟨rfl, hB4⟩
      have g04 := (hB4.block _ (lt_of_obj G3.out.1)).trans G3.out.1
      have g14 := (hB4.block _ (lt_of_obj G3.out.2.1)).trans G3.out.2.1
      have hBB := G3.out.2.2.trans (hB4.mono (by have := lt_of_obj G3.out.1; omega))
      have G4 := Lib.hid (And.intro g04 (And.intro g14 hBB))
      have hsz : (a.size : Int) = 4 ∨ (a.size : Int) = 16 := by
        unfold Ad.size
        split
        · exact .inr rfl
        · exact .inl rfl
      clear g04 g14 hBB hB4 G3 hL
      have hw : wrap64 (8 * (a.size : Int)) = 8 * (a.size : Int) := IntWalk.wrap64_in _ (by omega)
      go_wp2_with fail
      all_goals
        go_meet
        case rel =>
          refine ⟨?_, G4.out⟩
          unfold Ad.bound
          congr 1
          omega
    case rest =>
      obtain ⟨rfl, h0, h1, hBc⟩ := hcut
      obtain ⟨wd, rfl⟩ : ∃ wo : World, wo = wc := ⟨_, rfl⟩
      have HC := Lib.hid (And.intro h0 (And.intro h1 hBc))
      clear h0 h1 hBc hL G3
      have hm : a.bound n ≤ 128 := by
        have : (a.size : Int) = 4 ∨ (a.size : Int) = 16 := by
          unfold Ad.size
          split
          · exact .inr rfl
          · exact .inl rfl
        unfold Ad.bound
        omega
      generalize hme : a.bound n = m at *
      have HME := Lib.hid hme
      clear hme
      go_wp2_with fail
      go_loopw [17] (CutRel w b (b + 1) a m) (fun i _ => 16 - (intOf i).toNat)
      case atStart => exact ⟨0, rfl, Nat.zero_le _, by rw [HBb.out]; exact HC.out.2.2, by rw [cutB_zero ha.1]; exact HC.out.1, HC.out.2.1⟩
      case round =>
        obtain ⟨i, rfl, hi, hB, g0, g1⟩ := hrel
        by_cases hlt : i < 16
        · obtain ⟨x, hx⟩ : ∃ x, (cutB a.bs m i)[i]? = some x := ⟨_, cutB_get hlt⟩
          have hxe : x = a.bs.getD i 0 := by
            rw [cutB_get hlt] at hx
            simpa using hx.symm
          have y0 : wr.cell? ⟨b, 1 + i, none⟩ = some (.int .u8 (x : Nat)) := by
            refine (cell_of_block g0 _).trans ?_
            have : (Ad.mk a.six (cutB a.bs m i)).arr[1 + i]? = (u8s (cutB a.bs m i))[i]? := by
              unfold Ad.arr Ad.cs
              rw [Nat.add_comm 1 i]
              simp
            rw [this, u8s_get, hx]
            rfl
          have y1 : wr.frozen? ⟨b, 1 + i, none⟩ = false := free_of_block g0 _
          have hx8 : x < 256 := by
            have := cutB_lt (n := m) (i := i) ha.2 x (List.mem_of_getElem? hx)
            exact this
          have HX := Lib.hid (And.intro hx hxe)
          clear hx hxe
          have hk8 : min (m - 8 * i) 8 ≤ 8 := Nat.min_le_right _ _
          go_upto_region 7 with (fail)
          go_cut [6] (fun v w' => v = .int .i64 (min (m - 8 * i) 8 : Nat) ∧ w' = wr)
          case first =>
            go_wp2_with fail
            all_goals
              go_meet
              case rel =>
                refine ⟨?_, rfl⟩
                first
                  | (congr 1; omega)
                  | (rw [IntWalk.wrap64_in _ (by omega)] at *; congr 1; omega)
          case rest =>
            obtain ⟨rfl, rfl⟩ := hcut
            obtain ⟨kp, hkp⟩ : ∃ k, min (m - 8 * i) 8 = k := ⟨_, rfl⟩
            rw [hkp] at hk8 ⊢
            go_wp2_with fail
            have hi1 : (i : Int) < 16 := by omega
            go_region
            all_goals
              go_wp2_with fail
              go_roundw
              case rel =>
                refine ⟨i + 1, by go_num, by omega, ?_, ?_, ?_⟩
                · exact (hB.setCell (p := ⟨b, 1 + i, none⟩) (by have := HBb.out; show w.heap.size ≤ b; omega) _).drew
                · have hs := setCell_block g0 (1 + i) (.int .u8 (bits .and .u8 (x : Int) ((65280 : Int) / 2 ^ kp % 256)))
                  rw [and_mask hx8, arr_set] at hs
                  have e : x &&& (65280 >>> kp) % 256 = a.bs.getD i 0 &&& mask m i := by
                    rw [HX.out.2, ← hkp]
                    rfl
                  rw [e, cutB_set hlt] at hs
                  rw [and_mask hx8]
                  rw [e]
                  exact hs
                · exact (setCell_block_other (b := b + 1) (c := b) (1 + i) _ (by omega)).trans g1
              case measure => simp [intOf]; omega
        · obtain rfl : i = 16 := by omega
          have hok : (Ad.mk a.six (cutB a.bs m 16)).Ok := ⟨cutB_len _ _ _, cutB_lt ha.2⟩
          have hL := row_ad hok (range_block g0)
          have hbd := built_pf hok (m : Int)
          have hsz : (Pf.mk (Ad.mk a.six (cutB a.bs m 16)) (m : Int)).arr.size = 18 := Pf.arr_size hok
          have hall := Pf.all (Pf.mk (Ad.mk a.six (cutB a.bs m 16)) (m : Int))
          have HF := Lib.hid (And.intro g1 (And.intro hB (And.intro hsz hall)))
          clear g0 hB g1 hsz hall
          generalize hAe : Ad.mk a.six (cutB a.bs m 16) = A at *
          have HAE := Lib.hid hAe
          clear hAe
          go_wp2_with (first | (refine wpList_store_blk rfl 39 (.tmp 4) (.tmp 39) rfl (b + 1) (Pf.mk A (m : Int)).arr rfl rfl 39 Pf.zero.arr HF.out.1 (by rw [HF.out.2.2.1]; kernel_rfl) (by rw [HF.out.2.2.1]; rfl) HF.out.2.2.2 ?_))
          intro w4 hS
          have hBf := HF.out.2.1.trans (hS.only.below (B := w.heap.size) (by have := HF.out.2.1.size; omega) (fun k hk e => by have := HBb.out; omega))
          have hv := var_pf hok (range_block hS.blk)
          go_wp2_with fail
          refine bodyPost_ret (v := .agg (Pf.mk A (m : Int)).arr) (results_cell rfl rfl hv) rfl ⟨?_, hBf⟩
          unfold Ad.cut
          rw [if_pos hR, HME.out, HAE.out]
theorem Ad.cut_ok {a : Ad} (ha : a.Ok) (n : Int) : (a.cut n).a.Ok := by
  unfold Ad.cut
  split
  · exact ⟨cutB_len _ _ _, cutB_lt ha.2⟩
  · exact Ad.zero_ok
end Go.Proofs.Ytcbkcalemfminaa
