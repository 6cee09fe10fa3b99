/- The chapter's rules and packets, as the law makes them: walked. -/
import Derived.Test.YtcbkcalemfminaaRuf
namespace Go.Proofs.Ytcbkcalemfminaa
open Go.RowKit
theorem build_ky (parts : Array (Nat × Value)) : Instr.build 28 parts = buildRow 28 parts := by unfold buildRow; rfl
attribute [local go_sem ↓] load_ad load_pf load_ru load_ky load_bs build_pf build_ru build_cl build_ky rows_ru

def fourA (a b c d : Nat) : Ad := ⟨false, [a, b, c, d, 0, 0, 0, 0, 0, 0, 0, 0, 0, 0, 0, 0]⟩
theorem fourA_ok {a b c d : Nat} (ha : a < 256) (hb : b < 256) (hc : c < 256) (hd : d < 256) : (fourA a b c d).Ok := ⟨rfl, fun x hx => by
  simp [fourA] at hx
  omega⟩
theorem Ad.one' (a : Ad) : a.arr.all (·.oneCell') = true := by
  unfold Ad.arr
  rw [List.all_toArray, List.all_eq_true]
  exact a.one
theorem Ad.arr_size {a : Ad} (h : a.Ok) : a.arr.size = 17 := by
  unfold Ad.arr
  rw [List.size_toArray, h.len]

theorem Ad.zero_arr : #[.bool false, .int .u8 0, .int .u8 0, .int .u8 0, .int .u8 0, .int .u8 0, .int .u8 0, .int .u8 0, .int .u8 0, .int .u8 0, .int .u8 0, .int .u8 0, .int .u8 0, .int .u8 0, .int .u8 0, .int .u8 0, .int .u8 0] = Ad.zero.arr := rfl
set_option maxRecDepth 100000 in
theorem four_is {a b c d : Nat} (ha : a < 256) (hb : b < 256) (hc : c < 256) (hd : d < 256) (w : World) :
    Calls Try.prog 16 #[.int .u8 a, .int .u8 b, .int .u8 c, .int .u8 d] w fun e w' => e = .returned (.agg (fourA a b c d).arr) ∧ Below w.heap.size w w' := by
  go_enter Try.func16, Try.ntmps16
  go_upto_region 2 with (fail)
  rw [Ad.zero_arr]
  obtain ⟨hB, g0, g1⟩ := two_boxes w Ad.zero.arr Ad.zero.arr 25 25
  generalize (w.alloc (.cells Ad.zero.arr 25)).alloc (.cells Ad.zero.arr 25) = w1 at *
  generalize hbb : w.heap.size = t at *
  have hl0 := lt_of_obj g0
  have hl1 := lt_of_obj g1
  have y1 : w1.cell? ⟨t + 1, 1, none⟩ = some (.int .u8 0) := cell_of_block g1 1
  have y2 : w1.cell? ⟨t + 1, 2, none⟩ = some (.int .u8 0) := cell_of_block g1 2
  have y3 : w1.cell? ⟨t + 1, 3, none⟩ = some (.int .u8 0) := cell_of_block g1 3
  have y4 : w1.cell? ⟨t + 1, 4, none⟩ = some (.int .u8 0) := cell_of_block g1 4
  have z1 : w1.frozen? ⟨t + 1, 1, none⟩ = false := free_of_block g1 1
  have z2 : w1.frozen? ⟨t + 1, 2, none⟩ = false := free_of_block g1 2
  have z3 : w1.frozen? ⟨t + 1, 3, none⟩ = false := free_of_block g1 3
  have z4 : w1.frozen? ⟨t + 1, 4, none⟩ = false := free_of_block g1 4
  go_upto_region 6 with (fail)
  have hblk : ((((w1.setCell ⟨t + 1, 1, none⟩ (.int .u8 a)).setCell ⟨t + 1, 2, none⟩ (.int .u8 b)).setCell ⟨t + 1, 3, none⟩ (.int .u8 c)).setCell ⟨t + 1, 4, none⟩ (.int .u8 d)).heap[t + 1]? = some (.cells (fourA a b c d).arr 25 (0, 0)) :=
    setCell_block (setCell_block (setCell_block (setCell_block g1 1 (.int .u8 a)) 2 (.int .u8 b)) 3 (.int .u8 c)) 4 (.int .u8 d)
  have hO : Only (fun k => k = t + 1) w1 ((((w1.setCell ⟨t + 1, 1, none⟩ (.int .u8 a)).setCell ⟨t + 1, 2, none⟩ (.int .u8 b)).setCell ⟨t + 1, 3, none⟩ (.int .u8 c)).setCell ⟨t + 1, 4, none⟩ (.int .u8 d)) :=
    Only.setCell (S := fun k => k = t + 1) (p := ⟨t + 1, 4, none⟩) (Only.setCell (S := fun k => k = t + 1) (p := ⟨t + 1, 3, none⟩) (Only.setCell (S := fun k => k = t + 1) (p := ⟨t + 1, 2, none⟩) (Only.setCell (S := fun k => k = t + 1) (p := ⟨t + 1, 1, none⟩) (Only.refl _ w1) (fun _ => rfl) _) (fun _ => rfl) _) (fun _ => rfl) _) (fun _ => rfl) _
  generalize (((w1.setCell ⟨t + 1, 1, none⟩ (.int .u8 a)).setCell ⟨t + 1, 2, none⟩ (.int .u8 b)).setCell ⟨t + 1, 3, none⟩ (.int .u8 c)).setCell ⟨t + 1, 4, none⟩ (.int .u8 d) = w2 at *
  have hok := fourA_ok ha hb hc hd
  have hL := row_ad hok (range_block hblk)
  have g02 := hO.keep g0 (by omega)
  have HB := Lib.hid (And.intro hbb (hB.trans (hO.below (B := t) (by omega) (fun k hk e => by omega))))
  clear y1 y2 y3 y4 z1 z2 z3 z4 hblk hO hB g0 g1 hbb
  generalize hFe : fourA a b c d = F at *
  have HFE := Lib.hid hFe
  clear hFe
  go_wp2_with (first | (refine wpList_store_blk rfl 25 (.tmp 8) (.tmp 23) rfl t F.arr rfl rfl 25 Ad.zero.arr g02 (by rw [Ad.arr_size hok]; kernel_rfl) (by rw [Ad.arr_size hok]; rfl) F.one' ?_))
  intro w3 hS
  have hv := var_ad hok (range_block hS.blk)
  go_wp2_with fail
  refine bodyPost_ret (v := .agg F.arr) (results_cell rfl rfl hv) rfl ⟨by rw [HFE.out], by rw [HB.out.1]; exact HB.out.2.trans (hS.only.below (B := t) (by have := lt_of_obj g02; omega) (fun k hk e => by omega))⟩

/-- The chapter's rules. -/
def ruA : Ru := ⟨0, 6, Pf.zero, Pf.zero, 0, 65535, 80, 81, false, 1⟩
def ruB : Ru := ⟨0, -1, ⟨fourA 10 0 0 0, 8⟩, Pf.zero, 0, 65535, 0, 65535, true, 0⟩
theorem four0_ok : (fourA 10 0 0 0).Ok := fourA_ok (by decide) (by decide) (by decide) (by decide)
theorem ruA_ok : ruA.Ok := ⟨Ad.zero_ok, Ad.zero_ok, by decide⟩
theorem ruB_ok : ruB.Ok := ⟨four0_ok, Ad.zero_ok, by decide⟩
theorem rules_blk {w : World} {g : Nat} {l : List Ru} (hok : ∀ r ∈ l, r.Ok) (h : w.heap[g]? = some (.cells (rsCells l).toArray 43 (0, 0))) (c : Nat) : Rules w (.slice (some ⟨g, 0, none⟩) l.length c) l :=
  ⟨_, c, rfl, (fun e => absurd e (by simp)), fun _ => ⟨g, 0, rfl, lt_of_obj h, rs_part hok (range_block h)⟩⟩
theorem built_two (w : World) : (rowRow 22 2 #[(0, .agg ruA.arr), (1, .agg ruB.arr)]).run Try.prog w = .ok (.slice (some ⟨w.heap.size, 0, none⟩) 2 2) (w.alloc (.cells (rsCells [ruA, ruB]).toArray 43)) := by
  obtain ⟨i, hi, hz0, hz1, hz2⟩ := info_parts info_ru
  refine run_rowRow w _ _ 2 _ _ i _ Try.underlying22 hi hz0 (by rw [hz1]; decide) (by rw [hz1]; decide) ?_
  rw [hz1]
  kernel_rfl
theorem built_three (w : World) : (rowRow 22 3 #[(0, .agg Ru.any.arr), (1, .agg ruA.arr), (2, .agg ruB.arr)]).run Try.prog w = .ok (.slice (some ⟨w.heap.size, 0, none⟩) 3 3) (w.alloc (.cells (rsCells [Ru.any, ruA, ruB]).toArray 43)) := by
  obtain ⟨i, hi, hz0, hz1, hz2⟩ := info_parts info_ru
  refine run_rowRow w _ _ 3 _ _ i _ Try.underlying22 hi hz0 (by rw [hz1]; decide) (by rw [hz1]; decide) ?_
  rw [hz1]
  kernel_rfl

set_option maxRecDepth 100000 in
theorem sample_is (w : World) :
    Calls Try.prog 18 #[] w fun e w' => ∃ g, e = .returned (.slice (some ⟨g, 0, none⟩) 2 2) ∧ w'.heap[g]? = some (.cells (rsCells [ruA, ruB]).toArray 43 (0, 0)) ∧ Below w.heap.size w w' := by
  go_enter Try.func18, Try.ntmps18
  go_wp2_with fail
  refine (any_is _).mono ?_
  rintro e w1 ⟨rfl, hB1⟩
  go_wp2_with fail
  refine (any_is _).mono ?_
  rintro e w2 ⟨rfl, hB2⟩
  have hB2' := hB1.trans (hB2.mono hB1.size)
  clear hB1 hB2
  have HB2 := Lib.hid hB2'
  have hw2 := hB2'.size
  clear hB2'
  have hq0 : ((w2.alloc (.cells Ru.zero.arr 43)).alloc (.cells Ru.zero.arr 43)).heap[w2.heap.size]? = some (.cells Ru.zero.arr 43 (0, 0)) := (alloc_block_old _ (by simp)).trans (alloc_block_new w2 _)
  have hq1 : ((w2.alloc (.cells Ru.zero.arr 43)).alloc (.cells Ru.zero.arr 43)).heap[w2.heap.size + 1]? = some (.cells Ru.zero.arr 43 (0, 0)) := alloc_block_at _ _ (by simp)
  have hBq : Below w2.heap.size w2 ((w2.alloc (.cells Ru.zero.arr 43)).alloc (.cells Ru.zero.arr 43)) := ((Below.refl _ _).alloc (Nat.le_refl _) _).alloc (by simp) _
  have hza := Ru.zero_arr
  go_wp2_with (first | (refine wpList_store_blk rfl 43 (.tmp 1) (.tmp 3) rfl w2.heap.size Ru.any.arr rfl rfl 43 Ru.zero.arr hq0 (by kernel_rfl) rfl (by kernel_rfl) ?_))
  intro w3 hS3
  have hq1' := hS3.only.keep hq1 (by omega)
  go_wp2_with (first | (refine wpList_store_blk rfl 43 (.tmp 2) (.tmp 4) rfl (w2.heap.size + 1) Ru.any.arr rfl rfl 43 Ru.zero.arr hq1' (by kernel_rfl) rfl (by kernel_rfl) ?_))
  intro w4 hS4
  have hA := hS4.only.keep hS3.blk (by omega)
  have hBb := hS4.blk
  have hB4 : Below w2.heap.size w2 w4 := hBq.trans ((hS3.only.below (by simp; omega) (fun k hk e => by omega)).trans (hS4.only.below (by have := hS3.size; simp at this; omega) (fun k hk e => by omega)))
  generalize w2.heap.size = A at *
  have HB4 := Lib.hid (HB2.out.trans (hB4.mono hw2))
  have hwA := hw2
  clear hq0 hq1 hq1' hS3 hS4 hBq hB4 HB2 hza hw2
  have y1 : w4.cell? ⟨A, 1, none⟩ = some (.int .i64 (-1)) := cell_of_block hA 1
  have y40 : w4.cell? ⟨A, 40, none⟩ = some (.int .u16 0) := cell_of_block hA 40
  have y41 : w4.cell? ⟨A, 41, none⟩ = some (.int .u16 65535) := cell_of_block hA 41
  have y43 : w4.cell? ⟨A, 43, none⟩ = some (.int .i64 0) := cell_of_block hA 43
  have z1 : w4.frozen? ⟨A, 1, none⟩ = false := free_of_block hA 1
  have z40 : w4.frozen? ⟨A, 40, none⟩ = false := free_of_block hA 40
  have z41 : w4.frozen? ⟨A, 41, none⟩ = false := free_of_block hA 41
  have z43 : w4.frozen? ⟨A, 43, none⟩ = false := free_of_block hA 43
  go_upto_region 5 with (fail)
  have hA2 : ((((w4.setCell ⟨A, 1, none⟩ (.int .i64 6)).setCell ⟨A, 40, none⟩ (.int .u16 80)).setCell ⟨A, 41, none⟩ (.int .u16 81)).setCell ⟨A, 43, none⟩ (.int .i64 1)).heap[A]? = some (.cells ruA.arr 43 (0, 0)) :=
    setCell_block (setCell_block (setCell_block (setCell_block hA 1 (.int .i64 6)) 40 (.int .u16 80)) 41 (.int .u16 81)) 43 (.int .i64 1)
  have hO : Only (fun k => k = A) w4 ((((w4.setCell ⟨A, 1, none⟩ (.int .i64 6)).setCell ⟨A, 40, none⟩ (.int .u16 80)).setCell ⟨A, 41, none⟩ (.int .u16 81)).setCell ⟨A, 43, none⟩ (.int .i64 1)) :=
    Only.setCell (S := fun k => k = A) (p := ⟨A, 43, none⟩) (Only.setCell (S := fun k => k = A) (p := ⟨A, 41, none⟩) (Only.setCell (S := fun k => k = A) (p := ⟨A, 40, none⟩) (Only.setCell (S := fun k => k = A) (p := ⟨A, 1, none⟩) (Only.refl _ w4) (fun _ => rfl) _) (fun _ => rfl) _) (fun _ => rfl) _) (fun _ => rfl) _
  generalize (((w4.setCell ⟨A, 1, none⟩ (.int .i64 6)).setCell ⟨A, 40, none⟩ (.int .u16 80)).setCell ⟨A, 41, none⟩ (.int .u16 81)).setCell ⟨A, 43, none⟩ (.int .i64 1) = w5 at *
  have hB5 := hO.keep hBb (by omega)
  have HB5 := Lib.hid (HB4.out.trans (hO.below (B := w.heap.size) (by have := HB4.out.size; omega) (fun k hk e => by omega)))
  have hl5 := lt_of_obj hA2
  have hl5' := lt_of_obj hB5
  have H5 := Lib.hid (And.intro hA2 hB5)
  clear y1 y40 y41 y43 z1 z40 z41 z43 hA2 hO hB5 HB4 hA hBb
  go_wp2_with fail
  refine (four_is (a := 10) (b := 0) (c := 0) (d := 0) (by decide) (by decide) (by decide) (by decide) _).mono ?_
  rintro e w6 ⟨rfl, hB6⟩
  have hA6 := (hB6.block _ hl5).trans H5.out.1
  have hB6' := (hB6.block _ hl5').trans H5.out.2
  have HB6 := Lib.hid (HB5.out.trans (hB6.mono HB5.out.size))
  have hbd := built_pf four0_ok 8
  clear hB6 H5 HB5
  go_wp2_with (first | (refine wpList_store_at rfl 39 (.tmp 11) (.tmp 10) rfl (A + 1) 2 (.agg (Pf.mk (fourA 10 0 0 0) 8).arr) rfl rfl 43 Ru.any.arr hB6' (Pf.mk (fourA 10 0 0 0) 8).cs rfl (by kernel_rfl) (by decide) (Pf.one _) ?_))
  intro w7 hS7
  have hB7 : w7.heap[A + 1]? = some (.cells (Ru.mk 0 (-1) ⟨fourA 10 0 0 0, 8⟩ Pf.zero 0 65535 0 65535 false 0).arr 43 (0, 0)) := hS7.blk
  have hA7 := hS7.only.keep hA6 (by omega)
  have hBB7 := HB6.out.trans (hS7.only.below (B := w.heap.size) HB6.out.size (fun k hk e => by omega))
  have y42 : w7.cell? ⟨A + 1, 42, none⟩ = some (.bool false) := cell_of_block hB7 42
  have z42 : w7.frozen? ⟨A + 1, 42, none⟩ = false := free_of_block hB7 42
  go_upto_region 7 with (fail)
  have hB8 : (w7.setCell ⟨A + 1, 42, none⟩ (.bool true)).heap[A + 1]? = some (.cells ruB.arr 43 (0, 0)) := setCell_block hB7 42 (.bool true)
  have hA8 := (setCell_block_other (w := w7) (b := A) (c := A + 1) 42 (.bool true) (by omega)).trans hA7
  have hBB8 := hBB7.setCell (p := ⟨A + 1, 42, none⟩) (by show w.heap.size ≤ A + 1; omega) (.bool true)
  generalize w7.setCell ⟨A + 1, 42, none⟩ (.bool true) = w8 at *
  have l1 := row_ru ruA_ok (range_block hA8)
  have l2 := row_ru ruB_ok (range_block hB8)
  have hbt := built_two
  have HB8 := Lib.hid hBB8
  clear y42 z42 hS7 hB7 hA7 hBB7 hB8 hA8 hBB8 hA6 hB6' HB6 hbd
  go_wp2_with fail
  go_ret
  exact ⟨_, rfl, alloc_block_new w8 _, HB8.out.alloc HB8.out.size _⟩
end Go.Proofs.Ytcbkcalemfminaa
