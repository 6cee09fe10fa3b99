/- Rows of prefixes and of rules, built; any rule; whether one prefix asks for less than another: walked. -/
import Derived.Test.YtcbkcalemfminaaRu5
namespace Go.Proofs.Ytcbkcalemfminaa
open Go.RowKit
attribute [local go_sem ↓] load_ad load_pf load_ru load_ky load_bs build_pf build_ru

/-- A literal of a slice, as the walk is to meet it: not cell by cell. -/
@[irreducible] def rowRow (t : TypeId) (n : Nat) (parts : Array (Nat × Value)) : Sem Value := Instr.buildSlice t n parts
theorem rows_pf (n : Nat) (parts : Array (Nat × Value)) : Instr.buildSlice 92 n parts = rowRow 92 n parts := by unfold rowRow; rfl
theorem rows_ru (n : Nat) (parts : Array (Nat × Value)) : Instr.buildSlice 22 n parts = rowRow 22 n parts := by unfold rowRow; rfl

theorem run_rowRow {P : Program} (w : World) (t elem : TypeId) (n : Nat) (parts : Array (Nat × Value)) (cells : Array Value) (i : TypeInfo) (z : Value) (hu : P.underlying t = some (.slice elem)) (hi : P.info? elem = some i) (hz : i.zero = some z)
    (hlim : n * i.size ≤ 16777216) (h0 : n * i.size ≠ 0) (hf : Instr.fill (fun j => some (j * i.size, i.size)) ((Array.range (n * i.size)).map (z.cells[· % z.cells.size]!)) parts.toList = some cells) :
    (rowRow t n parts).run P w = .ok (.slice (some ⟨w.heap.size, 0, none⟩) n n) (w.alloc (.cells cells elem)) := by
  unfold rowRow Instr.buildSlice
  simp [run_underlying hu, sizeOf, typeInfo, zeroValue, hi, hz, h0, hf, newRow, show ¬ 16777216 < n * i.size by omega]

theorem info_pf : (Try.prog.info? 39).map (fun i => (i.zero, i.size, i.bytes)) = some (some (.agg Pf.zero.arr), 18, 32) := by kernel_rfl
theorem info_ru : (Try.prog.info? 43).map (fun i => (i.zero, i.size, i.bytes)) = some (some (.agg #[.int .i64 0, .int .i64 0, .bool false, .int .u8 0, .int .u8 0, .int .u8 0, .int .u8 0, .int .u8 0, .int .u8 0, .int .u8 0, .int .u8 0, .int .u8 0, .int .u8 0, .int .u8 0, .int .u8 0, .int .u8 0, .int .u8 0, .int .u8 0, .int .u8 0, .int .i64 0, .bool false, .int .u8 0, .int .u8 0, .int .u8 0, .int .u8 0, .int .u8 0, .int .u8 0, .int .u8 0, .int .u8 0, .int .u8 0, .int .u8 0, .int .u8 0, .int .u8 0, .int .u8 0, .int .u8 0, .int .u8 0, .int .u8 0, .int .i64 0, .int .u16 0, .int .u16 0, .int .u16 0, .int .u16 0, .bool false, .int .i64 0]), 44, 104) := by kernel_rfl
theorem built_pfs {p q : Pf} (hp : p.a.Ok) (hq : q.a.Ok) (w : World) : (rowRow 92 2 #[(0, .agg p.arr), (1, .agg q.arr)]).run Try.prog w = .ok (.slice (some ⟨w.heap.size, 0, none⟩) 2 2) (w.alloc (.cells (p.cs ++ q.cs).toArray 39)) := by
  obtain ⟨i, hi, hz0, hz1, hz2⟩ := info_parts info_pf
  refine run_rowRow w _ _ 2 _ _ i _ Try.underlying92 hi hz0 (by rw [hz1]; decide) (by rw [hz1]; decide) ?_
  rw [hz1]
  obtain ⟨⟨s, bs⟩, l⟩ := p
  obtain ⟨⟨s', bs'⟩, l'⟩ := q
  obtain ⟨x0, x1, x2, x3, x4, x5, x6, x7, x8, x9, x10, x11, x12, x13, x14, x15, rfl⟩ := len16 hp.1
  obtain ⟨y0, y1, y2, y3, y4, y5, y6, y7, y8, y9, y10, y11, y12, y13, y14, y15, rfl⟩ := len16 hq.1
  kernel_rfl
theorem built_rus {r : Ru} (hr : r.Ok) (w : World) : (rowRow 22 1 #[(0, .agg r.arr)]).run Try.prog w = .ok (.slice (some ⟨w.heap.size, 0, none⟩) 1 1) (w.alloc (.cells r.arr 43)) := by
  obtain ⟨i, hi, hz0, hz1, hz2⟩ := info_parts info_ru
  refine run_rowRow w _ _ 1 _ _ i _ Try.underlying22 hi hz0 (by rw [hz1]; decide) (by rw [hz1]; decide) ?_
  rw [hz1]
  obtain ⟨v, pr, ⟨⟨s, bs⟩, l⟩, ⟨⟨s', bs'⟩, l'⟩, a, b, c, d, e, f⟩ := r
  obtain ⟨x0, x1, x2, x3, x4, x5, x6, x7, x8, x9, x10, x11, x12, x13, x14, x15, rfl⟩ := len16 hr.s.1
  obtain ⟨y0, y1, y2, y3, y4, y5, y6, y7, y8, y9, y10, y11, y12, y13, y14, y15, rfl⟩ := len16 hr.d.1
  kernel_rfl

def Ru.any : Ru := ⟨0, -1, Pf.zero, Pf.zero, 0, 65535, 0, 65535, false, 0⟩
def Ru.zero : Ru := ⟨0, 0, Pf.zero, Pf.zero, 0, 0, 0, 0, false, 0⟩
theorem Ru.any_ok : Ru.any.Ok := ⟨Ad.zero_ok, Ad.zero_ok, by decide⟩
theorem Ru.zero_arr : #[.int .i64 0, .int .i64 0, .bool false, .int .u8 0, .int .u8 0, .int .u8 0, .int .u8 0, .int .u8 0, .int .u8 0, .int .u8 0, .int .u8 0, .int .u8 0, .int .u8 0, .int .u8 0, .int .u8 0, .int .u8 0, .int .u8 0, .int .u8 0, .int .u8 0, .int .i64 0, .bool false, .int .u8 0, .int .u8 0, .int .u8 0, .int .u8 0, .int .u8 0, .int .u8 0, .int .u8 0, .int .u8 0, .int .u8 0, .int .u8 0, .int .u8 0, .int .u8 0, .int .u8 0, .int .u8 0, .int .u8 0, .int .u8 0, .int .i64 0, .int .u16 0, .int .u16 0, .int .u16 0, .int .u16 0, .bool false, .int .i64 0] = Ru.zero.arr := rfl
theorem built_any (w : World) : (buildRow 43 #[(1, .int .i64 (-1)), (4, .agg #[.int .u16 0, .int .u16 65535]), (5, .agg #[.int .u16 0, .int .u16 65535])]).run Try.prog w = .ok (.agg Ru.any.arr) w := by
  unfold buildRow
  exact run_build w _ _ _ (by kernel_rfl)
theorem Ru.one (r : Ru) : ∀ v ∈ r.cs, v.oneCell' = true := by
  intro v hv
  unfold Ru.cs at hv
  rcases List.mem_append.1 hv with h | h
  · rcases List.mem_append.1 h with h | h
    · rcases List.mem_append.1 h with h | h
      · simp at h; rcases h with rfl | rfl <;> rfl
      · exact r.src.one v h
    · exact r.dst.one v h
  · simp at h; rcases h with rfl | rfl | rfl | rfl | rfl | rfl <;> rfl
theorem Ru.all (r : Ru) : r.arr.all (·.oneCell') = true := by
  unfold Ru.arr
  rw [List.all_toArray, List.all_eq_true]
  exact r.one
theorem Ru.arr_size {r : Ru} (h : r.Ok) : r.arr.size = 44 := by
  unfold Ru.arr
  rw [List.size_toArray, h.len]

set_option maxRecDepth 100000 in
theorem any_is (w : World) :
    Calls Try.prog 10 #[] w fun e w' => e = .returned (.agg Ru.any.arr) ∧ Below w.heap.size w w' := by
  go_enter Try.func10, Try.ntmps10
  go_upto_region 1 with (fail)
  rw [Ru.zero_arr]
  have hB : Below w.heap.size w (w.alloc (.cells Ru.zero.arr 43)) := (Below.refl _ _).alloc (Nat.le_refl _) _
  have g0 := alloc_block_new w (.cells Ru.zero.arr 43)
  generalize w.alloc (.cells Ru.zero.arr 43) = w1 at *
  generalize hb : w.heap.size = b at *
  have hl := lt_of_obj g0
  have HB := Lib.hid (And.intro hb (And.intro hB g0))
  clear hb hB g0
  go_wp2_with fail
  refine (every_is _).mono ?_
  rintro e w2 ⟨rfl, hB2⟩
  go_wp2_with fail
  refine (every_is _).mono ?_
  rintro e w3 ⟨rfl, hB3⟩
  have hB3' := hB2.trans (hB3.mono hB2.size)
  have H3 := Lib.hid (And.intro ((hB3'.block _ hl).trans HB.out.2.2) (HB.out.2.1.trans (hB3'.mono (by omega))))
  clear hB2 hB3 hB3'
  have hbd := built_any
  go_wp2_with (first | (refine wpList_store_blk rfl 43 (.tmp 0) (.tmp 3) rfl b Ru.any.arr rfl rfl 43 Ru.zero.arr H3.out.1 (by kernel_rfl) rfl (by kernel_rfl) ?_))
  intro w4 hS
  have hBf := H3.out.2.trans (hS.only.below (B := b) (by have := lt_of_obj H3.out.1; omega) (fun k hk e => by omega))
  have hv := var_ru Ru.any_ok (range_block hS.blk)
  go_wp2_with fail
  refine bodyPost_ret (v := .agg Ru.any.arr) (results_cell rfl rfl hv) rfl ⟨rfl, by rw [HB.out.1]; exact hBf⟩

set_option maxRecDepth 100000 in
theorem prefixed_is {p q : Pf} (hp : p.a.Ok) (hq : q.a.Ok) (w : World) :
    Calls Try.prog 54 #[.agg p.arr, .agg q.arr] w fun e w' => e = .returned (.bool (prefixedB p q)) ∧ Below w.heap.size w w' := by
  go_enter Try.func54, Try.ntmps54
  go_upto_region 1 with (fail)
  obtain ⟨hB, g0, g1⟩ := two_boxes w p.arr q.arr 39 39
  generalize (w.alloc (.cells p.arr 39)).alloc (.cells q.arr 39) = w1 at *
  have hl := lt_of_obj g0
  have hl1 := lt_of_obj g1
  have hr : w1.rangeAt w.heap.size 0 p.cs := range_block g0
  have hr1 : w1.rangeAt (w.heap.size + 1) 0 q.cs := range_block g1
  generalize hb : w.heap.size = b at *
  have HB := Lib.hid (And.intro hb hB)
  have HP : Hid (∀ w', Below w1.heap.size w1 w' → (loadRow 39 (.pointer (some ⟨b, 0, none⟩))).run Try.prog w' = .ok (.agg p.arr) w' ∧ (loadRow 39 (.pointer (some ⟨b + 1, 0, none⟩))).run Try.prog w' = .ok (.agg q.arr) w') := fun w' hB' =>
    ⟨row_pf hp (range_below hr hl hB'), row_pf hq (range_below hr1 hl1 hB')⟩
  clear hb hB g0 g1 hr hr1
  obtain ⟨k0, _⟩ := HP.out w1 (Below.refl _ _)
  go_wp2_with fail
  refine (none_is hp _).mono ?_
  rintro e w2 ⟨rfl, hB2⟩
  have HB2 := Lib.hid hB2
  clear k0 hB2
  by_cases h1 : p = Pf.zero
  · rw [decide_eq_true h1]
    go_wp2_with fail
    go_ret
    exact ⟨by simp [prefixedB, Pf.isNone, h1], by rw [HB.out.1]; exact HB.out.2.trans (HB2.out.mono (by omega))⟩
  · rw [decide_eq_false h1]
    obtain ⟨_, k1⟩ := HP.out w2 HB2.out
    go_wp2_with fail
    refine (none_is hq _).mono ?_
    rintro e w3 ⟨rfl, hB3⟩
    have HB3 := Lib.hid (HB2.out.trans (hB3.mono HB2.out.size))
    clear hB3 k1
    by_cases h2 : q = Pf.zero
    · rw [decide_eq_true h2]
      go_wp2_with fail
      go_ret
      exact ⟨by simp [prefixedB, Pf.isNone, h1, h2], by rw [HB.out.1]; exact HB.out.2.trans (HB3.out.mono (by omega))⟩
    · rw [decide_eq_false h2]
      obtain ⟨k0, k1⟩ := HP.out w3 HB3.out
      go_wp2_with fail
      refine (within_is hq hp _).mono ?_
      rintro e w4 ⟨rfl, hB4⟩
      have HB4 := Lib.hid (HB3.out.trans (hB4.mono HB3.out.size))
      clear hB4 k0 k1
      go_wp2_with fail
      go_ret
      exact ⟨by simp [prefixedB, Pf.isNone, h1, h2], by rw [HB.out.1]; exact HB.out.2.trans (HB4.out.mono (by omega))⟩
end Go.Proofs.Ytcbkcalemfminaa
