/- The reference's addresses and prefixes: their rows; size, Right: walked. -/
import Derived.Test.YtcbkcalemfminaaRu3
namespace Go.Proofs.Ytcbkcalemfminaa
open Go.RowKit
theorem load_ra (p : Value) : Instr.loadAt 77 p = loadRow 77 p := by unfold loadRow; rfl
theorem load_rp (p : Value) : Instr.loadAt 86 p = loadRow 86 p := by unfold loadRow; rfl
theorem build_ra (parts : Array (Nat × Value)) : Instr.build 77 parts = buildRow 77 parts := by unfold buildRow; rfl
theorem build_rp (parts : Array (Nat × Value)) : Instr.build 86 parts = buildRow 86 parts := by unfold buildRow; rfl
section
variable {w : World} {b o : Nat}
theorem row_ra {c : Ad} (hc : c.Ok) (h : w.rangeAt b o c.cs) : (loadRow 77 (.pointer (some ⟨b, o, none⟩))).run Try.prog w = .ok (.agg c.arr) w := by
  unfold loadRow
  exact run_loadAt_mid w b o _ c.cs _ h Try.underlying77 rfl (by rw [hc.len]; kernel_rfl)
theorem row_rp {c : Pf} (hc : c.a.Ok) (h : w.rangeAt b o c.cs) : (loadRow 86 (.pointer (some ⟨b, o, none⟩))).run Try.prog w = .ok (.agg c.arr) w := by
  unfold loadRow
  exact run_loadAt_mid w b o _ c.cs _ h Try.underlying86 rfl (by rw [Pf.len_cs hc]; kernel_rfl)
end
theorem var_rp {w : World} {b o : Nat} {c : Pf} (hc : c.a.Ok) (h : w.rangeAt b o c.cs) : (loadVar 86 ⟨b, o, none⟩).run Try.prog w = .ok (.agg c.arr) w :=
  run_loadVar_mid w b o _ c.cs _ h Try.underlying86 rfl (by rw [Pf.len_cs hc]; kernel_rfl)
theorem built_rp {a : Ad} (ha : a.Ok) (n : Int) (w : World) : (buildRow 86 #[(0, .agg a.arr), (1, .int .i64 n)]).run Try.prog w = .ok (.agg (Pf.mk a n).arr) w := by
  unfold buildRow
  refine run_build w _ _ _ ?_
  obtain ⟨s, bs⟩ := a
  obtain ⟨x0, x1, x2, x3, x4, x5, x6, x7, x8, x9, x10, x11, x12, x13, x14, x15, rfl⟩ := len16 ha.1
  kernel_rfl
theorem built_rp0 (w : World) : (buildRow 86 #[]).run Try.prog w = .ok (.agg Pf.zero.arr) w := by
  unfold buildRow
  exact run_build w _ _ _ (by kernel_rfl)
def Ad.blank (s : Bool) : Ad := ⟨s, List.replicate 16 0⟩
theorem Ad.blank_ok (s : Bool) : (Ad.blank s).Ok := ⟨rfl, fun x hx => by rw [(List.mem_replicate.1 hx).2]; decide⟩
theorem built_ra (s : Bool) (w : World) : (buildRow 77 #[(0, .bool s)]).run Try.prog w = .ok (.agg (Ad.blank s).arr) w := by
  unfold buildRow
  exact run_build w _ _ _ (by kernel_rfl)
attribute [local go_sem ↓] load_ra load_rp build_ra build_rp

theorem rsize_is (s : Bool) (w : World) :
    Calls Try.prog 80 #[.bool s] w fun e w' => e = .returned (.int .i64 (if s = true then 16 else 4)) ∧ w' = w := by
  cases s
  all_goals
    go_enter Try.func80, Try.ntmps80
    go_wp2_with fail
    go_ret
    exact ⟨rfl, rfl⟩

theorem right_six {a : Ad} (ha : a.Ok) (h : a.six = true) : a.right = true := by
  unfold Ad.right Ad.plain Ad.size
  rw [if_pos h]
  simp [List.take_of_length_le, ha.1]
theorem right_four {a : Ad} (ha : a.Ok) (h : a.six = false) : a.right = true ↔ ∀ j, j < 16 → 4 ≤ j → a.bs.getD j 0 = 0 := by
  unfold Ad.right Ad.plain Ad.size
  rw [if_neg (by rw [h]; decide), decide_eq_true_iff]
  have hl := ha.1
  generalize a.bs = bs at *
  obtain ⟨x0, x1, x2, x3, x4, x5, x6, x7, x8, x9, x10, x11, x12, x13, x14, x15, rfl⟩ := len16 hl
  constructor
  · intro e j hj h4
    simp at e
    obtain ⟨rfl, rfl, rfl, rfl, rfl, rfl, rfl, rfl, rfl, rfl, rfl, rfl⟩ := e
    rcases (show j = 4 ∨ j = 5 ∨ j = 6 ∨ j = 7 ∨ j = 8 ∨ j = 9 ∨ j = 10 ∨ j = 11 ∨ j = 12 ∨ j = 13 ∨ j = 14 ∨ j = 15 by omega) with rfl | rfl | rfl | rfl | rfl | rfl | rfl | rfl | rfl | rfl | rfl | rfl <;> rfl
  · intro hh
    have h4 := hh 4 (by decide) (by decide); have h5 := hh 5 (by decide) (by decide); have h6 := hh 6 (by decide) (by decide); have h7 := hh 7 (by decide) (by decide)
    have h8 := hh 8 (by decide) (by decide); have h9 := hh 9 (by decide) (by decide); have h10 := hh 10 (by decide) (by decide); have h11 := hh 11 (by decide) (by decide)
    have h12 := hh 12 (by decide) (by decide); have h13 := hh 13 (by decide) (by decide); have h14 := hh 14 (by decide) (by decide); have h15 := hh 15 (by decide) (by decide)
    simp at h4 h5 h6 h7 h8 h9 h10 h11 h12 h13 h14 h15
    subst h4 h5 h6 h7 h8 h9 h10 h11 h12 h13 h14 h15
    rfl

/-- Ahead of each byte behind the fourth. -/
def R4Rel (W : World) (a : Ad) (i : Value) (w : World) : Prop :=
  ∃ k : Nat, i = .int .i64 k ∧ 4 ≤ k ∧ k ≤ 16 ∧ w = W ∧ (a.six = false → ∀ j, j < k → 4 ≤ j → a.bs.getD j 0 = 0)
theorem Ad.cB {w : World} {b o : Nat} {a : Ad} (ha : a.Ok) (h : w.rangeAt b o a.cs) {k : Nat} (hk : k < 16) : w.cell? ⟨b, o + 1 + k, none⟩ = some (.int .u8 (a.bs.getD k 0 : Nat)) := by
  refine Ad.rB h k _ ?_
  rw [u8s_get, List.getElem?_eq_getElem (by rw [ha.1]; exact hk)]
  simp [List.getD_eq_getElem?_getD, List.getElem?_eq_getElem (show k < a.bs.length by rw [ha.1]; exact hk)]
set_option maxRecDepth 100000 in
theorem r4right_is {a : Ad} (ha : a.Ok) (w : World) :
    Calls Try.prog 77 #[.agg a.arr] w fun e w' => e = .returned (.bool a.right) ∧ Below w.heap.size w w' := by
  go_enter Try.func77, Try.ntmps77
  go_upto_region 1 with (fail)
  have hB : Below w.heap.size w (w.alloc (.cells a.arr 77)) := (Below.refl _ _).alloc (Nat.le_refl _) _
  have hr : (w.alloc (.cells a.arr 77)).rangeAt w.heap.size 0 a.cs := range_block (alloc_block_new w (.cells a.arr 77))
  generalize w.alloc (.cells a.arr 77) = w1 at *
  have HB := Lib.hid hB
  have h6 := Ad.cSix hr
  have HR := Lib.hid hr
  generalize hb : w.heap.size = b at *
  have HBb := Lib.hid hb
  clear hB hr hb
  go_wp2_with fail
  go_loopw [3] (R4Rel w1 a) (fun i _ => 16 - (intOf i).toNat)
  case atStart => exact ⟨4, rfl, by decide, by decide, rfl, fun _ j h1 h2 => by omega⟩
  case round =>
    obtain ⟨k, rfl, h4, hk, rfl, hz⟩ := hrel
    by_cases hk16 : k < 16
    · have hc := Ad.cB ha HR.out hk16
      have hki : (k : Int) < 16 := by omega
      have HZ := Lib.hid hz
      clear hz
      cases hs : a.six
      · rw [hs] at h6
        by_cases hx : a.bs.getD k 0 = 0
        · have HN : Hid (R4Rel wr a (.int .i64 (k + 1 : Nat)) wr) := ⟨k + 1, rfl, by omega, by omega, rfl, fun h j h1 h2 => by
            rcases Nat.lt_or_ge j k with h3 | h3
            · exact HZ.out h j h3 h2
            · rw [show j = k by omega]; exact hx⟩
          rw [hx] at hc
          clear hs hx
          go_wp2_with fail
          go_roundw
          case rel => exact HN.out
          case measure => simp [intOf]; omega
        · have hne : ((((a.bs.getD k 0 : Nat) : Int)) != 0) = true := by
            simp only [bne_iff_ne, ne_eq]
            omega
          have HF : Hid (a.right = false) := by
            cases hh : a.right
            · rfl
            · exact absurd ((right_four ha hs).1 hh k hk16 h4) hx
          generalize a.bs.getD k 0 = x at *
          have hxi : ((x : Int) ≠ 0) := by omega
          clear hs hx
          go_wp2_with fail
          go_ret
          exact ⟨by rw [HF.out]; rfl, by rw [HBb.out]; exact HB.out⟩
      · rw [hs] at h6
        have HN : Hid (R4Rel wr a (.int .i64 (k + 1 : Nat)) wr) := ⟨k + 1, rfl, by omega, by omega, rfl, fun h => by rw [hs] at h; cases h⟩
        clear hs
        go_wp2_with fail
        go_roundw
        case rel => exact HN.out
        case measure => simp [intOf]; omega
    · obtain rfl : k = 16 := by omega
      have HF : Hid (a.right = true) := by
        cases hs : a.six
        · exact (right_four ha hs).2 (fun j h1 h2 => hz hs j h1 h2)
        · exact right_six ha hs
      clear hz h6
      go_wp2_with fail
      go_ret
      exact ⟨by rw [HF.out]; rfl, by rw [HBb.out]; exact HB.out⟩
end Go.Proofs.Ytcbkcalemfminaa
