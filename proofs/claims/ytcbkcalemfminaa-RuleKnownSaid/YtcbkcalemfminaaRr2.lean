/- The reference's binary digits of an address: walked. -/
import Derived.Test.YtcbkcalemfminaaRr1
namespace Go.Proofs.Ytcbkcalemfminaa
open Go.RowKit
attribute [local go_sem ↓] load_ra load_rp build_ra build_rp

/-- A binary digit. -/
def dig (a : Ad) (i : Nat) : Nat := a.bs.getD (i / 8) 0 / 2 ^ (7 - i % 8) % 2
/-- Ahead of each halving. -/
def DgRel (W : World) (x r : Nat) (k v : Value) (w : World) : Prop :=
  ∃ t : Nat, k = .int .i64 (r + t : Nat) ∧ r + t ≤ 7 ∧ v = .int .i64 (x / 2 ^ t : Nat) ∧ w = W
set_option maxRecDepth 100000 in
theorem rdigit_is {a : Ad} (ha : a.Ok) {i : Nat} (hi : i < 128) (w : World) :
    Calls Try.prog 81 #[.agg a.arr, .int .i64 i] w fun e w' => e = .returned (.int .i64 (dig a i : Nat)) ∧ Below w.heap.size w w' := by
  have hq : i / 8 < 16 := by omega
  have hqi : ((i / 8 : Nat) : Int) < 16 := by omega
  have hq0 : (0 : Int) ≤ (i : Int) / 8 := by omega
  have hq1 : (i : Int) / 8 < 16 := by omega
  have hqt : ((i : Int) / 8).toNat = i / 8 := by omega
  have hr7 : i % 8 ≤ 7 := by omega
  have hrm : (i : Int) % 8 = ((i % 8 : Nat) : Int) := by omega
  go_enter Try.func81, Try.ntmps81
  go_upto_region 1 with (fail)
  have hB : Below w.heap.size w (w.alloc (.cells a.arr 77)) := (Below.refl _ _).alloc (Nat.le_refl _) _
  have hr : (w.alloc (.cells a.arr 77)).rangeAt w.heap.size 0 a.cs := range_block (alloc_block_new w (.cells a.arr 77))
  generalize w.alloc (.cells a.arr 77) = w1 at *
  have HB := Lib.hid hB
  have hc := Ad.cB ha hr hq
  have hD : Hid (dig a i = a.bs.getD (i / 8) 0 / 2 ^ (7 - i % 8) % 2) := rfl
  have hx : a.bs.getD (i / 8) 0 < 256 := by
    rw [List.getD_eq_getElem?_getD, List.getElem?_eq_getElem (by rw [ha.1]; exact hq)]
    exact ha.2 _ (List.getElem_mem _)
  generalize a.bs.getD (i / 8) 0 = x at *
  generalize hb : w.heap.size = b at *
  have HBb := Lib.hid hb
  clear hB hr hb
  go_wp2_with fail
  go_loopw [6, 5] (DgRel w1 x (i % 8)) (fun k _ _ => 7 - (intOf k).toNat)
  case atStart => exact ⟨0, by rw [hrm]; rfl, by omega, by simp, rfl⟩
  case round =>
    obtain ⟨t, rfl, ht, rfl, rfl⟩ := hrel
    obtain ⟨y, hy⟩ : ∃ y, x / 2 ^ t = y := ⟨_, rfl⟩
    have hyl : y < 256 := by rw [← hy]; exact Nat.lt_of_le_of_lt (Nat.div_le_self _ _) hx
    rw [hy]
    obtain ⟨q, hqe⟩ : ∃ q, i % 8 + t = q := ⟨_, rfl⟩
    rw [hqe] at ht ⊢
    have HY := Lib.hid (And.intro hy hqe)
    clear hy hqe hrm hqt hq1 hq0 hqi hc
    by_cases h7 : q < 7
    · have h7i : (q : Int) < 7 := by omega
      have HN : Hid (DgRel wr x (i % 8) (.int .i64 (q + 1 : Nat)) (.int .i64 ((y / 2 : Nat) : Int)) wr) := ⟨t + 1, by rw [← HY.out.2]; rfl, by have := HY.out.2; omega, by rw [← HY.out.1, Nat.div_div_eq_div_mul, ← Nat.pow_succ], rfl⟩
      go_wp2_with fail
      go_roundw
      case rel => exact HN.out
      case measure => simp [intOf]; omega
    · have h7i : ¬ (q : Int) < 7 := by omega
      have HF : Hid (dig a i = y % 2) := by
        rw [hD.out, ← HY.out.1, show 7 - i % 8 = t by have := HY.out.2; omega]
        exact rfl
      clear hD
      go_wp2_with fail
      go_ret
      exact ⟨by rw [HF.out]; rfl, by rw [HBb.out]; exact HB.out⟩
end Go.Proofs.Ytcbkcalemfminaa
