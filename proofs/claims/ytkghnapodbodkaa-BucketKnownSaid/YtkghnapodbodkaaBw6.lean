/- BucketWaits, walked. -/
import Derived.Test.YtkghnapodbodkaaBw4
import Derived.Test.YtkghnapodbodkaaBlaw
import Derived.OpenShut
namespace Go.Proofs.Ytkghnapodbodkaa
open Go.RowKit

theorem copy_is {B : Bk} (p : Nat) (w : World) (hB : IsB w p B) :
    Calls Try.prog 13 #[.pointer (some ⟨p, 0, none⟩)] w fun e w' =>
      ∃ q, e = .returned (.pointer (some ⟨q, 0, none⟩)) ∧ w.heap.size ≤ q ∧ IsB w' q B ∧ IsB w' p B ∧ Only (fun _ => False) w w' :=
  (copy_any p B w hB).mono fun e w' ⟨he, hw⟩ =>
    ⟨_, he, Nat.le_refl _, by rw [hw]; exact alloc_block_new _ _, by rw [hw]; exact (alloc_block_old _ hB.lt).trans hB, by rw [hw]; exact (Only.refl _ _).alloc _⟩

theorem tick_is {B : Bk} {t : Nat} (p : Nat) (w : World) (hB : IsB w p B) (ht : B.tick = t) :
    Calls Try.prog 15 #[.pointer (some ⟨p, 0, none⟩)] w fun e w' => e = .returned (.int .u64 t) ∧ w' = w := by
  subst ht
  exact tick_any p B w hB

set_option maxRecDepth 100000 in
theorem waits_any (r b s t m n : Nat) (hr : r < 18446744073709551616) (hb : b < 18446744073709551616) (hs : s < 18446744073709551616) (ht : t < 18446744073709551616) (w : World) :
    Calls Try.prog 5 #[.int .u64 r, .int .u64 b, .int .u64 s, .int .u64 t, .int .u64 m, .int .u64 n] w fun e w' => e = .returned (.bool true) ∧ Below w.heap.size w w' := by
  have hk0 : (Bk.mk r b s b).Ok := ⟨hr, hb, hs, Nat.le_refl _⟩
  obtain ⟨c, hc⟩ : ∃ c, (Bk.mk r b s b).can t m = c := ⟨_, rfl⟩
  obtain ⟨B, hB⟩ : ∃ B, (Bk.mk r b s b).take t m = B := ⟨_, rfl⟩
  have hk : B.Ok := hB ▸ hk0.take ht
  have HC := Lib.hid hc
  have HB := Lib.hid hB
  have HT := Lib.hid ht
  clear hc hB hr hb hs ht
  by_cases hn : n ≤ B.tok
  · have hc0 : B.can 0 n = true := by rw [can_zero]; exact decide_eq_true hn
    have HC0 := Lib.hid hc0
    clear hc0
    go_enter Try.func5, Try.ntmps5
    go_wp2_with fail
    refine (new_is r b s _).mono ?_
    rintro e w1 ⟨p, rfl, hp, hB1, hO1⟩
    go_wp2_with fail
    refine (take_is p t m _ hB1 hk0 HT.out HC.out HB.out).mono ?_
    rintro e w2 ⟨rfl, hB2, hO2⟩
    go_wp2_with fail
    refine (copy_is p _ hB2).mono ?_
    rintro e w3 ⟨q, rfl, hq, hB3, hP3, hO3⟩
    go_wp2_with fail
    refine (take_is q 0 n _ hB3 hk (by decide) HC0.out rfl).mono ?_
    rintro e w4 ⟨rfl, hB4, hO4⟩
    have hpq : p < q := Nat.lt_of_lt_of_le hB2.lt hq
    have hP4 : IsB w4 p B := hP3.keep hO4 (fun e => by omega)
    go_wp2_with fail
    refine (when_is p n _ hP4 hk (Bk.when_now hn)).mono ?_
    rintro e w5 ⟨rfl, hP5, hO5⟩
    go_wp2_with fail
    refine (tick_is p _ hP5 rfl).mono ?_
    rintro e w6 ⟨rfl, rfl⟩
    go_wp2_with fail
    refine (works_any _).mono ?_
    rintro e w7 ⟨rfl, hO7⟩
    go_wp2
    go_ret
    refine ⟨rfl, ?_⟩
    have b1 : Below w.heap.size w w1 := hO1.below (Nat.le_refl _) (fun _ _ h => h)
    have b2 := b1.trans (hO2.below b1.size (fun k hk e => by omega))
    have b3 := b2.trans (hO3.below b2.size (fun _ _ h => h))
    have b4 := b3.trans (hO4.below b3.size (fun k hk e => by omega))
    have b5 := b4.trans (hO5.below b4.size (fun _ _ h => h))
    exact b5.trans (hO7.below b5.size (fun _ _ h => h))
  · have hc0 : B.can 0 n = false := by rw [can_zero]; exact decide_eq_false hn
    have HC0 := Lib.hid hc0
    clear hc0
    have hlt : B.tok < n := by omega
    obtain ⟨a, hw⟩ : ∃ a, B.when n = a := ⟨_, rfl⟩
    obtain ⟨a, y⟩ := a
    cases y with
    | false =>
      have hnv := wait_never hk hlt (by rw [hw])
      rw [hw] at hnv
      obtain ⟨ha, hcn⟩ := hnv
      have ha : a = 0 := ha
      subst ha
      have HW := Lib.hid hw
      have HN := Lib.hid hcn
      clear hw hcn hlt hn
      go_enter Try.func5, Try.ntmps5
      go_wp2_with fail
      refine (new_is r b s _).mono ?_
      rintro e w1 ⟨p, rfl, hp, hB1, hO1⟩
      go_wp2_with fail
      refine (take_is p t m _ hB1 hk0 HT.out HC.out HB.out).mono ?_
      rintro e w2 ⟨rfl, hB2, hO2⟩
      go_wp2_with fail
      refine (copy_is p _ hB2).mono ?_
      rintro e w3 ⟨q, rfl, hq, hB3, hP3, hO3⟩
      go_wp2_with fail
      refine (take_is q 0 n _ hB3 hk (by decide) HC0.out rfl).mono ?_
      rintro e w4 ⟨rfl, hB4, hO4⟩
      have hpq : p < q := Nat.lt_of_lt_of_le hB2.lt hq
      have hP4 : IsB w4 p B := hP3.keep hO4 (fun e => by omega)
      have b1 : Below w.heap.size w w1 := hO1.below (Nat.le_refl _) (fun _ _ h => h)
      have b2 := b1.trans (hO2.below b1.size (fun k hk e => by omega))
      have b3 := b2.trans (hO3.below b2.size (fun _ _ h => h))
      have b4 := b3.trans (hO4.below b3.size (fun k hk e => by omega))
      clear hB1 hO1 hB2 hO2 hB3 hP3 hO3 hB4 hO4 b1 b2 b3
      go_wp2_with fail
      refine (when_is p n _ hP4 hk HW.out).mono ?_
      rintro e w5 ⟨rfl, hP5, hO5⟩
      have b5 := b4.trans (hO5.below b4.size (fun _ _ h => h))
      go_wp2_with fail
      refine (copy_is p _ hP5).mono ?_
      rintro e w6 ⟨l, rfl, hl, hL6, hP6, hO6⟩
      go_wp2_with fail
      refine (take_is l 18446744073709551615 n _ hL6 hk (by decide) HN.out rfl).mono ?_
      rintro e w7 ⟨rfl, hL7, hO7⟩
      go_wp2_with fail
      refine (works_any _).mono ?_
      rintro e w8 ⟨rfl, hO8⟩
      go_wp2
      go_ret
      refine ⟨rfl, ?_⟩
      have b6 := b5.trans (hO6.below b5.size (fun _ _ h => h))
      have b7 := b6.trans (hO7.below b6.size (fun k hk e => by have := b5.size; omega))
      exact b7.trans (hO8.below b7.size (fun _ _ h => h))
    | true =>
      have hnv := wait_then hlt (by rw [hw])
      rw [hw] at hnv
      obtain ⟨ha, ha2, hc1, hc2⟩ := hnv
      have ha : B.tick < a := ha
      have ha2 : a < 18446744073709551616 := ha2
      have HW := Lib.hid hw
      have HN : Hid (B.can (a - 1) n = false) := hc1
      have HM : Hid (B.can a n = true) := hc2
      have hai2 : (a : Int) - 1 = ((a - 1 : Nat) : Int) := by omega
      have HA2 := Lib.hid hai2
      clear hw hc1 hc2 hlt hn hai2
      go_enter Try.func5, Try.ntmps5
      go_wp2_with fail
      refine (new_is r b s _).mono ?_
      rintro e w1 ⟨p, rfl, hp, hB1, hO1⟩
      go_wp2_with fail
      refine (take_is p t m _ hB1 hk0 HT.out HC.out HB.out).mono ?_
      rintro e w2 ⟨rfl, hB2, hO2⟩
      go_wp2_with fail
      refine (copy_is p _ hB2).mono ?_
      rintro e w3 ⟨q, rfl, hq, hB3, hP3, hO3⟩
      go_wp2_with fail
      refine (take_is q 0 n _ hB3 hk (by decide) HC0.out rfl).mono ?_
      rintro e w4 ⟨rfl, hB4, hO4⟩
      have hpq : p < q := Nat.lt_of_lt_of_le hB2.lt hq
      have hP4 : IsB w4 p B := hP3.keep hO4 (fun e => by omega)
      have b1 : Below w.heap.size w w1 := hO1.below (Nat.le_refl _) (fun _ _ h => h)
      have b2 := b1.trans (hO2.below b1.size (fun k hk e => by omega))
      have b3 := b2.trans (hO3.below b2.size (fun _ _ h => h))
      have b4 := b3.trans (hO4.below b3.size (fun k hk e => by omega))
      clear hB1 hO1 hB2 hO2 hB3 hP3 hO3 hB4 hO4 b1 b2 b3
      go_wp2_with fail
      refine (when_is p n _ hP4 hk HW.out).mono ?_
      rintro e w5 ⟨rfl, hP5, hO5⟩
      have b5 := b4.trans (hO5.below b4.size (fun _ _ h => h))
      go_wp2_with fail
      refine (tick_is p _ hP5 rfl).mono ?_
      rintro e w6 ⟨rfl, rfl⟩
      go_wp2_with fail
      refine (copy_is p _ hP5).mono ?_
      rintro e w7 ⟨l, rfl, hl, hL7, hP7, hO7⟩
      go_wp2_with fail
      refine (copy_is p _ hP7).mono ?_
      rintro e w8 ⟨l2, rfl, hl2, hM8, hP8, hO8⟩
      have hL8 : IsB w8 l B := hL7.keep hO8 (fun h => h)
      go_wp2_with fail
      rw [HA2.out]
      refine (take_is l (a - 1) n _ hL8 hk (by omega) HN.out rfl).mono ?_
      rintro e w9 ⟨rfl, hL9, hO9⟩
      have hM9 : IsB w9 l2 B := hM8.keep hO9 (fun e => by have := hL7.lt; omega)
      go_wp2_with fail
      refine (take_is l2 a n _ hM9 hk ha2 HM.out rfl).mono ?_
      rintro e w10 ⟨rfl, hM10, hO10⟩
      go_wp2_with fail
      refine (works_any _).mono ?_
      rintro e w11 ⟨rfl, hO11⟩
      go_wp2
      go_ret
      refine ⟨rfl, ?_⟩
      have b7 := b5.trans (hO7.below b5.size (fun _ _ h => h))
      have b8 := b7.trans (hO8.below b7.size (fun _ _ h => h))
      have b9 := b8.trans (hO9.below b8.size (fun k hk e => by have := b5.size; omega))
      have b10 := b9.trans (hO10.below b9.size (fun k hk e => by have := b7.size; omega))
      exact b10.trans (hO11.below b10.size (fun _ _ h => h))

theorem waits_int (a0 a1 a2 a3 a4 a5 : Int) (w0 : (Lit.int .u64 a0).wf = true) (w1 : (Lit.int .u64 a1).wf = true) (w2 : (Lit.int .u64 a2).wf = true) (w3 : (Lit.int .u64 a3).wf = true) (w4 : (Lit.int .u64 a4).wf = true) (w5 : (Lit.int .u64 a5).wf = true) (w : World) :
    Calls Try.prog 5 #[.int .u64 a0, .int .u64 a1, .int .u64 a2, .int .u64 a3, .int .u64 a4, .int .u64 a5] w fun e w' => e = .returned (.bool true) ∧ Below w.heap.size w w' := by
  have b0 := bounds_u64 w0
  have b1 := bounds_u64 w1
  have b2 := bounds_u64 w2
  have b3 := bounds_u64 w3
  have b4 := bounds_u64 w4
  have b5 := bounds_u64 w5
  obtain ⟨a0, rfl⟩ := Int.eq_ofNat_of_zero_le b0.1
  obtain ⟨a1, rfl⟩ := Int.eq_ofNat_of_zero_le b1.1
  obtain ⟨a2, rfl⟩ := Int.eq_ofNat_of_zero_le b2.1
  obtain ⟨a3, rfl⟩ := Int.eq_ofNat_of_zero_le b3.1
  obtain ⟨a4, rfl⟩ := Int.eq_ofNat_of_zero_le b4.1
  obtain ⟨a5, rfl⟩ := Int.eq_ofNat_of_zero_le b5.1
  exact waits_any a0 a1 a2 a3 a4 a5 (by omega) (by omega) (by omega) (by omega) w
end Go.Proofs.Ytkghnapodbodkaa
