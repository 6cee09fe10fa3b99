/- The document's bucket, walked: Plus, Times, Fill. -/
import Derived.Test.YtkghnapodbodkaaBw4
import Derived.Laws.ResultCell
namespace Go.Proofs.Ytkghnapodbodkaa
open Go.RowKit

theorem most_any (w : World) : Calls Try.prog 27 #[] w fun e w' => e = .returned (.int .u64 18446744073709551615) ∧ w' = w := by
  go_enter Try.func27, Try.ntmps27
  go_wp2
  go_ret
  exact ⟨rfl, rfl⟩

theorem plus_any (a b : Nat) (ha : a < 18446744073709551616) (hb : b < 18446744073709551616) (w : World) :
    Calls Try.prog 25 #[.int .u64 a, .int .u64 b] w fun e w' => e = .returned (.int .u64 ((min (a + b) 18446744073709551615 : Nat) : Int)) ∧ w' = w := by
  have ha' : a ≤ 18446744073709551615 := by omega
  have hb' : b ≤ 18446744073709551615 := by omega
  clear ha hb
  by_cases h : a + b ≤ 18446744073709551615
  · rw [Nat.min_eq_left h]
    go_enter Try.func25, Try.ntmps25
    go_wp2_with (go_at_call 27; refine (most_any _).mono ?_; rintro e w' ⟨rfl, rfl⟩)
    go_ret
    exact ⟨rfl, rfl⟩
  · rw [Nat.min_eq_right (by omega)]
    go_enter Try.func25, Try.ntmps25
    go_wp2_with (go_at_call 27; refine (most_any _).mono ?_; rintro e w' ⟨rfl, rfl⟩)
    go_ret
    exact ⟨rfl, rfl⟩

theorem times_any (a b : Nat) (ha : a < 18446744073709551616) (hb : b < 18446744073709551616) (w : World) :
    Calls Try.prog 26 #[.int .u64 a, .int .u64 b] w fun e w' => e = .returned (.int .u64 ((min (a * b) 18446744073709551615 : Nat) : Int)) ∧ w' = w := by
  have ha' : a ≤ 18446744073709551615 := by omega
  have hb' : b ≤ 18446744073709551615 := by omega
  clear ha hb
  by_cases h0 : a = 0
  · subst h0
    rw [Nat.zero_mul]
    go_enter Try.func26, Try.ntmps26
    go_wp2_with (go_at_call 27; refine (most_any _).mono ?_; rintro e w' ⟨rfl, rfl⟩)
    go_ret
    exact ⟨rfl, rfl⟩
  · have hpos : 1 ≤ a := by omega
    have hd : ((0 : Int) < (a : Int)) := by omega
    clear h0
    by_cases h : a * b ≤ 18446744073709551615
    · rw [Nat.min_eq_left h]
      have hq : b ≤ 18446744073709551615 / a := (Nat.le_div_iff_mul_le hpos).2 (by rw [Nat.mul_comm]; exact h)
      have hm : (a : Int) * (b : Int) ≤ 18446744073709551615 := by rw [← Int.natCast_mul]; omega
      have hm0 : 0 ≤ (a : Int) * (b : Int) := Int.mul_nonneg (by omega) (by omega)
      have he : ((18446744073709551615 / a : Nat) : Int) = 18446744073709551615 / (a : Int) := Int.natCast_ediv _ _
      have hq' : (b : Int) ≤ 18446744073709551615 / (a : Int) := by rw [← he]; omega
      clear h hq he
      go_enter Try.func26, Try.ntmps26
      go_wp2_with (go_at_call 27; refine (most_any _).mono ?_; rintro e w' ⟨rfl, rfl⟩)
      go_ret
      exact ⟨ret_int (Int.natCast_mul a b).symm, rfl⟩
    · rw [Nat.min_eq_right (by omega)]
      have hq : ¬ b ≤ 18446744073709551615 / a := fun hle => h (by have := (Nat.le_div_iff_mul_le hpos).1 hle; rw [Nat.mul_comm]; exact this)
      have he : ((18446744073709551615 / a : Nat) : Int) = 18446744073709551615 / (a : Int) := Int.natCast_ediv _ _
      have hq' : 18446744073709551615 / (a : Int) < (b : Int) := by rw [← he]; omega
      clear h hq he
      go_enter Try.func26, Try.ntmps26
      go_wp2_with (go_at_call 27; refine (most_any _).mono ?_; rintro e w' ⟨rfl, rfl⟩)
      go_ret
      exact ⟨rfl, rfl⟩

theorem agg4_eq {a b c : Value} {k : IntKind} {x y : Int} (h : x = y) : Ending.returned (.agg #[a, b, c, .int k x]) = Ending.returned (.agg #[a, b, c, .int k y]) := by rw [h]

/-- At most the greatest number. -/
def sat (n : Nat) : Nat := min n 18446744073709551615
theorem sat_lt (n : Nat) : sat n < 18446744073709551616 := by unfold sat; omega
theorem times_sat (a b : Nat) (ha : a < 18446744073709551616) (hb : b < 18446744073709551616) (w : World) :
    Calls Try.prog 26 #[.int .u64 a, .int .u64 b] w fun e w' => e = .returned (.int .u64 (sat (a * b) : Nat)) ∧ w' = w := times_any a b ha hb w
theorem plus_sat (a b : Nat) (ha : a < 18446744073709551616) (hb : b < 18446744073709551616) (w : World) :
    Calls Try.prog 25 #[.int .u64 a, .int .u64 b] w fun e w' => e = .returned (.int .u64 (sat (a + b) : Nat)) ∧ w' = w := plus_any a b ha hb w

theorem rfill_le (r b s k t : Nat) (h : t ≤ s) (w : World) :
    Calls Try.prog 18 #[.agg #[.int .u64 r, .int .u64 b, .int .u64 s, .int .u64 k], .int .u64 t] w fun e w' =>
      e = .returned (.agg #[.int .u64 r, .int .u64 b, .int .u64 s, .int .u64 k]) ∧ Only (fun _ => False) w w' := by
  go_enter Try.func18, Try.ntmps18
  go_wp2
  exact bodyPost_ret (v := .agg #[.int .u64 r, .int .u64 b, .int .u64 s, .int .u64 k]) (by simp [results, Try.results18, go_sem]) rfl ⟨rfl, ((Only.refl _ _).alloc _).alloc _⟩

theorem rfill_gt (r b s k t : Nat) (hr : r < 18446744073709551616) (hb : b < 18446744073709551616) (hk : k ≤ b) (ht : t < 18446744073709551616) (h : s < t) (w : World) :
    Calls Try.prog 18 #[.agg #[.int .u64 r, .int .u64 b, .int .u64 s, .int .u64 k], .int .u64 t] w fun e w' =>
      e = .returned (.agg #[.int .u64 r, .int .u64 b, .int .u64 t, .int .u64 ((min b (k + r * (t - s)) : Nat) : Int)]) ∧ Only (fun _ => False) w w' := by
  go_enter Try.func18, Try.ntmps18
  go_wp2_with fail
  have hw : IntKind.u64.wrap ((t : Int) - (s : Int)) = ((t - s : Nat) : Int) := by rw [IntWalk.u64_in _ (by omega)]; omega
  refine region_tail 13 (by kernel_rfl) (by kernel_rfl) ?_
  simp only [List.take_succ_cons, List.take_zero, List.drop_succ_cons, List.drop_zero]
  repeat still_step
  still_call (times_sat r (t - s) hr (by omega) _)
  clear hw
  repeat still_step
  still_call (plus_sat k (sat (r * (t - s))) (by omega) (sat_lt _) _)
  repeat still_step
  refine wpStill_nil ?_
  go_wp2_with fail
  · exact bodyPost_ret (v := .agg #[.int .u64 r, .int .u64 b, .int .u64 t, .int .u64 (sat (k + sat (r * (t - s))) : Nat)]) (by simp [results, Try.results18, go_sem]) rfl
      ⟨agg4_eq (by unfold sat at *; omega), (((Only.refl _ _).alloc _).alloc _).drew⟩
  · exact bodyPost_ret (v := .agg #[.int .u64 r, .int .u64 b, .int .u64 t, .int .u64 b]) (by simp [results, Try.results18, go_sem]) rfl
      ⟨agg4_eq (by unfold sat at *; omega), (((Only.refl _ _).alloc _).alloc _).drew⟩

theorem rfill_any (B : Bk) (t : Nat) (hk : B.Ok) (ht : t < 18446744073709551616) (w : World) :
    Calls Try.prog 18 #[.agg B.cells, .int .u64 t] w fun e w' => e = .returned (.agg (B.fill t).cells) ∧ Only (fun _ => False) w w' := by
  by_cases h : t ≤ B.tick
  · rw [Bk.fill_le h]
    exact rfill_le _ _ _ _ t h w
  · rw [Bk.fill_gt h]
    exact rfill_gt _ _ _ _ t hk.rate hk.burst hk.tok ht (by omega) w
end Go.Proofs.Ytkghnapodbodkaa
