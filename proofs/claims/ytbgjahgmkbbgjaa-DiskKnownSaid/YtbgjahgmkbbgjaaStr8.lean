/- Same of the reference, walked. -/
import Derived.Test.YtbgjahgmkbbgjaaConv8
namespace Go.Proofs.Ytbgjahgmkbbgjaa
open Go.RowKit

theorem same8_any (v u : Value) (zs ys : List Nat) (w : World) (hv : Holds8 w v zs) (hu : Holds8 w u ys) :
    Calls Try.prog 14 #[v, u] w fun e w' => e = .returned (.bool ((str8 zs).toList == (str8 ys).toList)) ∧ w' = w := by
  have h1 := conv8 hv
  have h2 := conv8 hu
  obtain ⟨_, _, rfl, _⟩ := hv
  obtain ⟨_, _, rfl, _⟩ := hu
  generalize str8 zs = s at *
  generalize str8 ys = t at *
  go_enter Try.func14, Try.ntmps14
  go_wp2_with fail
  go_ret
  exact ⟨rfl, rfl⟩

theorem same8_eq (v u : Value) (zs : List Nat) (w : World) (hv : Holds8 w v zs) (hu : Holds8 w u zs) :
    Calls Try.prog 14 #[v, u] w fun e w' => e = .returned (.bool true) ∧ w' = w := by
  have h := same8_any v u zs zs w hv hu
  rw [beq_self_eq_true] at h
  exact h
end Go.Proofs.Ytbgjahgmkbbgjaa
