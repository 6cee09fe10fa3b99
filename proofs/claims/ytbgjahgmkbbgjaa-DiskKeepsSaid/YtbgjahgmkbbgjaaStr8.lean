/- Bytes as a string; Same of the reference. -/
import Derived.Test.YtbgjahgmkbbgjaaClone
import Derived.Laws.BytesArg
import Derived.Laws.BytesString
namespace Go.Proofs.Ytbgjahgmkbbgjaa
open Go.RowKit

/-- Bytes as a string. -/
def str8 (zs : List Nat) : ByteArray := strOfNums (zs.map fun (z : Nat) => (z : Int))

theorem conv8 {w : World} {v : Value} {zs : List Nat} (h : Holds8 w v zs) : (convert 31 9 v).run Try.prog w = .ok (.string (str8 zs)) w := by
  obtain ⟨ao, cap, rfl, hc, hn, hlt, hx⟩ := h
  by_cases h0 : 0 < zs.length
  · obtain ⟨b, o, rfl, hcell⟩ := hx h0
    refine run_convert_bytes_arg (P := Try.prog) w 31 5 Try.underlying31 Try.underlying5 b o zs.length cap (zs.map fun (z : Nat) => (z : Int)) (by simp) (fun i hi => ?_) 9 Try.underlying9
    rw [hcell i hi]
    simp [List.getD, List.getElem?_eq_getElem hi]
  · have hz : zs = [] := List.eq_nil_of_length_eq_zero (by omega)
    subst hz
    cases ao with
    | none => exact run_convert_bytes_nil (P := Try.prog) w 31 5 Try.underlying31 Try.underlying5 _ cap 9 Try.underlying9
    | some x =>
      rw [run_convert_bytes_string w 31 9 5 _ _ cap Try.underlying31 Try.underlying5 Try.underlying9]
      have h := run_bytesToString (P := Try.prog) w x 0 cap [] (by simpa using run_loadCells_list (P := Try.prog) w x [] (fun j v hj => by simp at hj))
      exact h

theorem same8_any (v u : Value) (zs ys : List Nat) (w : World) (hv : Holds8 w v zs) (hu : Holds8 w u ys) :
    Calls Try.prog 14 #[v, u] w fun e w' => e = .returned (.bool ((str8 zs).toList == (str8 ys).toList)) ∧ w' = w := by
  have h1 := conv8 hv
  have h2 := conv8 hu
  obtain ⟨_, _, rfl, _⟩ := hv
  obtain ⟨_, _, rfl, _⟩ := hu
  generalize str8 zs = s at *
  generalize str8 ys = t at *
  go_enter Try.func14, Try.ntmps14
  go_wp2_with fail
  go_ret
  exact ⟨rfl, rfl⟩

theorem same8_eq (v u : Value) (zs : List Nat) (w : World) (hv : Holds8 w v zs) (hu : Holds8 w u zs) :
    Calls Try.prog 14 #[v, u] w fun e w' => e = .returned (.bool true) ∧ w' = w := by
  have h := same8_any v u zs zs w hv hu
  rw [beq_self_eq_true] at h
  exact h
end Go.Proofs.Ytbgjahgmkbbgjaa
