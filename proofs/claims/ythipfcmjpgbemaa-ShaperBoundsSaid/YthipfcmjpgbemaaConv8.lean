/- Bytes as a string. -/
import Derived.Test.YthipfcmjpgbemaaClone
import Derived.Laws.BytesArg
import Derived.Laws.BytesString
namespace Go.Proofs.Ythipfcmjpgbemaa
open Go.RowKit

/-- Bytes as a string. -/
def str8 (zs : List Nat) : ByteArray := strOfNums (zs.map fun (z : Nat) => (z : Int))

theorem conv8 {w : World} {v : Value} {zs : List Nat} (h : Holds8 w v zs) : (convert 32 9 v).run Try.prog w = .ok (.string (str8 zs)) w := by
  obtain ⟨ao, cap, rfl, hc, hn, hlt, hx⟩ := h
  by_cases h0 : 0 < zs.length
  · obtain ⟨b, o, rfl, hcell⟩ := hx h0
    refine run_convert_bytes_arg (P := Try.prog) w 32 5 Try.underlying32 Try.underlying5 b o zs.length cap (zs.map fun (z : Nat) => (z : Int)) (by simp) (fun i hi => ?_) 9 Try.underlying9
    rw [hcell i hi]
    simp [List.getD, List.getElem?_eq_getElem hi]
  · have hz : zs = [] := List.eq_nil_of_length_eq_zero (by omega)
    subst hz
    cases ao with
    | none => exact run_convert_bytes_nil (P := Try.prog) w 32 5 Try.underlying32 Try.underlying5 _ cap 9 Try.underlying9
    | some x =>
      rw [run_convert_bytes_string w 32 9 5 _ _ cap Try.underlying32 Try.underlying5 Try.underlying9]
      have h := run_bytesToString (P := Try.prog) w x 0 cap [] (by simpa using run_loadCells_list (P := Try.prog) w x [] (fun j v hj => by simp at hj))
      exact h

end Go.Proofs.Ythipfcmjpgbemaa
