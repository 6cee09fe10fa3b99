/- ShaperBounds' walk, over whatever was opened. -/
import Derived.Test.YthipfcmjpgbemaaTe
namespace Go.Proofs.Ythipfcmjpgbemaa
open Go.RowKit
theorem bounds_ex (lv iv : Value) (w : World) (h1 : ∃ l, Cls w lv l) (h2 : ∃ l, IsAcs w iv l) :
    Calls Try.prog 4 #[lv, iv] w fun e w' => e = .returned (.bool true) ∧ Below w.heap.size w w' := by
  obtain ⟨l, hl⟩ := h1
  obtain ⟨i, hi⟩ := h2
  exact bounds_any l i lv iv w hl hi
end Go.Proofs.Ythipfcmjpgbemaa
