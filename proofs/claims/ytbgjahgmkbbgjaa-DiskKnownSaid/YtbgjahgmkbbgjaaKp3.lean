/- DiskKeeps's walk, over whatever was opened. -/
import Derived.Test.YtbgjahgmkbbgjaaKp2
namespace Go.Proofs.Ytbgjahgmkbbgjaa
open Go.RowKit
theorem keeps_ex (sz : Int) (lv fv : Value) (w : World) (h1 : ∃ l, IsActs w lv l) (h2 : ∃ fs, Fates w fv fs) :
    Calls Try.prog 3 #[.int .i64 sz, lv, fv] w fun e w' => e = .returned (.bool true) ∧ Below w.heap.size w w' := by
  obtain ⟨l, hl⟩ := h1
  obtain ⟨fs, hf⟩ := h2
  exact keeps_any sz lv l fv fs w hl hf
end Go.Proofs.Ytbgjahgmkbbgjaa
