/- FifoPlays' walk, over whatever was opened. -/
import Derived.Test.YtpnhdfingcfbnaaFr7
namespace Go.Proofs.Ytpnhdfingcfbnaa
open Go.RowKit
theorem plays_ex (it sz : Int) (hw : (Lit.int .i64 sz).wf = true) (lv : Value) (w : World) (h1 : ∃ l, IsActs w lv l) :
    Calls Try.prog 3 #[.int .i64 it, .int .i64 sz, lv] w fun e w' => e = .returned (.bool true) ∧ Below w.heap.size w w' := by
  obtain ⟨l, hl⟩ := h1
  have hs : -9223372036854775808 ≤ sz ∧ sz ≤ 9223372036854775807 := by simpa [Lit.wf, IntKind.min, IntKind.max, IntKind.signed, IntKind.bits] using hw
  exact plays_any it sz hs.2 lv l w hl
end Go.Proofs.Ytpnhdfingcfbnaa
