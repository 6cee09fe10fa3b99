/- FifoOrder's walk, over whatever was opened. -/
import Derived.Test.YtpnhdfingcfbnaaFo3
namespace Go.Proofs.Ytpnhdfingcfbnaa
open Go.RowKit
theorem order_ex (it sz : Int) (lv : Value) (w : World) (h1 : ∃ l, IsActs w lv l) :
    Calls Try.prog 4 #[.int .i64 it, .int .i64 sz, lv] w fun e w' => e = .returned (.bool true) ∧ Below w.heap.size w w' := by
  obtain ⟨l, hl⟩ := h1
  exact order_any it sz lv l w hl
end Go.Proofs.Ytpnhdfingcfbnaa
