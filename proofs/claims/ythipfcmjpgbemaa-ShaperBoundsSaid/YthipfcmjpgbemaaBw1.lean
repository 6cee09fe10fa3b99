/- The bucket's small functions, walked. -/
import Derived.Test.YthipfcmjpgbemaaBk
import Derived.Test.YthipfcmjpgbemaaRows
import Derived.Outline
namespace Go.Proofs.Ythipfcmjpgbemaa
open Go.RowKit

theorem new_any (r b t : Nat) (w : World) :
    Calls Try.prog 27 #[.int .u64 r, .int .u64 b, .int .u64 t] w fun e w' =>
      e = .returned (.pointer (some ⟨w.heap.size, 0, none⟩)) ∧ w' = w.alloc (.cells #[.int .u64 r, .int .u64 b, .int .u64 t, .int .u64 b] 122) := by
  go_enter Try.func27, Try.ntmps27
  go_wp2
  go_ret
  exact ⟨rfl, rfl⟩

end Go.Proofs.Ythipfcmjpgbemaa
