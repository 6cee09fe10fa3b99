/- The bucket's small functions, walked. -/
import Derived.Test.YtkghnapodbodkaaBk
import Derived.Test.YtkghnapodbodkaaRows
import Derived.Outline
namespace Go.Proofs.Ytkghnapodbodkaa
open Go.RowKit

theorem new_any (r b t : Nat) (w : World) :
    Calls Try.prog 9 #[.int .u64 r, .int .u64 b, .int .u64 t] w fun e w' =>
      e = .returned (.pointer (some ⟨w.heap.size, 0, none⟩)) ∧ w' = w.alloc (.cells #[.int .u64 r, .int .u64 b, .int .u64 t, .int .u64 b] 47) := by
  go_enter Try.func9, Try.ntmps9
  go_wp2
  go_ret
  exact ⟨rfl, rfl⟩

theorem tick_any (p : Nat) (B : Bk) (w : World) (hB : w.heap[p]? = some (.cells B.cells 47)) :
    Calls Try.prog 15 #[.pointer (some ⟨p, 0, none⟩)] w fun e w' =>
      e = .returned (.int .u64 B.tick) ∧ w' = w := by
  have h2 : w.cell? ⟨p, 2, none⟩ = some (.int .u64 B.tick) := cell_of_block hB 2
  clear hB
  go_enter Try.func15, Try.ntmps15
  go_wp2
  go_ret
  exact ⟨rfl, rfl⟩
end Go.Proofs.Ytkghnapodbodkaa
