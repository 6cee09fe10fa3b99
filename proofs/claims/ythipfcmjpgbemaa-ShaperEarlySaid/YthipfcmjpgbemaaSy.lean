/- ShaperEarly's walk, over whatever was opened. -/
import Derived.Test.YthipfcmjpgbemaaSx
namespace Go.Proofs.Ythipfcmjpgbemaa
open Go.RowKit
theorem early_ex (q : Int) (hq : (Lit.int .u8 q).wf = true) (lv iv : Value) (w : World) (h1 : ∃ l, Cls w lv l) (h2 : ∃ l, IsAcs w iv l) :
    Calls Try.prog 3 #[lv, iv, .int .u8 q] w fun e w' => e = .returned (.bool true) ∧ Below w.heap.size w w' := by
  obtain ⟨l, hl⟩ := h1
  obtain ⟨i, hi⟩ := h2
  have hb := bounds_u8 hq
  obtain ⟨n, rfl⟩ := Int.eq_ofNat_of_zero_le hb.1
  exact early_any l i n (by omega) lv iv w hl hi
end Go.Proofs.Ythipfcmjpgbemaa
