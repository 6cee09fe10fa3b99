/- Rules that are handed in: where there is nothing, there is no room. -/
import Derived.Test.YtcbkcalemfminaaRum
namespace Go.Proofs.Ytcbkcalemfminaa
open Go.ChangeShapes Go.WideShapes Go.Deep Go.RowKit
section
variable {H : Type} {enc : TypeId × Value → H} {w : World} {base : Nat} {spare : Nat → Bool} {held : Bool}
theorem open_rulesZ {a : Option Addr} {len cap : Nat} {d : DataW H} {p : List MemPlace} (h : DataW.Trod enc Try.prog w base spare held 22 (.slice a len cap) d p) : ∃ l, Rules w (.slice a len cap) l ∧ RZ (.slice a len cap) := by
  obtain ⟨l, hl⟩ := open_rulesT h
  refine ⟨l, hl, ?_⟩
  obtain ⟨fuel, hf⟩ := h
  have hf' : DataW.trod enc Try.prog w base spare held fuel 22 [.slice a len cap] = some (d, p) := by simpa [Value.cells] using hf
  rcases open_slice Try.underlying22 hf' with ⟨hcs, _⟩ | ⟨a', len', cap', m, n, D, Pl, hcs, _⟩
  · simp only [List.cons.injEq, and_true] at hcs
    intro n c e
    rw [hcs] at e
    injection e with _ e1 e2
    exact ⟨e1.symm, e2.symm⟩
  · simp only [List.cons.injEq, and_true] at hcs
    intro n c e
    rw [hcs] at e
    injection e with e1
    cases e1
end
end Go.Proofs.Ytcbkcalemfminaa
