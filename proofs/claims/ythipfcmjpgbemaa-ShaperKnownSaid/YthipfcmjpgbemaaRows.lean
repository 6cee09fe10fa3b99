/-
  No cell of these rows narrows 'for every input' (looked for: loops, veiled, ifaces, maps, wideKeys, modest, calm, conditions, laid).
  DERIVED. THE GIVEN ROWS OF THIS SEAT. 5 by the template 'for every input the law returns true; each argument reads behind the call as it read before'; 0 by the template 'total and deterministic' (their statements: YthipfcmjpgbemaaTotals.lean).
  GIVEN WITH THE SEED: the statements are not yours to turn. If you find one false, say at which input.
  Laid BY PROGRAM, IN A SANDBOX (cutbox-rows.mjs): the forced cells as the released guide's own fill.sh prints them over the translation 35d08e81f13cecef… (all of the seat's roots in one cut). By AI agents, Wed Nov 11 2026. No macro, syntax, notation, axiom, sorry.
-/
import Derived.Test.YthipfcmjpgbemaaChecked
import GoSem.Claim
import GoSem.ClaimJoined
import GoSem.ClaimMapViews
import Derived.JoinedTies
import Derived.KernelRfl
namespace Go.Proofs.Ythipfcmjpgbemaa
/- THE CELL 'sum', in the pinned program and in every row, IS THE sha256 OF THE DUMP (.gsa) THAT YthipfcmjpgbemaaProg.lean LOADS. Nothing in Lean hashes anything: it is a label: what it is worth is what the hold of that sum in a sandbox is worth. -/
noncomputable def Try.pinned : Pinned := { name := "ythipfcmjpgbemaa", sum := "35d08e81f13cecef2ace69dd82bdf0762063cf35c3d2319301a503c1e4399d9b", checked := Try.checked }
namespace Rows
def none {H : Type} : Left H := { results := [], args := [] }

/-- 'octroilaw12.ShaperEarly': WHATEVER THE INPUT: true; the input reads as it did. -/
def shaperEarlySpec : ChangeSpec := { name := "shaperEarly", fn := fun _ => fun
  | [d1, d2, d3] => { results := [.lit (.bool true)], args := [d1, d2, d3] }
  | _ => none }
def shaperEarlyRow : OpenClaim := { program := "ythipfcmjpgbemaa", sum := "35d08e81f13cecef2ace69dd82bdf0762063cf35c3d2319301a503c1e4399d9b", func := "octroi/octroilaw12.ShaperEarly", spec := "shaperEarly", inPlace := ["sync/atomic.AddUint64", "math/bits.Add64"], unfollowed := true, recurses := true, apart := false }
def ShaperEarlySaid : Prop := shaperEarlyRow.holds Try.pinned (OpenSpec.ofChange shaperEarlySpec)

/-- ITS FALSE NEIGHBOUR: 'it returns false'. Refute it at one input. -/
def shaperEarlyWrong : ChangeSpec := { name := "shaperEarly", fn := fun _ => fun
  | [d1, d2, d3] => { results := [.lit (.bool false)], args := [d1, d2, d3] }
  | _ => none }
def ShaperEarlyWrongFalsely : Prop := shaperEarlyRow.holds Try.pinned (OpenSpec.ofChange shaperEarlyWrong)

/-- 'octroilaw12.ShaperBounds': WHATEVER THE INPUT: true; the input reads as it did. -/
def shaperBoundsSpec : ChangeSpec := { name := "shaperBounds", fn := fun _ => fun
  | [d1, d2] => { results := [.lit (.bool true)], args := [d1, d2] }
  | _ => none }
def shaperBoundsRow : OpenClaim := { program := "ythipfcmjpgbemaa", sum := "35d08e81f13cecef2ace69dd82bdf0762063cf35c3d2319301a503c1e4399d9b", func := "octroi/octroilaw12.ShaperBounds", spec := "shaperBounds", inPlace := ["sync/atomic.AddUint64", "math/bits.Add64"], unfollowed := true, recurses := true, apart := false }
def ShaperBoundsSaid : Prop := shaperBoundsRow.holds Try.pinned (OpenSpec.ofChange shaperBoundsSpec)

/-- ITS FALSE NEIGHBOUR: 'it returns false'. Refute it at one input. -/
def shaperBoundsWrong : ChangeSpec := { name := "shaperBounds", fn := fun _ => fun
  | [d1, d2] => { results := [.lit (.bool false)], args := [d1, d2] }
  | _ => none }
def ShaperBoundsWrongFalsely : Prop := shaperBoundsRow.holds Try.pinned (OpenSpec.ofChange shaperBoundsWrong)

/-- 'octroilaw12.ShaperPlays': WHATEVER THE INPUT: true; the input reads as it did. -/
def shaperPlaysSpec : ChangeSpec := { name := "shaperPlays", fn := fun _ => fun
  | [d1, d2, d3] => { results := [.lit (.bool true)], args := [d1, d2, d3] }
  | _ => none }
def shaperPlaysRow : OpenClaim := { program := "ythipfcmjpgbemaa", sum := "35d08e81f13cecef2ace69dd82bdf0762063cf35c3d2319301a503c1e4399d9b", func := "octroi/octroilaw12.ShaperPlays", spec := "shaperPlays", inPlace := ["sync/atomic.AddUint64", "math/bits.Add64", "sync/atomic.LoadUint64"], unfollowed := true, recurses := true, apart := false }
def ShaperPlaysSaid : Prop := shaperPlaysRow.holds Try.pinned (OpenSpec.ofChange shaperPlaysSpec)

/-- ITS FALSE NEIGHBOUR: 'it returns false'. Refute it at one input. -/
def shaperPlaysWrong : ChangeSpec := { name := "shaperPlays", fn := fun _ => fun
  | [d1, d2, d3] => { results := [.lit (.bool false)], args := [d1, d2, d3] }
  | _ => none }
def ShaperPlaysWrongFalsely : Prop := shaperPlaysRow.holds Try.pinned (OpenSpec.ofChange shaperPlaysWrong)

/-- 'octroilaw12.ShaperNone': WHATEVER THE INPUT: true; the input reads as it did. -/
def shaperNoneSpec : ChangeSpec := { name := "shaperNone", fn := fun _ => fun
  | [d] => { results := [.lit (.bool true)], args := [d] }
  | _ => none }
def shaperNoneRow : OpenClaim := { program := "ythipfcmjpgbemaa", sum := "35d08e81f13cecef2ace69dd82bdf0762063cf35c3d2319301a503c1e4399d9b", func := "octroi/octroilaw12.ShaperNone", spec := "shaperNone", inPlace := ["sync/atomic.AddUint64", "math/bits.Add64", "sync/atomic.LoadUint64"], unfollowed := true, recurses := true, apart := false }
def ShaperNoneSaid : Prop := shaperNoneRow.holds Try.pinned (OpenSpec.ofChange shaperNoneSpec)

/-- ITS FALSE NEIGHBOUR: 'it returns false'. Refute it at one input. -/
def shaperNoneWrong : ChangeSpec := { name := "shaperNone", fn := fun _ => fun
  | [d] => { results := [.lit (.bool false)], args := [d] }
  | _ => none }
def ShaperNoneWrongFalsely : Prop := shaperNoneRow.holds Try.pinned (OpenSpec.ofChange shaperNoneWrong)

/-- 'octroilaw12.ShaperKnown': WHATEVER THE INPUT: true; the input reads as it did. -/
def shaperKnownSpec : ChangeSpec := { name := "shaperKnown", fn := fun _ => fun
  | [] => { results := [.lit (.bool true)], args := [] }
  | _ => none }
def shaperKnownRow : OpenClaim := { program := "ythipfcmjpgbemaa", sum := "35d08e81f13cecef2ace69dd82bdf0762063cf35c3d2319301a503c1e4399d9b", func := "octroi/octroilaw12.ShaperKnown", spec := "shaperKnown", inPlace := ["sync/atomic.AddUint64", "math/bits.Add64", "sync/atomic.LoadUint64"], unfollowed := true, recurses := true, apart := false }
def ShaperKnownSaid : Prop := shaperKnownRow.holds Try.pinned (OpenSpec.ofChange shaperKnownSpec)

/-- ITS FALSE NEIGHBOUR: 'it returns false'. Refute it at one input. -/
def shaperKnownWrong : ChangeSpec := { name := "shaperKnown", fn := fun _ => fun
  | [] => { results := [.lit (.bool false)], args := [] }
  | _ => none }
def ShaperKnownWrongFalsely : Prop := shaperKnownRow.holds Try.pinned (OpenSpec.ofChange shaperKnownWrong)

/- THE SECOND FORM. 'bulk': how many values and letters a reading holds, each counted each time it is reached (what is shared counts as often as it is met; a slice's spare places count too). A statement '..UptoSaid' is the law's where the arguments, and the package variables that the reading takes, are together of bulk at most 1048576: NARROWER than '..Said'. Prove '..Said' where nothing that the law and all that it calls make is longer than what came in: it says more and counts as full. Else prove '..UptoSaid'. A law counts once. -/
mutual
def uptoBulk {H : Type} : DataW H → Nat
  | .lit (.string bytes) => bytes.length + 1
  | .lit _ => 1
  | .nil => 1
  | .ptr d => uptoBulk d + 1
  | .slice elems spare => uptoBulkAll elems + uptoBulkAll spare + 1
  | .agg parts => uptoBulkAll parts + 1
  | .iface _ d => uptoBulk d + 1
  | .map entries => uptoBulkEntries entries + 1
  | .held _ => 1
def uptoBulkAll {H : Type} : List (DataW H) → Nat
  | [] => 0
  | d :: r => uptoBulk d + uptoBulkAll r
def uptoBulkEntries {H : Type} : List (Lit × DataW H) → Nat
  | [] => 0
  | x :: r => uptoBulkEntry x + uptoBulkEntries r
def uptoBulkEntry {H : Type} : Lit × DataW H → Nat
  | (.string bytes, d) => bytes.length + uptoBulk d + 1
  | (_, d) => uptoBulk d + 1
 end
def uptoSmall : (H : Type) → List (DataW H) → Bool := fun _ ds => decide (uptoBulkAll ds ≤ 1048576)
def OpenSpec.upto (s : _root_.Go.ChangeSpec) : _root_.Go.OpenSpec := { _root_.Go.OpenSpec.ofChange s with cond := some uptoSmall }

/-- 'octroilaw12.ShaperEarly', WHERE WHAT IT READS IS OF BULK AT MOST 1048576: true; the input reads as it did. -/
def shaperEarlyUptoRow : OpenClaim := { program := "ythipfcmjpgbemaa", sum := "35d08e81f13cecef2ace69dd82bdf0762063cf35c3d2319301a503c1e4399d9b", func := "octroi/octroilaw12.ShaperEarly", spec := "shaperEarly", inPlace := ["sync/atomic.AddUint64", "math/bits.Add64"], unfollowed := true, recurses := true, apart := false, narrowed := true }
def ShaperEarlyUptoSaid : Prop := shaperEarlyUptoRow.holds Try.pinned (OpenSpec.upto shaperEarlySpec)

/-- 'octroilaw12.ShaperBounds', WHERE WHAT IT READS IS OF BULK AT MOST 1048576: true; the input reads as it did. -/
def shaperBoundsUptoRow : OpenClaim := { program := "ythipfcmjpgbemaa", sum := "35d08e81f13cecef2ace69dd82bdf0762063cf35c3d2319301a503c1e4399d9b", func := "octroi/octroilaw12.ShaperBounds", spec := "shaperBounds", inPlace := ["sync/atomic.AddUint64", "math/bits.Add64"], unfollowed := true, recurses := true, apart := false, narrowed := true }
def ShaperBoundsUptoSaid : Prop := shaperBoundsUptoRow.holds Try.pinned (OpenSpec.upto shaperBoundsSpec)

/-- 'octroilaw12.ShaperPlays', WHERE WHAT IT READS IS OF BULK AT MOST 1048576: true; the input reads as it did. -/
def shaperPlaysUptoRow : OpenClaim := { program := "ythipfcmjpgbemaa", sum := "35d08e81f13cecef2ace69dd82bdf0762063cf35c3d2319301a503c1e4399d9b", func := "octroi/octroilaw12.ShaperPlays", spec := "shaperPlays", inPlace := ["sync/atomic.AddUint64", "math/bits.Add64", "sync/atomic.LoadUint64"], unfollowed := true, recurses := true, apart := false, narrowed := true }
def ShaperPlaysUptoSaid : Prop := shaperPlaysUptoRow.holds Try.pinned (OpenSpec.upto shaperPlaysSpec)

/-- 'octroilaw12.ShaperNone', WHERE WHAT IT READS IS OF BULK AT MOST 1048576: true; the input reads as it did. -/
def shaperNoneUptoRow : OpenClaim := { program := "ythipfcmjpgbemaa", sum := "35d08e81f13cecef2ace69dd82bdf0762063cf35c3d2319301a503c1e4399d9b", func := "octroi/octroilaw12.ShaperNone", spec := "shaperNone", inPlace := ["sync/atomic.AddUint64", "math/bits.Add64", "sync/atomic.LoadUint64"], unfollowed := true, recurses := true, apart := false, narrowed := true }
def ShaperNoneUptoSaid : Prop := shaperNoneUptoRow.holds Try.pinned (OpenSpec.upto shaperNoneSpec)

/-- 'octroilaw12.ShaperKnown', WHERE WHAT IT READS IS OF BULK AT MOST 1048576: true; the input reads as it did. -/
def shaperKnownUptoRow : OpenClaim := { program := "ythipfcmjpgbemaa", sum := "35d08e81f13cecef2ace69dd82bdf0762063cf35c3d2319301a503c1e4399d9b", func := "octroi/octroilaw12.ShaperKnown", spec := "shaperKnown", inPlace := ["sync/atomic.AddUint64", "math/bits.Add64", "sync/atomic.LoadUint64"], unfollowed := true, recurses := true, apart := false, narrowed := true }
def ShaperKnownUptoSaid : Prop := shaperKnownUptoRow.holds Try.pinned (OpenSpec.upto shaperKnownSpec)

end Rows
end Go.Proofs.Ythipfcmjpgbemaa
