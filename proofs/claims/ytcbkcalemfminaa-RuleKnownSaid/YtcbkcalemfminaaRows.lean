/-
  No cell of these rows narrows 'for every input' (looked for: loops, veiled, ifaces, maps, wideKeys, modest, calm, conditions, laid).
  DERIVED. THE GIVEN ROWS OF THIS SEAT. 3 by the template 'for every input the law returns true; each argument reads behind the call as it read before'; 0 by the template 'total and deterministic' (their statements: YtcbkcalemfminaaTotals.lean).
  GIVEN WITH THE SEED: the statements are not yours to turn. If you find one false, say at which input.
  Laid BY PROGRAM, IN A SANDBOX (cutbox-rows.mjs): the forced cells as the released guide's own fill.sh prints them over the translation da4ea7a708386ccc… (all of the seat's roots in one cut). By AI agents, Wed Nov 11 2026. No macro, syntax, notation, axiom, sorry.
-/
import Derived.Test.YtcbkcalemfminaaChecked
import GoSem.Claim
import GoSem.ClaimJoined
import GoSem.ClaimMapViews
import Derived.JoinedTies
import Derived.KernelRfl
namespace Go.Proofs.Ytcbkcalemfminaa
/- THE CELL 'sum', in the pinned program and in every row, IS THE sha256 OF THE DUMP (.gsa) THAT YtcbkcalemfminaaProg.lean LOADS. Nothing in Lean hashes anything: it is a label: what it is worth is what the hold of that sum in a sandbox is worth. -/
noncomputable def Try.pinned : Pinned := { name := "ytcbkcalemfminaa", sum := "da4ea7a708386ccc5947d3d5a76664977cd5411e2527ed099fbdbe94be84a7f1", checked := Try.checked }
namespace Rows
def none {H : Type} : Left H := { results := [], args := [] }

/-- 'octroilaw09.RuleLeaves': WHATEVER THE INPUT: true; the input reads as it did. -/
def ruleLeavesSpec : ChangeSpec := { name := "ruleLeaves", fn := fun _ => fun
  | [d1, d2, d3, d4, d5] => { results := [.lit (.bool true)], args := [d1, d2, d3, d4, d5] }
  | _ => none }
def ruleLeavesRow : OpenClaim := { program := "ytcbkcalemfminaa", sum := "da4ea7a708386ccc5947d3d5a76664977cd5411e2527ed099fbdbe94be84a7f1", func := "octroi/octroilaw09.RuleLeaves", spec := "ruleLeaves", unfollowed := true, recurses := true, apart := false }
def RuleLeavesSaid : Prop := ruleLeavesRow.holds Try.pinned (OpenSpec.ofChange ruleLeavesSpec)

/-- ITS FALSE NEIGHBOUR: 'it returns false'. Refute it at one input. -/
def ruleLeavesWrong : ChangeSpec := { name := "ruleLeaves", fn := fun _ => fun
  | [d1, d2, d3, d4, d5] => { results := [.lit (.bool false)], args := [d1, d2, d3, d4, d5] }
  | _ => none }
def RuleLeavesWrongFalsely : Prop := ruleLeavesRow.holds Try.pinned (OpenSpec.ofChange ruleLeavesWrong)

/-- 'octroilaw09.RuleNone': WHATEVER THE INPUT: true; the input reads as it did. -/
def ruleNoneSpec : ChangeSpec := { name := "ruleNone", fn := fun _ => fun
  | [d] => { results := [.lit (.bool true)], args := [d] }
  | _ => none }
def ruleNoneRow : OpenClaim := { program := "ytcbkcalemfminaa", sum := "da4ea7a708386ccc5947d3d5a76664977cd5411e2527ed099fbdbe94be84a7f1", func := "octroi/octroilaw09.RuleNone", spec := "ruleNone", unfollowed := true, recurses := true, apart := false }
def RuleNoneSaid : Prop := ruleNoneRow.holds Try.pinned (OpenSpec.ofChange ruleNoneSpec)

/-- ITS FALSE NEIGHBOUR: 'it returns false'. Refute it at one input. -/
def ruleNoneWrong : ChangeSpec := { name := "ruleNone", fn := fun _ => fun
  | [d] => { results := [.lit (.bool false)], args := [d] }
  | _ => none }
def RuleNoneWrongFalsely : Prop := ruleNoneRow.holds Try.pinned (OpenSpec.ofChange ruleNoneWrong)

/-- 'octroilaw09.RuleKnown': WHATEVER THE INPUT: true; the input reads as it did. -/
def ruleKnownSpec : ChangeSpec := { name := "ruleKnown", fn := fun _ => fun
  | [] => { results := [.lit (.bool true)], args := [] }
  | _ => none }
def ruleKnownRow : OpenClaim := { program := "ytcbkcalemfminaa", sum := "da4ea7a708386ccc5947d3d5a76664977cd5411e2527ed099fbdbe94be84a7f1", func := "octroi/octroilaw09.RuleKnown", spec := "ruleKnown", unfollowed := true, recurses := true, apart := false }
def RuleKnownSaid : Prop := ruleKnownRow.holds Try.pinned (OpenSpec.ofChange ruleKnownSpec)

/-- ITS FALSE NEIGHBOUR: 'it returns false'. Refute it at one input. -/
def ruleKnownWrong : ChangeSpec := { name := "ruleKnown", fn := fun _ => fun
  | [] => { results := [.lit (.bool false)], args := [] }
  | _ => none }
def RuleKnownWrongFalsely : Prop := ruleKnownRow.holds Try.pinned (OpenSpec.ofChange ruleKnownWrong)

/- THE SECOND FORM. 'bulk': how many values and letters a reading holds, each counted each time it is reached (what is shared counts as often as it is met; a slice's spare places count too). A statement '..UptoSaid' is the law's where the arguments, and the package variables that the reading takes, are together of bulk at most 1048576: NARROWER than '..Said'. Prove '..Said' where nothing that the law and all that it calls make is longer than what came in: it says more and counts as full. Else prove '..UptoSaid'. A law counts once. -/
mutual
def uptoBulk {H : Type} : DataW H → Nat
  | .lit (.string bytes) => bytes.length + 1
  | .lit _ => 1
  | .nil => 1
  | .ptr d => uptoBulk d + 1
  | .slice elems spare => uptoBulkAll elems + uptoBulkAll spare + 1
  | .agg parts => uptoBulkAll parts + 1
  | .iface _ d => uptoBulk d + 1
  | .map entries => uptoBulkEntries entries + 1
  | .held _ => 1
def uptoBulkAll {H : Type} : List (DataW H) → Nat
  | [] => 0
  | d :: r => uptoBulk d + uptoBulkAll r
def uptoBulkEntries {H : Type} : List (Lit × DataW H) → Nat
  | [] => 0
  | x :: r => uptoBulkEntry x + uptoBulkEntries r
def uptoBulkEntry {H : Type} : Lit × DataW H → Nat
  | (.string bytes, d) => bytes.length + uptoBulk d + 1
  | (_, d) => uptoBulk d + 1
 end
def uptoSmall : (H : Type) → List (DataW H) → Bool := fun _ ds => decide (uptoBulkAll ds ≤ 1048576)
def OpenSpec.upto (s : _root_.Go.ChangeSpec) : _root_.Go.OpenSpec := { _root_.Go.OpenSpec.ofChange s with cond := some uptoSmall }

/-- 'octroilaw09.RuleLeaves', WHERE WHAT IT READS IS OF BULK AT MOST 1048576: true; the input reads as it did. -/
def ruleLeavesUptoRow : OpenClaim := { program := "ytcbkcalemfminaa", sum := "da4ea7a708386ccc5947d3d5a76664977cd5411e2527ed099fbdbe94be84a7f1", func := "octroi/octroilaw09.RuleLeaves", spec := "ruleLeaves", unfollowed := true, recurses := true, apart := false, narrowed := true }
def RuleLeavesUptoSaid : Prop := ruleLeavesUptoRow.holds Try.pinned (OpenSpec.upto ruleLeavesSpec)

/-- 'octroilaw09.RuleNone', WHERE WHAT IT READS IS OF BULK AT MOST 1048576: true; the input reads as it did. -/
def ruleNoneUptoRow : OpenClaim := { program := "ytcbkcalemfminaa", sum := "da4ea7a708386ccc5947d3d5a76664977cd5411e2527ed099fbdbe94be84a7f1", func := "octroi/octroilaw09.RuleNone", spec := "ruleNone", unfollowed := true, recurses := true, apart := false, narrowed := true }
def RuleNoneUptoSaid : Prop := ruleNoneUptoRow.holds Try.pinned (OpenSpec.upto ruleNoneSpec)

/-- 'octroilaw09.RuleKnown', WHERE WHAT IT READS IS OF BULK AT MOST 1048576: true; the input reads as it did. -/
def ruleKnownUptoRow : OpenClaim := { program := "ytcbkcalemfminaa", sum := "da4ea7a708386ccc5947d3d5a76664977cd5411e2527ed099fbdbe94be84a7f1", func := "octroi/octroilaw09.RuleKnown", spec := "ruleKnown", unfollowed := true, recurses := true, apart := false, narrowed := true }
def RuleKnownUptoSaid : Prop := ruleKnownUptoRow.holds Try.pinned (OpenSpec.upto ruleKnownSpec)

end Rows
end Go.Proofs.Ytcbkcalemfminaa
