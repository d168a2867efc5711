/-
  No cell of these rows narrows 'for every input' (looked for: loops, veiled, ifaces, maps, wideKeys, modest, calm, conditions, laid).
  DERIVED. THE GIVEN ROWS OF THIS SEAT. 8 by the template 'for every input the law returns true; each argument reads behind the call as it read before'; 0 by the template 'total and deterministic' (their statements: YtajlabmnpimeeaaTotals.lean).
  GIVEN WITH THE SEED: the statements are not yours to turn. If you find one false, say at which input.
  Laid BY PROGRAM, IN A SANDBOX (cutbox-rows.mjs): the forced cells as the released guide's own fill.sh prints them over the translation 5b5591068024733d… (all of the seat's roots in one cut). By AI agents, Wed Nov 11 2026. No macro, syntax, notation, axiom, sorry.
-/
import Derived.Test.YtajlabmnpimeeaaChecked
import GoSem.Claim
import GoSem.ClaimJoined
import GoSem.ClaimMapViews
import Derived.JoinedTies
import Derived.KernelRfl
namespace Go.Proofs.Ytajlabmnpimeeaa
/- THE CELL 'sum', in the pinned program and in every row, IS THE sha256 OF THE DUMP (.gsa) THAT YtajlabmnpimeeaaProg.lean LOADS. Nothing in Lean hashes anything: it is a label: what it is worth is what the hold of that sum in a sandbox is worth. -/
noncomputable def Try.pinned : Pinned := { name := "ytajlabmnpimeeaa", sum := "5b5591068024733d2ba235ca6bece7c3a846710db1e45f71757119dcf88f93af", checked := Try.checked }
namespace Rows
def none {H : Type} : Left H := { results := [], args := [] }

/-- 'laws.FnExactSupportAt': WHATEVER THE INPUT: true; the input reads as it did. -/
def fnExactSupportAtSpec : ChangeSpec := { name := "fnExactSupportAt", fn := fun _ => fun
  | [d1, d2] => { results := [.lit (.bool true)], args := [d1, d2] }
  | _ => none }
def fnExactSupportAtRow : OpenClaim := { program := "ytajlabmnpimeeaa", sum := "5b5591068024733d2ba235ca6bece7c3a846710db1e45f71757119dcf88f93af", func := "loop.example/g00959/laws.FnExactSupportAt", spec := "fnExactSupportAt", apart := false }
def FnExactSupportAtSaid : Prop := fnExactSupportAtRow.holds Try.pinned (OpenSpec.ofChange fnExactSupportAtSpec)

/-- ITS FALSE NEIGHBOUR: 'it returns false'. Refute it at one input. -/
def fnExactSupportAtWrong : ChangeSpec := { name := "fnExactSupportAt", fn := fun _ => fun
  | [d1, d2] => { results := [.lit (.bool false)], args := [d1, d2] }
  | _ => none }
def FnExactSupportAtWrongFalsely : Prop := fnExactSupportAtRow.holds Try.pinned (OpenSpec.ofChange fnExactSupportAtWrong)

/-- 'laws.FnExactWidthIn': WHATEVER THE INPUT: true; the input reads as it did. -/
def fnExactWidthInSpec : ChangeSpec := { name := "fnExactWidthIn", fn := fun _ => fun
  | [d1, d2] => { results := [.lit (.bool true)], args := [d1, d2] }
  | _ => none }
def fnExactWidthInRow : OpenClaim := { program := "ytajlabmnpimeeaa", sum := "5b5591068024733d2ba235ca6bece7c3a846710db1e45f71757119dcf88f93af", func := "loop.example/g00959/laws.FnExactWidthIn", spec := "fnExactWidthIn", apart := false }
def FnExactWidthInSaid : Prop := fnExactWidthInRow.holds Try.pinned (OpenSpec.ofChange fnExactWidthInSpec)

/-- ITS FALSE NEIGHBOUR: 'it returns false'. Refute it at one input. -/
def fnExactWidthInWrong : ChangeSpec := { name := "fnExactWidthIn", fn := fun _ => fun
  | [d1, d2] => { results := [.lit (.bool false)], args := [d1, d2] }
  | _ => none }
def FnExactWidthInWrongFalsely : Prop := fnExactWidthInRow.holds Try.pinned (OpenSpec.ofChange fnExactWidthInWrong)

/-- 'laws.FnExactLeastWidth': WHATEVER THE INPUT: true; the input reads as it did. -/
def fnExactLeastWidthSpec : ChangeSpec := { name := "fnExactLeastWidth", fn := fun _ => fun
  | [d] => { results := [.lit (.bool true)], args := [d] }
  | _ => none }
def fnExactLeastWidthRow : OpenClaim := { program := "ytajlabmnpimeeaa", sum := "5b5591068024733d2ba235ca6bece7c3a846710db1e45f71757119dcf88f93af", func := "loop.example/g00959/laws.FnExactLeastWidth", spec := "fnExactLeastWidth", apart := false }
def FnExactLeastWidthSaid : Prop := fnExactLeastWidthRow.holds Try.pinned (OpenSpec.ofChange fnExactLeastWidthSpec)

/-- ITS FALSE NEIGHBOUR: 'it returns false'. Refute it at one input. -/
def fnExactLeastWidthWrong : ChangeSpec := { name := "fnExactLeastWidth", fn := fun _ => fun
  | [d] => { results := [.lit (.bool false)], args := [d] }
  | _ => none }
def FnExactLeastWidthWrongFalsely : Prop := fnExactLeastWidthRow.holds Try.pinned (OpenSpec.ofChange fnExactLeastWidthWrong)

/-- 'laws.FnExactSmoothCorners': WHATEVER THE INPUT: true; the input reads as it did. -/
def fnExactSmoothCornersSpec : ChangeSpec := { name := "fnExactSmoothCorners", fn := fun _ => fun
  | [d] => { results := [.lit (.bool true)], args := [d] }
  | _ => none }
def fnExactSmoothCornersRow : OpenClaim := { program := "ytajlabmnpimeeaa", sum := "5b5591068024733d2ba235ca6bece7c3a846710db1e45f71757119dcf88f93af", func := "loop.example/g00959/laws.FnExactSmoothCorners", spec := "fnExactSmoothCorners", apart := false }
def FnExactSmoothCornersSaid : Prop := fnExactSmoothCornersRow.holds Try.pinned (OpenSpec.ofChange fnExactSmoothCornersSpec)

/-- ITS FALSE NEIGHBOUR: 'it returns false'. Refute it at one input. -/
def fnExactSmoothCornersWrong : ChangeSpec := { name := "fnExactSmoothCorners", fn := fun _ => fun
  | [d] => { results := [.lit (.bool false)], args := [d] }
  | _ => none }
def FnExactSmoothCornersWrongFalsely : Prop := fnExactSmoothCornersRow.holds Try.pinned (OpenSpec.ofChange fnExactSmoothCornersWrong)

/-- 'laws.FnExactLayersOf': WHATEVER THE INPUT: true; the input reads as it did. -/
def fnExactLayersOfSpec : ChangeSpec := { name := "fnExactLayersOf", fn := fun _ => fun
  | [d1, d2] => { results := [.lit (.bool true)], args := [d1, d2] }
  | _ => none }
def fnExactLayersOfRow : OpenClaim := { program := "ytajlabmnpimeeaa", sum := "5b5591068024733d2ba235ca6bece7c3a846710db1e45f71757119dcf88f93af", func := "loop.example/g00959/laws.FnExactLayersOf", spec := "fnExactLayersOf", apart := false }
def FnExactLayersOfSaid : Prop := fnExactLayersOfRow.holds Try.pinned (OpenSpec.ofChange fnExactLayersOfSpec)

/-- ITS FALSE NEIGHBOUR: 'it returns false'. Refute it at one input. -/
def fnExactLayersOfWrong : ChangeSpec := { name := "fnExactLayersOf", fn := fun _ => fun
  | [d1, d2] => { results := [.lit (.bool false)], args := [d1, d2] }
  | _ => none }
def FnExactLayersOfWrongFalsely : Prop := fnExactLayersOfRow.holds Try.pinned (OpenSpec.ofChange fnExactLayersOfWrong)

/-- 'laws.FnExactIsEmptyTriangle': WHATEVER THE INPUT: true; the input reads as it did. -/
def fnExactIsEmptyTriangleSpec : ChangeSpec := { name := "fnExactIsEmptyTriangle", fn := fun _ => fun
  | [d] => { results := [.lit (.bool true)], args := [d] }
  | _ => none }
def fnExactIsEmptyTriangleRow : OpenClaim := { program := "ytajlabmnpimeeaa", sum := "5b5591068024733d2ba235ca6bece7c3a846710db1e45f71757119dcf88f93af", func := "loop.example/g00959/laws.FnExactIsEmptyTriangle", spec := "fnExactIsEmptyTriangle", unfollowed := true, recurses := true, apart := false }
def FnExactIsEmptyTriangleSaid : Prop := fnExactIsEmptyTriangleRow.holds Try.pinned (OpenSpec.ofChange fnExactIsEmptyTriangleSpec)

/-- ITS FALSE NEIGHBOUR: 'it returns false'. Refute it at one input. -/
def fnExactIsEmptyTriangleWrong : ChangeSpec := { name := "fnExactIsEmptyTriangle", fn := fun _ => fun
  | [d] => { results := [.lit (.bool false)], args := [d] }
  | _ => none }
def FnExactIsEmptyTriangleWrongFalsely : Prop := fnExactIsEmptyTriangleRow.holds Try.pinned (OpenSpec.ofChange fnExactIsEmptyTriangleWrong)

/-- 'laws.FnExactIsImplied': WHATEVER THE INPUT: true; the input reads as it did. -/
def fnExactIsImpliedSpec : ChangeSpec := { name := "fnExactIsImplied", fn := fun _ => fun
  | [d1, d2] => { results := [.lit (.bool true)], args := [d1, d2] }
  | _ => none }
def fnExactIsImpliedRow : OpenClaim := { program := "ytajlabmnpimeeaa", sum := "5b5591068024733d2ba235ca6bece7c3a846710db1e45f71757119dcf88f93af", func := "loop.example/g00959/laws.FnExactIsImplied", spec := "fnExactIsImplied", apart := false }
def FnExactIsImpliedSaid : Prop := fnExactIsImpliedRow.holds Try.pinned (OpenSpec.ofChange fnExactIsImpliedSpec)

/-- ITS FALSE NEIGHBOUR: 'it returns false'. Refute it at one input. -/
def fnExactIsImpliedWrong : ChangeSpec := { name := "fnExactIsImplied", fn := fun _ => fun
  | [d1, d2] => { results := [.lit (.bool false)], args := [d1, d2] }
  | _ => none }
def FnExactIsImpliedWrongFalsely : Prop := fnExactIsImpliedRow.holds Try.pinned (OpenSpec.ofChange fnExactIsImpliedWrong)

/-- 'laws.FnExactCutFor': WHATEVER THE INPUT: true; the input reads as it did. -/
def fnExactCutForSpec : ChangeSpec := { name := "fnExactCutFor", fn := fun _ => fun
  | [d1, d2] => { results := [.lit (.bool true)], args := [d1, d2] }
  | _ => none }
def fnExactCutForRow : OpenClaim := { program := "ytajlabmnpimeeaa", sum := "5b5591068024733d2ba235ca6bece7c3a846710db1e45f71757119dcf88f93af", func := "loop.example/g00959/laws.FnExactCutFor", spec := "fnExactCutFor", apart := false }
def FnExactCutForSaid : Prop := fnExactCutForRow.holds Try.pinned (OpenSpec.ofChange fnExactCutForSpec)

/-- ITS FALSE NEIGHBOUR: 'it returns false'. Refute it at one input. -/
def fnExactCutForWrong : ChangeSpec := { name := "fnExactCutFor", fn := fun _ => fun
  | [d1, d2] => { results := [.lit (.bool false)], args := [d1, d2] }
  | _ => none }
def FnExactCutForWrongFalsely : Prop := fnExactCutForRow.holds Try.pinned (OpenSpec.ofChange fnExactCutForWrong)

/- THE SECOND FORM. 'bulk': how many values and letters a reading holds, each counted each time it is reached (what is shared counts as often as it is met; a slice's spare places count too). A statement '..UptoSaid' is the law's where the arguments, and the package variables that the reading takes, are together of bulk at most 1048576: NARROWER than '..Said'. Prove '..Said' where nothing that the law and all that it calls make is longer than what came in: it says more and counts as full. Else prove '..UptoSaid'. A law counts once. -/
mutual
def uptoBulk {H : Type} : DataW H → Nat
  | .lit (.string bytes) => bytes.length + 1
  | .lit _ => 1
  | .nil => 1
  | .ptr d => uptoBulk d + 1
  | .slice elems spare => uptoBulkAll elems + uptoBulkAll spare + 1
  | .agg parts => uptoBulkAll parts + 1
  | .iface _ d => uptoBulk d + 1
  | .map entries => uptoBulkEntries entries + 1
  | .held _ => 1
def uptoBulkAll {H : Type} : List (DataW H) → Nat
  | [] => 0
  | d :: r => uptoBulk d + uptoBulkAll r
def uptoBulkEntries {H : Type} : List (Lit × DataW H) → Nat
  | [] => 0
  | x :: r => uptoBulkEntry x + uptoBulkEntries r
def uptoBulkEntry {H : Type} : Lit × DataW H → Nat
  | (.string bytes, d) => bytes.length + uptoBulk d + 1
  | (_, d) => uptoBulk d + 1
 end
def uptoSmall : (H : Type) → List (DataW H) → Bool := fun _ ds => decide (uptoBulkAll ds ≤ 1048576)
def OpenSpec.upto (s : _root_.Go.ChangeSpec) : _root_.Go.OpenSpec := { _root_.Go.OpenSpec.ofChange s with cond := some uptoSmall }

/-- 'laws.FnExactSupportAt', WHERE WHAT IT READS IS OF BULK AT MOST 1048576: true; the input reads as it did. -/
def fnExactSupportAtUptoRow : OpenClaim := { program := "ytajlabmnpimeeaa", sum := "5b5591068024733d2ba235ca6bece7c3a846710db1e45f71757119dcf88f93af", func := "loop.example/g00959/laws.FnExactSupportAt", spec := "fnExactSupportAt", apart := false, narrowed := true }
def FnExactSupportAtUptoSaid : Prop := fnExactSupportAtUptoRow.holds Try.pinned (OpenSpec.upto fnExactSupportAtSpec)

/-- 'laws.FnExactWidthIn', WHERE WHAT IT READS IS OF BULK AT MOST 1048576: true; the input reads as it did. -/
def fnExactWidthInUptoRow : OpenClaim := { program := "ytajlabmnpimeeaa", sum := "5b5591068024733d2ba235ca6bece7c3a846710db1e45f71757119dcf88f93af", func := "loop.example/g00959/laws.FnExactWidthIn", spec := "fnExactWidthIn", apart := false, narrowed := true }
def FnExactWidthInUptoSaid : Prop := fnExactWidthInUptoRow.holds Try.pinned (OpenSpec.upto fnExactWidthInSpec)

/-- 'laws.FnExactLeastWidth', WHERE WHAT IT READS IS OF BULK AT MOST 1048576: true; the input reads as it did. -/
def fnExactLeastWidthUptoRow : OpenClaim := { program := "ytajlabmnpimeeaa", sum := "5b5591068024733d2ba235ca6bece7c3a846710db1e45f71757119dcf88f93af", func := "loop.example/g00959/laws.FnExactLeastWidth", spec := "fnExactLeastWidth", apart := false, narrowed := true }
def FnExactLeastWidthUptoSaid : Prop := fnExactLeastWidthUptoRow.holds Try.pinned (OpenSpec.upto fnExactLeastWidthSpec)

/-- 'laws.FnExactSmoothCorners', WHERE WHAT IT READS IS OF BULK AT MOST 1048576: true; the input reads as it did. -/
def fnExactSmoothCornersUptoRow : OpenClaim := { program := "ytajlabmnpimeeaa", sum := "5b5591068024733d2ba235ca6bece7c3a846710db1e45f71757119dcf88f93af", func := "loop.example/g00959/laws.FnExactSmoothCorners", spec := "fnExactSmoothCorners", apart := false, narrowed := true }
def FnExactSmoothCornersUptoSaid : Prop := fnExactSmoothCornersUptoRow.holds Try.pinned (OpenSpec.upto fnExactSmoothCornersSpec)

/-- 'laws.FnExactLayersOf', WHERE WHAT IT READS IS OF BULK AT MOST 1048576: true; the input reads as it did. -/
def fnExactLayersOfUptoRow : OpenClaim := { program := "ytajlabmnpimeeaa", sum := "5b5591068024733d2ba235ca6bece7c3a846710db1e45f71757119dcf88f93af", func := "loop.example/g00959/laws.FnExactLayersOf", spec := "fnExactLayersOf", apart := false, narrowed := true }
def FnExactLayersOfUptoSaid : Prop := fnExactLayersOfUptoRow.holds Try.pinned (OpenSpec.upto fnExactLayersOfSpec)

/-- 'laws.FnExactIsEmptyTriangle', WHERE WHAT IT READS IS OF BULK AT MOST 1048576: true; the input reads as it did. -/
def fnExactIsEmptyTriangleUptoRow : OpenClaim := { program := "ytajlabmnpimeeaa", sum := "5b5591068024733d2ba235ca6bece7c3a846710db1e45f71757119dcf88f93af", func := "loop.example/g00959/laws.FnExactIsEmptyTriangle", spec := "fnExactIsEmptyTriangle", unfollowed := true, recurses := true, apart := false, narrowed := true }
def FnExactIsEmptyTriangleUptoSaid : Prop := fnExactIsEmptyTriangleUptoRow.holds Try.pinned (OpenSpec.upto fnExactIsEmptyTriangleSpec)

/-- 'laws.FnExactIsImplied', WHERE WHAT IT READS IS OF BULK AT MOST 1048576: true; the input reads as it did. -/
def fnExactIsImpliedUptoRow : OpenClaim := { program := "ytajlabmnpimeeaa", sum := "5b5591068024733d2ba235ca6bece7c3a846710db1e45f71757119dcf88f93af", func := "loop.example/g00959/laws.FnExactIsImplied", spec := "fnExactIsImplied", apart := false, narrowed := true }
def FnExactIsImpliedUptoSaid : Prop := fnExactIsImpliedUptoRow.holds Try.pinned (OpenSpec.upto fnExactIsImpliedSpec)

/-- 'laws.FnExactCutFor', WHERE WHAT IT READS IS OF BULK AT MOST 1048576: true; the input reads as it did. -/
def fnExactCutForUptoRow : OpenClaim := { program := "ytajlabmnpimeeaa", sum := "5b5591068024733d2ba235ca6bece7c3a846710db1e45f71757119dcf88f93af", func := "loop.example/g00959/laws.FnExactCutFor", spec := "fnExactCutFor", apart := false, narrowed := true }
def FnExactCutForUptoSaid : Prop := fnExactCutForUptoRow.holds Try.pinned (OpenSpec.upto fnExactCutForSpec)

end Rows
end Go.Proofs.Ytajlabmnpimeeaa
