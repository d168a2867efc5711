/-
  No cell of these rows narrows 'for every input' (looked for: loops, veiled, ifaces, maps, wideKeys, modest, calm, conditions, laid).
  DERIVED. THE GIVEN ROWS OF THIS SEAT. 14 by the template 'for every input the law returns true; each argument reads behind the call as it read before'; 0 by the template 'total and deterministic' (their statements: YtooaolakcpjjkaaTotals.lean).
  GIVEN WITH THE SEED: the statements are not yours to turn. If you find one false, say at which input.
  Laid BY PROGRAM, IN A SANDBOX (cutbox-rows.mjs): the forced cells as the released guide's own fill.sh prints them over the translation a81503a9b2ef7983… (all of the seat's roots in one cut). By AI agents, Wed Nov 11 2026. No macro, syntax, notation, axiom, sorry.
-/
import Derived.Test.YtooaolakcpjjkaaChecked
import GoSem.Claim
import GoSem.ClaimJoined
import GoSem.ClaimMapViews
import Derived.JoinedTies
import Derived.KernelRfl
namespace Go.Proofs.Ytooaolakcpjjkaa
/- THE CELL 'sum', in the pinned program and in every row, IS THE sha256 OF THE DUMP (.gsa) THAT YtooaolakcpjjkaaProg.lean LOADS. Nothing in Lean hashes anything: it is a label: what it is worth is what the hold of that sum in a sandbox is worth. -/
noncomputable def Try.pinned : Pinned := { name := "ytooaolakcpjjkaa", sum := "a81503a9b2ef7983194e8e6eb78eda5edd5dc8e32062baef17ca9c0f11a5d41b", checked := Try.checked }
namespace Rows
def none {H : Type} : Left H := { results := [], args := [] }

/-- 'laws.FnExactExpressIn': WHATEVER THE INPUT: true; the input reads as it did. -/
def fnExactExpressInSpec : ChangeSpec := { name := "fnExactExpressIn", fn := fun _ => fun
  | [d1, d2] => { results := [.lit (.bool true)], args := [d1, d2] }
  | _ => none }
def fnExactExpressInRow : OpenClaim := { program := "ytooaolakcpjjkaa", sum := "a81503a9b2ef7983194e8e6eb78eda5edd5dc8e32062baef17ca9c0f11a5d41b", func := "loop.example/g00959/laws.FnExactExpressIn", spec := "fnExactExpressIn", apart := false }
def FnExactExpressInSaid : Prop := fnExactExpressInRow.holds Try.pinned (OpenSpec.ofChange fnExactExpressInSpec)

/-- ITS FALSE NEIGHBOUR: 'it returns false'. Refute it at one input. -/
def fnExactExpressInWrong : ChangeSpec := { name := "fnExactExpressIn", fn := fun _ => fun
  | [d1, d2] => { results := [.lit (.bool false)], args := [d1, d2] }
  | _ => none }
def FnExactExpressInWrongFalsely : Prop := fnExactExpressInRow.holds Try.pinned (OpenSpec.ofChange fnExactExpressInWrong)

/-- 'laws.FnExactLengthIn': WHATEVER THE INPUT: true; the input reads as it did. -/
def fnExactLengthInSpec : ChangeSpec := { name := "fnExactLengthIn", fn := fun _ => fun
  | [d1, d2] => { results := [.lit (.bool true)], args := [d1, d2] }
  | _ => none }
def fnExactLengthInRow : OpenClaim := { program := "ytooaolakcpjjkaa", sum := "a81503a9b2ef7983194e8e6eb78eda5edd5dc8e32062baef17ca9c0f11a5d41b", func := "loop.example/g00959/laws.FnExactLengthIn", spec := "fnExactLengthIn", apart := false }
def FnExactLengthInSaid : Prop := fnExactLengthInRow.holds Try.pinned (OpenSpec.ofChange fnExactLengthInSpec)

/-- ITS FALSE NEIGHBOUR: 'it returns false'. Refute it at one input. -/
def fnExactLengthInWrong : ChangeSpec := { name := "fnExactLengthIn", fn := fun _ => fun
  | [d1, d2] => { results := [.lit (.bool false)], args := [d1, d2] }
  | _ => none }
def FnExactLengthInWrongFalsely : Prop := fnExactLengthInRow.holds Try.pinned (OpenSpec.ofChange fnExactLengthInWrong)

/-- 'laws.FnExactIsSumOfTwo': WHATEVER THE INPUT: true; the input reads as it did. -/
def fnExactIsSumOfTwoSpec : ChangeSpec := { name := "fnExactIsSumOfTwo", fn := fun _ => fun
  | [d1, d2] => { results := [.lit (.bool true)], args := [d1, d2] }
  | _ => none }
def fnExactIsSumOfTwoRow : OpenClaim := { program := "ytooaolakcpjjkaa", sum := "a81503a9b2ef7983194e8e6eb78eda5edd5dc8e32062baef17ca9c0f11a5d41b", func := "loop.example/g00959/laws.FnExactIsSumOfTwo", spec := "fnExactIsSumOfTwo", apart := false }
def FnExactIsSumOfTwoSaid : Prop := fnExactIsSumOfTwoRow.holds Try.pinned (OpenSpec.ofChange fnExactIsSumOfTwoSpec)

/-- ITS FALSE NEIGHBOUR: 'it returns false'. Refute it at one input. -/
def fnExactIsSumOfTwoWrong : ChangeSpec := { name := "fnExactIsSumOfTwo", fn := fun _ => fun
  | [d1, d2] => { results := [.lit (.bool false)], args := [d1, d2] }
  | _ => none }
def FnExactIsSumOfTwoWrongFalsely : Prop := fnExactIsSumOfTwoRow.holds Try.pinned (OpenSpec.ofChange fnExactIsSumOfTwoWrong)

/-- 'laws.FnExactDualTurns': WHATEVER THE INPUT: true; the input reads as it did. -/
def fnExactDualTurnsSpec : ChangeSpec := { name := "fnExactDualTurns", fn := fun _ => fun
  | [d] => { results := [.lit (.bool true)], args := [d] }
  | _ => none }
def fnExactDualTurnsRow : OpenClaim := { program := "ytooaolakcpjjkaa", sum := "a81503a9b2ef7983194e8e6eb78eda5edd5dc8e32062baef17ca9c0f11a5d41b", func := "loop.example/g00959/laws.FnExactDualTurns", spec := "fnExactDualTurns", apart := false }
def FnExactDualTurnsSaid : Prop := fnExactDualTurnsRow.holds Try.pinned (OpenSpec.ofChange fnExactDualTurnsSpec)

/-- ITS FALSE NEIGHBOUR: 'it returns false'. Refute it at one input. -/
def fnExactDualTurnsWrong : ChangeSpec := { name := "fnExactDualTurns", fn := fun _ => fun
  | [d] => { results := [.lit (.bool false)], args := [d] }
  | _ => none }
def FnExactDualTurnsWrongFalsely : Prop := fnExactDualTurnsRow.holds Try.pinned (OpenSpec.ofChange fnExactDualTurnsWrong)

/-- 'laws.FnExactSailSteps': WHATEVER THE INPUT: true; the input reads as it did. -/
def fnExactSailStepsSpec : ChangeSpec := { name := "fnExactSailSteps", fn := fun _ => fun
  | [d] => { results := [.lit (.bool true)], args := [d] }
  | _ => none }
def fnExactSailStepsRow : OpenClaim := { program := "ytooaolakcpjjkaa", sum := "a81503a9b2ef7983194e8e6eb78eda5edd5dc8e32062baef17ca9c0f11a5d41b", func := "loop.example/g00959/laws.FnExactSailSteps", spec := "fnExactSailSteps", apart := false }
def FnExactSailStepsSaid : Prop := fnExactSailStepsRow.holds Try.pinned (OpenSpec.ofChange fnExactSailStepsSpec)

/-- ITS FALSE NEIGHBOUR: 'it returns false'. Refute it at one input. -/
def fnExactSailStepsWrong : ChangeSpec := { name := "fnExactSailSteps", fn := fun _ => fun
  | [d] => { results := [.lit (.bool false)], args := [d] }
  | _ => none }
def FnExactSailStepsWrongFalsely : Prop := fnExactSailStepsRow.holds Try.pinned (OpenSpec.ofChange fnExactSailStepsWrong)

/-- 'laws.FnExactIsEmptyTriangle': WHATEVER THE INPUT: true; the input reads as it did. -/
def fnExactIsEmptyTriangleSpec : ChangeSpec := { name := "fnExactIsEmptyTriangle", fn := fun _ => fun
  | [d] => { results := [.lit (.bool true)], args := [d] }
  | _ => none }
def fnExactIsEmptyTriangleRow : OpenClaim := { program := "ytooaolakcpjjkaa", sum := "a81503a9b2ef7983194e8e6eb78eda5edd5dc8e32062baef17ca9c0f11a5d41b", func := "loop.example/g00959/laws.FnExactIsEmptyTriangle", spec := "fnExactIsEmptyTriangle", unfollowed := true, recurses := true, apart := false }
def FnExactIsEmptyTriangleSaid : Prop := fnExactIsEmptyTriangleRow.holds Try.pinned (OpenSpec.ofChange fnExactIsEmptyTriangleSpec)

/-- ITS FALSE NEIGHBOUR: 'it returns false'. Refute it at one input. -/
def fnExactIsEmptyTriangleWrong : ChangeSpec := { name := "fnExactIsEmptyTriangle", fn := fun _ => fun
  | [d] => { results := [.lit (.bool false)], args := [d] }
  | _ => none }
def FnExactIsEmptyTriangleWrongFalsely : Prop := fnExactIsEmptyTriangleRow.holds Try.pinned (OpenSpec.ofChange fnExactIsEmptyTriangleWrong)

/-- 'laws.FnExactSupportAt': WHATEVER THE INPUT: true; the input reads as it did. -/
def fnExactSupportAtSpec : ChangeSpec := { name := "fnExactSupportAt", fn := fun _ => fun
  | [d1, d2] => { results := [.lit (.bool true)], args := [d1, d2] }
  | _ => none }
def fnExactSupportAtRow : OpenClaim := { program := "ytooaolakcpjjkaa", sum := "a81503a9b2ef7983194e8e6eb78eda5edd5dc8e32062baef17ca9c0f11a5d41b", func := "loop.example/g00959/laws.FnExactSupportAt", spec := "fnExactSupportAt", apart := false }
def FnExactSupportAtSaid : Prop := fnExactSupportAtRow.holds Try.pinned (OpenSpec.ofChange fnExactSupportAtSpec)

/-- ITS FALSE NEIGHBOUR: 'it returns false'. Refute it at one input. -/
def fnExactSupportAtWrong : ChangeSpec := { name := "fnExactSupportAt", fn := fun _ => fun
  | [d1, d2] => { results := [.lit (.bool false)], args := [d1, d2] }
  | _ => none }
def FnExactSupportAtWrongFalsely : Prop := fnExactSupportAtRow.holds Try.pinned (OpenSpec.ofChange fnExactSupportAtWrong)

/-- 'laws.FnExactIsImplied': WHATEVER THE INPUT: true; the input reads as it did. -/
def fnExactIsImpliedSpec : ChangeSpec := { name := "fnExactIsImplied", fn := fun _ => fun
  | [d1, d2] => { results := [.lit (.bool true)], args := [d1, d2] }
  | _ => none }
def fnExactIsImpliedRow : OpenClaim := { program := "ytooaolakcpjjkaa", sum := "a81503a9b2ef7983194e8e6eb78eda5edd5dc8e32062baef17ca9c0f11a5d41b", func := "loop.example/g00959/laws.FnExactIsImplied", spec := "fnExactIsImplied", apart := false }
def FnExactIsImpliedSaid : Prop := fnExactIsImpliedRow.holds Try.pinned (OpenSpec.ofChange fnExactIsImpliedSpec)

/-- ITS FALSE NEIGHBOUR: 'it returns false'. Refute it at one input. -/
def fnExactIsImpliedWrong : ChangeSpec := { name := "fnExactIsImplied", fn := fun _ => fun
  | [d1, d2] => { results := [.lit (.bool false)], args := [d1, d2] }
  | _ => none }
def FnExactIsImpliedWrongFalsely : Prop := fnExactIsImpliedRow.holds Try.pinned (OpenSpec.ofChange fnExactIsImpliedWrong)

/-- 'laws.FnExactWidthIn': WHATEVER THE INPUT: true; the input reads as it did. -/
def fnExactWidthInSpec : ChangeSpec := { name := "fnExactWidthIn", fn := fun _ => fun
  | [d1, d2] => { results := [.lit (.bool true)], args := [d1, d2] }
  | _ => none }
def fnExactWidthInRow : OpenClaim := { program := "ytooaolakcpjjkaa", sum := "a81503a9b2ef7983194e8e6eb78eda5edd5dc8e32062baef17ca9c0f11a5d41b", func := "loop.example/g00959/laws.FnExactWidthIn", spec := "fnExactWidthIn", apart := false }
def FnExactWidthInSaid : Prop := fnExactWidthInRow.holds Try.pinned (OpenSpec.ofChange fnExactWidthInSpec)

/-- ITS FALSE NEIGHBOUR: 'it returns false'. Refute it at one input. -/
def fnExactWidthInWrong : ChangeSpec := { name := "fnExactWidthIn", fn := fun _ => fun
  | [d1, d2] => { results := [.lit (.bool false)], args := [d1, d2] }
  | _ => none }
def FnExactWidthInWrongFalsely : Prop := fnExactWidthInRow.holds Try.pinned (OpenSpec.ofChange fnExactWidthInWrong)

/-- 'laws.FnExactLeastWidth': WHATEVER THE INPUT: true; the input reads as it did. -/
def fnExactLeastWidthSpec : ChangeSpec := { name := "fnExactLeastWidth", fn := fun _ => fun
  | [d] => { results := [.lit (.bool true)], args := [d] }
  | _ => none }
def fnExactLeastWidthRow : OpenClaim := { program := "ytooaolakcpjjkaa", sum := "a81503a9b2ef7983194e8e6eb78eda5edd5dc8e32062baef17ca9c0f11a5d41b", func := "loop.example/g00959/laws.FnExactLeastWidth", spec := "fnExactLeastWidth", apart := false }
def FnExactLeastWidthSaid : Prop := fnExactLeastWidthRow.holds Try.pinned (OpenSpec.ofChange fnExactLeastWidthSpec)

/-- ITS FALSE NEIGHBOUR: 'it returns false'. Refute it at one input. -/
def fnExactLeastWidthWrong : ChangeSpec := { name := "fnExactLeastWidth", fn := fun _ => fun
  | [d] => { results := [.lit (.bool false)], args := [d] }
  | _ => none }
def FnExactLeastWidthWrongFalsely : Prop := fnExactLeastWidthRow.holds Try.pinned (OpenSpec.ofChange fnExactLeastWidthWrong)

/-- 'laws.FnExactSailCorners': WHATEVER THE INPUT: true; the input reads as it did. -/
def fnExactSailCornersSpec : ChangeSpec := { name := "fnExactSailCorners", fn := fun _ => fun
  | [d] => { results := [.lit (.bool true)], args := [d] }
  | _ => none }
def fnExactSailCornersRow : OpenClaim := { program := "ytooaolakcpjjkaa", sum := "a81503a9b2ef7983194e8e6eb78eda5edd5dc8e32062baef17ca9c0f11a5d41b", func := "loop.example/g00959/laws.FnExactSailCorners", spec := "fnExactSailCorners", apart := false }
def FnExactSailCornersSaid : Prop := fnExactSailCornersRow.holds Try.pinned (OpenSpec.ofChange fnExactSailCornersSpec)

/-- ITS FALSE NEIGHBOUR: 'it returns false'. Refute it at one input. -/
def fnExactSailCornersWrong : ChangeSpec := { name := "fnExactSailCorners", fn := fun _ => fun
  | [d] => { results := [.lit (.bool false)], args := [d] }
  | _ => none }
def FnExactSailCornersWrongFalsely : Prop := fnExactSailCornersRow.holds Try.pinned (OpenSpec.ofChange fnExactSailCornersWrong)

/-- 'laws.FnExactTightenRegion': WHATEVER THE INPUT: true; the input reads as it did. -/
def fnExactTightenRegionSpec : ChangeSpec := { name := "fnExactTightenRegion", fn := fun _ => fun
  | [d] => { results := [.lit (.bool true)], args := [d] }
  | _ => none }
def fnExactTightenRegionRow : OpenClaim := { program := "ytooaolakcpjjkaa", sum := "a81503a9b2ef7983194e8e6eb78eda5edd5dc8e32062baef17ca9c0f11a5d41b", func := "loop.example/g00959/laws.FnExactTightenRegion", spec := "fnExactTightenRegion", unfollowed := true, recurses := true, apart := false }
def FnExactTightenRegionSaid : Prop := fnExactTightenRegionRow.holds Try.pinned (OpenSpec.ofChange fnExactTightenRegionSpec)

/-- ITS FALSE NEIGHBOUR: 'it returns false'. Refute it at one input. -/
def fnExactTightenRegionWrong : ChangeSpec := { name := "fnExactTightenRegion", fn := fun _ => fun
  | [d] => { results := [.lit (.bool false)], args := [d] }
  | _ => none }
def FnExactTightenRegionWrongFalsely : Prop := fnExactTightenRegionRow.holds Try.pinned (OpenSpec.ofChange fnExactTightenRegionWrong)

/-- 'laws.FnExactSmoothCorners': WHATEVER THE INPUT: true; the input reads as it did. -/
def fnExactSmoothCornersSpec : ChangeSpec := { name := "fnExactSmoothCorners", fn := fun _ => fun
  | [d] => { results := [.lit (.bool true)], args := [d] }
  | _ => none }
def fnExactSmoothCornersRow : OpenClaim := { program := "ytooaolakcpjjkaa", sum := "a81503a9b2ef7983194e8e6eb78eda5edd5dc8e32062baef17ca9c0f11a5d41b", func := "loop.example/g00959/laws.FnExactSmoothCorners", spec := "fnExactSmoothCorners", apart := false }
def FnExactSmoothCornersSaid : Prop := fnExactSmoothCornersRow.holds Try.pinned (OpenSpec.ofChange fnExactSmoothCornersSpec)

/-- ITS FALSE NEIGHBOUR: 'it returns false'. Refute it at one input. -/
def fnExactSmoothCornersWrong : ChangeSpec := { name := "fnExactSmoothCorners", fn := fun _ => fun
  | [d] => { results := [.lit (.bool false)], args := [d] }
  | _ => none }
def FnExactSmoothCornersWrongFalsely : Prop := fnExactSmoothCornersRow.holds Try.pinned (OpenSpec.ofChange fnExactSmoothCornersWrong)

/-- 'laws.FnExactCountEmpty': WHATEVER THE INPUT: true; the input reads as it did. -/
def fnExactCountEmptySpec : ChangeSpec := { name := "fnExactCountEmpty", fn := fun _ => fun
  | [d] => { results := [.lit (.bool true)], args := [d] }
  | _ => none }
def fnExactCountEmptyRow : OpenClaim := { program := "ytooaolakcpjjkaa", sum := "a81503a9b2ef7983194e8e6eb78eda5edd5dc8e32062baef17ca9c0f11a5d41b", func := "loop.example/g00959/laws.FnExactCountEmpty", spec := "fnExactCountEmpty", unfollowed := true, recurses := true, apart := false }
def FnExactCountEmptySaid : Prop := fnExactCountEmptyRow.holds Try.pinned (OpenSpec.ofChange fnExactCountEmptySpec)

/-- ITS FALSE NEIGHBOUR: 'it returns false'. Refute it at one input. -/
def fnExactCountEmptyWrong : ChangeSpec := { name := "fnExactCountEmpty", fn := fun _ => fun
  | [d] => { results := [.lit (.bool false)], args := [d] }
  | _ => none }
def FnExactCountEmptyWrongFalsely : Prop := fnExactCountEmptyRow.holds Try.pinned (OpenSpec.ofChange fnExactCountEmptyWrong)

/- THE SECOND FORM. 'bulk': how many values and letters a reading holds, each counted each time it is reached (what is shared counts as often as it is met; a slice's spare places count too). A statement '..UptoSaid' is the law's where the arguments, and the package variables that the reading takes, are together of bulk at most 1048576: NARROWER than '..Said'. Prove '..Said' where nothing that the law and all that it calls make is longer than what came in: it says more and counts as full. Else prove '..UptoSaid'. A law counts once. -/
mutual
def uptoBulk {H : Type} : DataW H → Nat
  | .lit (.string bytes) => bytes.length + 1
  | .lit _ => 1
  | .nil => 1
  | .ptr d => uptoBulk d + 1
  | .slice elems spare => uptoBulkAll elems + uptoBulkAll spare + 1
  | .agg parts => uptoBulkAll parts + 1
  | .iface _ d => uptoBulk d + 1
  | .map entries => uptoBulkEntries entries + 1
  | .held _ => 1
def uptoBulkAll {H : Type} : List (DataW H) → Nat
  | [] => 0
  | d :: r => uptoBulk d + uptoBulkAll r
def uptoBulkEntries {H : Type} : List (Lit × DataW H) → Nat
  | [] => 0
  | x :: r => uptoBulkEntry x + uptoBulkEntries r
def uptoBulkEntry {H : Type} : Lit × DataW H → Nat
  | (.string bytes, d) => bytes.length + uptoBulk d + 1
  | (_, d) => uptoBulk d + 1
 end
def uptoSmall : (H : Type) → List (DataW H) → Bool := fun _ ds => decide (uptoBulkAll ds ≤ 1048576)
def OpenSpec.upto (s : _root_.Go.ChangeSpec) : _root_.Go.OpenSpec := { _root_.Go.OpenSpec.ofChange s with cond := some uptoSmall }

/-- 'laws.FnExactExpressIn', WHERE WHAT IT READS IS OF BULK AT MOST 1048576: true; the input reads as it did. -/
def fnExactExpressInUptoRow : OpenClaim := { program := "ytooaolakcpjjkaa", sum := "a81503a9b2ef7983194e8e6eb78eda5edd5dc8e32062baef17ca9c0f11a5d41b", func := "loop.example/g00959/laws.FnExactExpressIn", spec := "fnExactExpressIn", apart := false, narrowed := true }
def FnExactExpressInUptoSaid : Prop := fnExactExpressInUptoRow.holds Try.pinned (OpenSpec.upto fnExactExpressInSpec)

/-- 'laws.FnExactLengthIn', WHERE WHAT IT READS IS OF BULK AT MOST 1048576: true; the input reads as it did. -/
def fnExactLengthInUptoRow : OpenClaim := { program := "ytooaolakcpjjkaa", sum := "a81503a9b2ef7983194e8e6eb78eda5edd5dc8e32062baef17ca9c0f11a5d41b", func := "loop.example/g00959/laws.FnExactLengthIn", spec := "fnExactLengthIn", apart := false, narrowed := true }
def FnExactLengthInUptoSaid : Prop := fnExactLengthInUptoRow.holds Try.pinned (OpenSpec.upto fnExactLengthInSpec)

/-- 'laws.FnExactIsSumOfTwo', WHERE WHAT IT READS IS OF BULK AT MOST 1048576: true; the input reads as it did. -/
def fnExactIsSumOfTwoUptoRow : OpenClaim := { program := "ytooaolakcpjjkaa", sum := "a81503a9b2ef7983194e8e6eb78eda5edd5dc8e32062baef17ca9c0f11a5d41b", func := "loop.example/g00959/laws.FnExactIsSumOfTwo", spec := "fnExactIsSumOfTwo", apart := false, narrowed := true }
def FnExactIsSumOfTwoUptoSaid : Prop := fnExactIsSumOfTwoUptoRow.holds Try.pinned (OpenSpec.upto fnExactIsSumOfTwoSpec)

/-- 'laws.FnExactDualTurns', WHERE WHAT IT READS IS OF BULK AT MOST 1048576: true; the input reads as it did. -/
def fnExactDualTurnsUptoRow : OpenClaim := { program := "ytooaolakcpjjkaa", sum := "a81503a9b2ef7983194e8e6eb78eda5edd5dc8e32062baef17ca9c0f11a5d41b", func := "loop.example/g00959/laws.FnExactDualTurns", spec := "fnExactDualTurns", apart := false, narrowed := true }
def FnExactDualTurnsUptoSaid : Prop := fnExactDualTurnsUptoRow.holds Try.pinned (OpenSpec.upto fnExactDualTurnsSpec)

/-- 'laws.FnExactSailSteps', WHERE WHAT IT READS IS OF BULK AT MOST 1048576: true; the input reads as it did. -/
def fnExactSailStepsUptoRow : OpenClaim := { program := "ytooaolakcpjjkaa", sum := "a81503a9b2ef7983194e8e6eb78eda5edd5dc8e32062baef17ca9c0f11a5d41b", func := "loop.example/g00959/laws.FnExactSailSteps", spec := "fnExactSailSteps", apart := false, narrowed := true }
def FnExactSailStepsUptoSaid : Prop := fnExactSailStepsUptoRow.holds Try.pinned (OpenSpec.upto fnExactSailStepsSpec)

/-- 'laws.FnExactIsEmptyTriangle', WHERE WHAT IT READS IS OF BULK AT MOST 1048576: true; the input reads as it did. -/
def fnExactIsEmptyTriangleUptoRow : OpenClaim := { program := "ytooaolakcpjjkaa", sum := "a81503a9b2ef7983194e8e6eb78eda5edd5dc8e32062baef17ca9c0f11a5d41b", func := "loop.example/g00959/laws.FnExactIsEmptyTriangle", spec := "fnExactIsEmptyTriangle", unfollowed := true, recurses := true, apart := false, narrowed := true }
def FnExactIsEmptyTriangleUptoSaid : Prop := fnExactIsEmptyTriangleUptoRow.holds Try.pinned (OpenSpec.upto fnExactIsEmptyTriangleSpec)

/-- 'laws.FnExactSupportAt', WHERE WHAT IT READS IS OF BULK AT MOST 1048576: true; the input reads as it did. -/
def fnExactSupportAtUptoRow : OpenClaim := { program := "ytooaolakcpjjkaa", sum := "a81503a9b2ef7983194e8e6eb78eda5edd5dc8e32062baef17ca9c0f11a5d41b", func := "loop.example/g00959/laws.FnExactSupportAt", spec := "fnExactSupportAt", apart := false, narrowed := true }
def FnExactSupportAtUptoSaid : Prop := fnExactSupportAtUptoRow.holds Try.pinned (OpenSpec.upto fnExactSupportAtSpec)

/-- 'laws.FnExactIsImplied', WHERE WHAT IT READS IS OF BULK AT MOST 1048576: true; the input reads as it did. -/
def fnExactIsImpliedUptoRow : OpenClaim := { program := "ytooaolakcpjjkaa", sum := "a81503a9b2ef7983194e8e6eb78eda5edd5dc8e32062baef17ca9c0f11a5d41b", func := "loop.example/g00959/laws.FnExactIsImplied", spec := "fnExactIsImplied", apart := false, narrowed := true }
def FnExactIsImpliedUptoSaid : Prop := fnExactIsImpliedUptoRow.holds Try.pinned (OpenSpec.upto fnExactIsImpliedSpec)

/-- 'laws.FnExactWidthIn', WHERE WHAT IT READS IS OF BULK AT MOST 1048576: true; the input reads as it did. -/
def fnExactWidthInUptoRow : OpenClaim := { program := "ytooaolakcpjjkaa", sum := "a81503a9b2ef7983194e8e6eb78eda5edd5dc8e32062baef17ca9c0f11a5d41b", func := "loop.example/g00959/laws.FnExactWidthIn", spec := "fnExactWidthIn", apart := false, narrowed := true }
def FnExactWidthInUptoSaid : Prop := fnExactWidthInUptoRow.holds Try.pinned (OpenSpec.upto fnExactWidthInSpec)

/-- 'laws.FnExactLeastWidth', WHERE WHAT IT READS IS OF BULK AT MOST 1048576: true; the input reads as it did. -/
def fnExactLeastWidthUptoRow : OpenClaim := { program := "ytooaolakcpjjkaa", sum := "a81503a9b2ef7983194e8e6eb78eda5edd5dc8e32062baef17ca9c0f11a5d41b", func := "loop.example/g00959/laws.FnExactLeastWidth", spec := "fnExactLeastWidth", apart := false, narrowed := true }
def FnExactLeastWidthUptoSaid : Prop := fnExactLeastWidthUptoRow.holds Try.pinned (OpenSpec.upto fnExactLeastWidthSpec)

/-- 'laws.FnExactSailCorners', WHERE WHAT IT READS IS OF BULK AT MOST 1048576: true; the input reads as it did. -/
def fnExactSailCornersUptoRow : OpenClaim := { program := "ytooaolakcpjjkaa", sum := "a81503a9b2ef7983194e8e6eb78eda5edd5dc8e32062baef17ca9c0f11a5d41b", func := "loop.example/g00959/laws.FnExactSailCorners", spec := "fnExactSailCorners", apart := false, narrowed := true }
def FnExactSailCornersUptoSaid : Prop := fnExactSailCornersUptoRow.holds Try.pinned (OpenSpec.upto fnExactSailCornersSpec)

/-- 'laws.FnExactTightenRegion', WHERE WHAT IT READS IS OF BULK AT MOST 1048576: true; the input reads as it did. -/
def fnExactTightenRegionUptoRow : OpenClaim := { program := "ytooaolakcpjjkaa", sum := "a81503a9b2ef7983194e8e6eb78eda5edd5dc8e32062baef17ca9c0f11a5d41b", func := "loop.example/g00959/laws.FnExactTightenRegion", spec := "fnExactTightenRegion", unfollowed := true, recurses := true, apart := false, narrowed := true }
def FnExactTightenRegionUptoSaid : Prop := fnExactTightenRegionUptoRow.holds Try.pinned (OpenSpec.upto fnExactTightenRegionSpec)

/-- 'laws.FnExactSmoothCorners', WHERE WHAT IT READS IS OF BULK AT MOST 1048576: true; the input reads as it did. -/
def fnExactSmoothCornersUptoRow : OpenClaim := { program := "ytooaolakcpjjkaa", sum := "a81503a9b2ef7983194e8e6eb78eda5edd5dc8e32062baef17ca9c0f11a5d41b", func := "loop.example/g00959/laws.FnExactSmoothCorners", spec := "fnExactSmoothCorners", apart := false, narrowed := true }
def FnExactSmoothCornersUptoSaid : Prop := fnExactSmoothCornersUptoRow.holds Try.pinned (OpenSpec.upto fnExactSmoothCornersSpec)

/-- 'laws.FnExactCountEmpty', WHERE WHAT IT READS IS OF BULK AT MOST 1048576: true; the input reads as it did. -/
def fnExactCountEmptyUptoRow : OpenClaim := { program := "ytooaolakcpjjkaa", sum := "a81503a9b2ef7983194e8e6eb78eda5edd5dc8e32062baef17ca9c0f11a5d41b", func := "loop.example/g00959/laws.FnExactCountEmpty", spec := "fnExactCountEmpty", unfollowed := true, recurses := true, apart := false, narrowed := true }
def FnExactCountEmptyUptoSaid : Prop := fnExactCountEmptyUptoRow.holds Try.pinned (OpenSpec.upto fnExactCountEmptySpec)

end Rows
end Go.Proofs.Ytooaolakcpjjkaa
