/-
  No cell of these rows narrows 'for every input' (looked for: loops, veiled, ifaces, maps, wideKeys, modest, calm, conditions, laid).
  DERIVED. THE GIVEN ROWS OF THIS SEAT. 8 by the template 'for every input the law returns true; each argument reads behind the call as it read before'; 0 by the template 'total and deterministic' (their statements: YtaijcblkppiihaaTotals.lean).
  GIVEN WITH THE SEED: the statements are not yours to turn. If you find one false, say at which input.
  Laid BY PROGRAM, IN A SANDBOX (cutbox-rows.mjs): the forced cells as the released guide's own fill.sh prints them over the translation 350705710d292533… (all of the seat's roots in one cut). By AI agents, Wed Nov 11 2026. No macro, syntax, notation, axiom, sorry.
-/
import Derived.Test.YtaijcblkppiihaaChecked
import GoSem.Claim
import GoSem.ClaimJoined
import GoSem.ClaimMapViews
import Derived.JoinedTies
import Derived.KernelRfl
namespace Go.Proofs.Ytaijcblkppiihaa
/- THE CELL 'sum', in the pinned program and in every row, IS THE sha256 OF THE DUMP (.gsa) THAT YtaijcblkppiihaaProg.lean LOADS. Nothing in Lean hashes anything: it is a label: what it is worth is what the hold of that sum in a sandbox is worth. -/
noncomputable def Try.pinned : Pinned := { name := "ytaijcblkppiihaa", sum := "350705710d2925331cafe1217d2bbde71f583e2662be90d9f62febaceb0ba8fd", checked := Try.checked }
namespace Rows
def none {H : Type} : Left H := { results := [], args := [] }

/-- 'laws.FnExactExpressIn': WHATEVER THE INPUT: true; the input reads as it did. -/
def fnExactExpressInSpec : ChangeSpec := { name := "fnExactExpressIn", fn := fun _ => fun
  | [d1, d2] => { results := [.lit (.bool true)], args := [d1, d2] }
  | _ => none }
def fnExactExpressInRow : OpenClaim := { program := "ytaijcblkppiihaa", sum := "350705710d2925331cafe1217d2bbde71f583e2662be90d9f62febaceb0ba8fd", func := "loop.example/g00959/laws.FnExactExpressIn", spec := "fnExactExpressIn", apart := false }
def FnExactExpressInSaid : Prop := fnExactExpressInRow.holds Try.pinned (OpenSpec.ofChange fnExactExpressInSpec)

/-- ITS FALSE NEIGHBOUR: 'it returns false'. Refute it at one input. -/
def fnExactExpressInWrong : ChangeSpec := { name := "fnExactExpressIn", fn := fun _ => fun
  | [d1, d2] => { results := [.lit (.bool false)], args := [d1, d2] }
  | _ => none }
def FnExactExpressInWrongFalsely : Prop := fnExactExpressInRow.holds Try.pinned (OpenSpec.ofChange fnExactExpressInWrong)

/-- 'laws.FnExactLengthIn': WHATEVER THE INPUT: true; the input reads as it did. -/
def fnExactLengthInSpec : ChangeSpec := { name := "fnExactLengthIn", fn := fun _ => fun
  | [d1, d2] => { results := [.lit (.bool true)], args := [d1, d2] }
  | _ => none }
def fnExactLengthInRow : OpenClaim := { program := "ytaijcblkppiihaa", sum := "350705710d2925331cafe1217d2bbde71f583e2662be90d9f62febaceb0ba8fd", func := "loop.example/g00959/laws.FnExactLengthIn", spec := "fnExactLengthIn", apart := false }
def FnExactLengthInSaid : Prop := fnExactLengthInRow.holds Try.pinned (OpenSpec.ofChange fnExactLengthInSpec)

/-- ITS FALSE NEIGHBOUR: 'it returns false'. Refute it at one input. -/
def fnExactLengthInWrong : ChangeSpec := { name := "fnExactLengthIn", fn := fun _ => fun
  | [d1, d2] => { results := [.lit (.bool false)], args := [d1, d2] }
  | _ => none }
def FnExactLengthInWrongFalsely : Prop := fnExactLengthInRow.holds Try.pinned (OpenSpec.ofChange fnExactLengthInWrong)

/-- 'laws.FnExactIsSumOfTwo': WHATEVER THE INPUT: true; the input reads as it did. -/
def fnExactIsSumOfTwoSpec : ChangeSpec := { name := "fnExactIsSumOfTwo", fn := fun _ => fun
  | [d1, d2] => { results := [.lit (.bool true)], args := [d1, d2] }
  | _ => none }
def fnExactIsSumOfTwoRow : OpenClaim := { program := "ytaijcblkppiihaa", sum := "350705710d2925331cafe1217d2bbde71f583e2662be90d9f62febaceb0ba8fd", func := "loop.example/g00959/laws.FnExactIsSumOfTwo", spec := "fnExactIsSumOfTwo", apart := false }
def FnExactIsSumOfTwoSaid : Prop := fnExactIsSumOfTwoRow.holds Try.pinned (OpenSpec.ofChange fnExactIsSumOfTwoSpec)

/-- ITS FALSE NEIGHBOUR: 'it returns false'. Refute it at one input. -/
def fnExactIsSumOfTwoWrong : ChangeSpec := { name := "fnExactIsSumOfTwo", fn := fun _ => fun
  | [d1, d2] => { results := [.lit (.bool false)], args := [d1, d2] }
  | _ => none }
def FnExactIsSumOfTwoWrongFalsely : Prop := fnExactIsSumOfTwoRow.holds Try.pinned (OpenSpec.ofChange fnExactIsSumOfTwoWrong)

/-- 'laws.FnExactDualTurns': WHATEVER THE INPUT: true; the input reads as it did. -/
def fnExactDualTurnsSpec : ChangeSpec := { name := "fnExactDualTurns", fn := fun _ => fun
  | [d] => { results := [.lit (.bool true)], args := [d] }
  | _ => none }
def fnExactDualTurnsRow : OpenClaim := { program := "ytaijcblkppiihaa", sum := "350705710d2925331cafe1217d2bbde71f583e2662be90d9f62febaceb0ba8fd", func := "loop.example/g00959/laws.FnExactDualTurns", spec := "fnExactDualTurns", apart := false }
def FnExactDualTurnsSaid : Prop := fnExactDualTurnsRow.holds Try.pinned (OpenSpec.ofChange fnExactDualTurnsSpec)

/-- ITS FALSE NEIGHBOUR: 'it returns false'. Refute it at one input. -/
def fnExactDualTurnsWrong : ChangeSpec := { name := "fnExactDualTurns", fn := fun _ => fun
  | [d] => { results := [.lit (.bool false)], args := [d] }
  | _ => none }
def FnExactDualTurnsWrongFalsely : Prop := fnExactDualTurnsRow.holds Try.pinned (OpenSpec.ofChange fnExactDualTurnsWrong)

/-- 'laws.FnExactSailSteps': WHATEVER THE INPUT: true; the input reads as it did. -/
def fnExactSailStepsSpec : ChangeSpec := { name := "fnExactSailSteps", fn := fun _ => fun
  | [d] => { results := [.lit (.bool true)], args := [d] }
  | _ => none }
def fnExactSailStepsRow : OpenClaim := { program := "ytaijcblkppiihaa", sum := "350705710d2925331cafe1217d2bbde71f583e2662be90d9f62febaceb0ba8fd", func := "loop.example/g00959/laws.FnExactSailSteps", spec := "fnExactSailSteps", apart := false }
def FnExactSailStepsSaid : Prop := fnExactSailStepsRow.holds Try.pinned (OpenSpec.ofChange fnExactSailStepsSpec)

/-- ITS FALSE NEIGHBOUR: 'it returns false'. Refute it at one input. -/
def fnExactSailStepsWrong : ChangeSpec := { name := "fnExactSailSteps", fn := fun _ => fun
  | [d] => { results := [.lit (.bool false)], args := [d] }
  | _ => none }
def FnExactSailStepsWrongFalsely : Prop := fnExactSailStepsRow.holds Try.pinned (OpenSpec.ofChange fnExactSailStepsWrong)

/-- 'laws.FnExactSailCorners': WHATEVER THE INPUT: true; the input reads as it did. -/
def fnExactSailCornersSpec : ChangeSpec := { name := "fnExactSailCorners", fn := fun _ => fun
  | [d] => { results := [.lit (.bool true)], args := [d] }
  | _ => none }
def fnExactSailCornersRow : OpenClaim := { program := "ytaijcblkppiihaa", sum := "350705710d2925331cafe1217d2bbde71f583e2662be90d9f62febaceb0ba8fd", func := "loop.example/g00959/laws.FnExactSailCorners", spec := "fnExactSailCorners", apart := false }
def FnExactSailCornersSaid : Prop := fnExactSailCornersRow.holds Try.pinned (OpenSpec.ofChange fnExactSailCornersSpec)

/-- ITS FALSE NEIGHBOUR: 'it returns false'. Refute it at one input. -/
def fnExactSailCornersWrong : ChangeSpec := { name := "fnExactSailCorners", fn := fun _ => fun
  | [d] => { results := [.lit (.bool false)], args := [d] }
  | _ => none }
def FnExactSailCornersWrongFalsely : Prop := fnExactSailCornersRow.holds Try.pinned (OpenSpec.ofChange fnExactSailCornersWrong)

/-- 'laws.FnSails': WHATEVER THE INPUT: true; the input reads as it did. -/
def fnSailsSpec : ChangeSpec := { name := "fnSails", fn := fun _ => fun
  | [d] => { results := [.lit (.bool true)], args := [d] }
  | _ => none }
def fnSailsRow : OpenClaim := { program := "ytaijcblkppiihaa", sum := "350705710d2925331cafe1217d2bbde71f583e2662be90d9f62febaceb0ba8fd", func := "loop.example/g00959/laws.FnSails", spec := "fnSails", apart := false }
def FnSailsSaid : Prop := fnSailsRow.holds Try.pinned (OpenSpec.ofChange fnSailsSpec)

/-- ITS FALSE NEIGHBOUR: 'it returns false'. Refute it at one input. -/
def fnSailsWrong : ChangeSpec := { name := "fnSails", fn := fun _ => fun
  | [d] => { results := [.lit (.bool false)], args := [d] }
  | _ => none }
def FnSailsWrongFalsely : Prop := fnSailsRow.holds Try.pinned (OpenSpec.ofChange fnSailsWrong)

/-- 'laws.FnRays': WHATEVER THE INPUT: true; the input reads as it did. -/
def fnRaysSpec : ChangeSpec := { name := "fnRays", fn := fun _ => fun
  | [d] => { results := [.lit (.bool true)], args := [d] }
  | _ => none }
def fnRaysRow : OpenClaim := { program := "ytaijcblkppiihaa", sum := "350705710d2925331cafe1217d2bbde71f583e2662be90d9f62febaceb0ba8fd", func := "loop.example/g00959/laws.FnRays", spec := "fnRays", unfollowed := true, recurses := true, apart := false }
def FnRaysSaid : Prop := fnRaysRow.holds Try.pinned (OpenSpec.ofChange fnRaysSpec)

/-- ITS FALSE NEIGHBOUR: 'it returns false'. Refute it at one input. -/
def fnRaysWrong : ChangeSpec := { name := "fnRays", fn := fun _ => fun
  | [d] => { results := [.lit (.bool false)], args := [d] }
  | _ => none }
def FnRaysWrongFalsely : Prop := fnRaysRow.holds Try.pinned (OpenSpec.ofChange fnRaysWrong)

/- THE SECOND FORM. 'bulk': how many values and letters a reading holds, each counted each time it is reached (what is shared counts as often as it is met; a slice's spare places count too). A statement '..UptoSaid' is the law's where the arguments, and the package variables that the reading takes, are together of bulk at most 1048576: NARROWER than '..Said'. Prove '..Said' where nothing that the law and all that it calls make is longer than what came in: it says more and counts as full. Else prove '..UptoSaid'. A law counts once. -/
mutual
def uptoBulk {H : Type} : DataW H → Nat
  | .lit (.string bytes) => bytes.length + 1
  | .lit _ => 1
  | .nil => 1
  | .ptr d => uptoBulk d + 1
  | .slice elems spare => uptoBulkAll elems + uptoBulkAll spare + 1
  | .agg parts => uptoBulkAll parts + 1
  | .iface _ d => uptoBulk d + 1
  | .map entries => uptoBulkEntries entries + 1
  | .held _ => 1
def uptoBulkAll {H : Type} : List (DataW H) → Nat
  | [] => 0
  | d :: r => uptoBulk d + uptoBulkAll r
def uptoBulkEntries {H : Type} : List (Lit × DataW H) → Nat
  | [] => 0
  | x :: r => uptoBulkEntry x + uptoBulkEntries r
def uptoBulkEntry {H : Type} : Lit × DataW H → Nat
  | (.string bytes, d) => bytes.length + uptoBulk d + 1
  | (_, d) => uptoBulk d + 1
 end
def uptoSmall : (H : Type) → List (DataW H) → Bool := fun _ ds => decide (uptoBulkAll ds ≤ 1048576)
def OpenSpec.upto (s : _root_.Go.ChangeSpec) : _root_.Go.OpenSpec := { _root_.Go.OpenSpec.ofChange s with cond := some uptoSmall }

/-- 'laws.FnExactExpressIn', WHERE WHAT IT READS IS OF BULK AT MOST 1048576: true; the input reads as it did. -/
def fnExactExpressInUptoRow : OpenClaim := { program := "ytaijcblkppiihaa", sum := "350705710d2925331cafe1217d2bbde71f583e2662be90d9f62febaceb0ba8fd", func := "loop.example/g00959/laws.FnExactExpressIn", spec := "fnExactExpressIn", apart := false, narrowed := true }
def FnExactExpressInUptoSaid : Prop := fnExactExpressInUptoRow.holds Try.pinned (OpenSpec.upto fnExactExpressInSpec)

/-- 'laws.FnExactLengthIn', WHERE WHAT IT READS IS OF BULK AT MOST 1048576: true; the input reads as it did. -/
def fnExactLengthInUptoRow : OpenClaim := { program := "ytaijcblkppiihaa", sum := "350705710d2925331cafe1217d2bbde71f583e2662be90d9f62febaceb0ba8fd", func := "loop.example/g00959/laws.FnExactLengthIn", spec := "fnExactLengthIn", apart := false, narrowed := true }
def FnExactLengthInUptoSaid : Prop := fnExactLengthInUptoRow.holds Try.pinned (OpenSpec.upto fnExactLengthInSpec)

/-- 'laws.FnExactIsSumOfTwo', WHERE WHAT IT READS IS OF BULK AT MOST 1048576: true; the input reads as it did. -/
def fnExactIsSumOfTwoUptoRow : OpenClaim := { program := "ytaijcblkppiihaa", sum := "350705710d2925331cafe1217d2bbde71f583e2662be90d9f62febaceb0ba8fd", func := "loop.example/g00959/laws.FnExactIsSumOfTwo", spec := "fnExactIsSumOfTwo", apart := false, narrowed := true }
def FnExactIsSumOfTwoUptoSaid : Prop := fnExactIsSumOfTwoUptoRow.holds Try.pinned (OpenSpec.upto fnExactIsSumOfTwoSpec)

/-- 'laws.FnExactDualTurns', WHERE WHAT IT READS IS OF BULK AT MOST 1048576: true; the input reads as it did. -/
def fnExactDualTurnsUptoRow : OpenClaim := { program := "ytaijcblkppiihaa", sum := "350705710d2925331cafe1217d2bbde71f583e2662be90d9f62febaceb0ba8fd", func := "loop.example/g00959/laws.FnExactDualTurns", spec := "fnExactDualTurns", apart := false, narrowed := true }
def FnExactDualTurnsUptoSaid : Prop := fnExactDualTurnsUptoRow.holds Try.pinned (OpenSpec.upto fnExactDualTurnsSpec)

/-- 'laws.FnExactSailSteps', WHERE WHAT IT READS IS OF BULK AT MOST 1048576: true; the input reads as it did. -/
def fnExactSailStepsUptoRow : OpenClaim := { program := "ytaijcblkppiihaa", sum := "350705710d2925331cafe1217d2bbde71f583e2662be90d9f62febaceb0ba8fd", func := "loop.example/g00959/laws.FnExactSailSteps", spec := "fnExactSailSteps", apart := false, narrowed := true }
def FnExactSailStepsUptoSaid : Prop := fnExactSailStepsUptoRow.holds Try.pinned (OpenSpec.upto fnExactSailStepsSpec)

/-- 'laws.FnExactSailCorners', WHERE WHAT IT READS IS OF BULK AT MOST 1048576: true; the input reads as it did. -/
def fnExactSailCornersUptoRow : OpenClaim := { program := "ytaijcblkppiihaa", sum := "350705710d2925331cafe1217d2bbde71f583e2662be90d9f62febaceb0ba8fd", func := "loop.example/g00959/laws.FnExactSailCorners", spec := "fnExactSailCorners", apart := false, narrowed := true }
def FnExactSailCornersUptoSaid : Prop := fnExactSailCornersUptoRow.holds Try.pinned (OpenSpec.upto fnExactSailCornersSpec)

/-- 'laws.FnSails', WHERE WHAT IT READS IS OF BULK AT MOST 1048576: true; the input reads as it did. -/
def fnSailsUptoRow : OpenClaim := { program := "ytaijcblkppiihaa", sum := "350705710d2925331cafe1217d2bbde71f583e2662be90d9f62febaceb0ba8fd", func := "loop.example/g00959/laws.FnSails", spec := "fnSails", apart := false, narrowed := true }
def FnSailsUptoSaid : Prop := fnSailsUptoRow.holds Try.pinned (OpenSpec.upto fnSailsSpec)

/-- 'laws.FnRays', WHERE WHAT IT READS IS OF BULK AT MOST 1048576: true; the input reads as it did. -/
def fnRaysUptoRow : OpenClaim := { program := "ytaijcblkppiihaa", sum := "350705710d2925331cafe1217d2bbde71f583e2662be90d9f62febaceb0ba8fd", func := "loop.example/g00959/laws.FnRays", spec := "fnRays", unfollowed := true, recurses := true, apart := false, narrowed := true }
def FnRaysUptoSaid : Prop := fnRaysUptoRow.holds Try.pinned (OpenSpec.upto fnRaysSpec)

end Rows
end Go.Proofs.Ytaijcblkppiihaa
