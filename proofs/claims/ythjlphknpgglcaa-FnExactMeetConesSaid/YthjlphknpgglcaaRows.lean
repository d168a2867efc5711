/-
  No cell of these rows narrows 'for every input' (looked for: loops, veiled, ifaces, maps, wideKeys, modest, calm, conditions, laid).
  DERIVED. THE GIVEN ROWS OF THIS SEAT. 12 by the template 'for every input the law returns true; each argument reads behind the call as it read before'; 0 by the template 'total and deterministic' (their statements: YthjlphknpgglcaaTotals.lean).
  GIVEN WITH THE SEED: the statements are not yours to turn. If you find one false, say at which input.
  Laid BY PROGRAM, IN A SANDBOX (cutbox-rows.mjs): the forced cells as the released guide's own fill.sh prints them over the translation 534d0f3a20eaf4e1… (all of the seat's roots in one cut). By AI agents, Wed Nov 11 2026. No macro, syntax, notation, axiom, sorry.
-/
import Derived.Test.YthjlphknpgglcaaChecked
import GoSem.Claim
import GoSem.ClaimJoined
import GoSem.ClaimMapViews
import Derived.JoinedTies
import Derived.KernelRfl
namespace Go.Proofs.Ythjlphknpgglcaa
/- THE CELL 'sum', in the pinned program and in every row, IS THE sha256 OF THE DUMP (.gsa) THAT YthjlphknpgglcaaProg.lean LOADS. Nothing in Lean hashes anything: it is a label: what it is worth is what the hold of that sum in a sandbox is worth. -/
noncomputable def Try.pinned : Pinned := { name := "ythjlphknpgglcaa", sum := "534d0f3a20eaf4e1242b0a9c3414bd8055899fd0bd003c99a119b9005d540919", checked := Try.checked }
namespace Rows
def none {H : Type} : Left H := { results := [], args := [] }

/-- 'laws.FnExactExampleText': WHATEVER THE INPUT: true; the input reads as it did. -/
def fnExactExampleTextSpec : ChangeSpec := { name := "fnExactExampleText", fn := fun _ => fun
  | [d] => { results := [.lit (.bool true)], args := [d] }
  | _ => none }
def fnExactExampleTextRow : OpenClaim := { program := "ythjlphknpgglcaa", sum := "534d0f3a20eaf4e1242b0a9c3414bd8055899fd0bd003c99a119b9005d540919", func := "loop.example/g00959/laws.FnExactExampleText", spec := "fnExactExampleText", apart := false }
def FnExactExampleTextSaid : Prop := fnExactExampleTextRow.holds Try.pinned (OpenSpec.ofChange fnExactExampleTextSpec)

/-- ITS FALSE NEIGHBOUR: 'it returns false'. Refute it at one input. -/
def fnExactExampleTextWrong : ChangeSpec := { name := "fnExactExampleText", fn := fun _ => fun
  | [d] => { results := [.lit (.bool false)], args := [d] }
  | _ => none }
def FnExactExampleTextWrongFalsely : Prop := fnExactExampleTextRow.holds Try.pinned (OpenSpec.ofChange fnExactExampleTextWrong)

/-- 'laws.FnExactEqualSession': WHATEVER THE INPUT: true; the input reads as it did. -/
def fnExactEqualSessionSpec : ChangeSpec := { name := "fnExactEqualSession", fn := fun _ => fun
  | [d1, d2] => { results := [.lit (.bool true)], args := [d1, d2] }
  | _ => none }
def fnExactEqualSessionRow : OpenClaim := { program := "ythjlphknpgglcaa", sum := "534d0f3a20eaf4e1242b0a9c3414bd8055899fd0bd003c99a119b9005d540919", func := "loop.example/g00959/laws.FnExactEqualSession", spec := "fnExactEqualSession", unfollowed := true, recurses := true, apart := false }
def FnExactEqualSessionSaid : Prop := fnExactEqualSessionRow.holds Try.pinned (OpenSpec.ofChange fnExactEqualSessionSpec)

/-- ITS FALSE NEIGHBOUR: 'it returns false'. Refute it at one input. -/
def fnExactEqualSessionWrong : ChangeSpec := { name := "fnExactEqualSession", fn := fun _ => fun
  | [d1, d2] => { results := [.lit (.bool false)], args := [d1, d2] }
  | _ => none }
def FnExactEqualSessionWrongFalsely : Prop := fnExactEqualSessionRow.holds Try.pinned (OpenSpec.ofChange fnExactEqualSessionWrong)

/-- 'laws.FnExactAreGens': WHATEVER THE INPUT: true; the input reads as it did. -/
def fnExactAreGensSpec : ChangeSpec := { name := "fnExactAreGens", fn := fun _ => fun
  | [d] => { results := [.lit (.bool true)], args := [d] }
  | _ => none }
def fnExactAreGensRow : OpenClaim := { program := "ythjlphknpgglcaa", sum := "534d0f3a20eaf4e1242b0a9c3414bd8055899fd0bd003c99a119b9005d540919", func := "loop.example/g00959/laws.FnExactAreGens", spec := "fnExactAreGens", apart := false }
def FnExactAreGensSaid : Prop := fnExactAreGensRow.holds Try.pinned (OpenSpec.ofChange fnExactAreGensSpec)

/-- ITS FALSE NEIGHBOUR: 'it returns false'. Refute it at one input. -/
def fnExactAreGensWrong : ChangeSpec := { name := "fnExactAreGens", fn := fun _ => fun
  | [d] => { results := [.lit (.bool false)], args := [d] }
  | _ => none }
def FnExactAreGensWrongFalsely : Prop := fnExactAreGensRow.holds Try.pinned (OpenSpec.ofChange fnExactAreGensWrong)

/-- 'laws.FnExactDualCone': WHATEVER THE INPUT: true; the input reads as it did. -/
def fnExactDualConeSpec : ChangeSpec := { name := "fnExactDualCone", fn := fun _ => fun
  | [d] => { results := [.lit (.bool true)], args := [d] }
  | _ => none }
def fnExactDualConeRow : OpenClaim := { program := "ythjlphknpgglcaa", sum := "534d0f3a20eaf4e1242b0a9c3414bd8055899fd0bd003c99a119b9005d540919", func := "loop.example/g00959/laws.FnExactDualCone", spec := "fnExactDualCone", apart := false }
def FnExactDualConeSaid : Prop := fnExactDualConeRow.holds Try.pinned (OpenSpec.ofChange fnExactDualConeSpec)

/-- ITS FALSE NEIGHBOUR: 'it returns false'. Refute it at one input. -/
def fnExactDualConeWrong : ChangeSpec := { name := "fnExactDualCone", fn := fun _ => fun
  | [d] => { results := [.lit (.bool false)], args := [d] }
  | _ => none }
def FnExactDualConeWrongFalsely : Prop := fnExactDualConeRow.holds Try.pinned (OpenSpec.ofChange fnExactDualConeWrong)

/-- 'laws.FnExactZonotopeArea': WHATEVER THE INPUT: true; the input reads as it did. -/
def fnExactZonotopeAreaSpec : ChangeSpec := { name := "fnExactZonotopeArea", fn := fun _ => fun
  | [d] => { results := [.lit (.bool true)], args := [d] }
  | _ => none }
def fnExactZonotopeAreaRow : OpenClaim := { program := "ythjlphknpgglcaa", sum := "534d0f3a20eaf4e1242b0a9c3414bd8055899fd0bd003c99a119b9005d540919", func := "loop.example/g00959/laws.FnExactZonotopeArea", spec := "fnExactZonotopeArea", apart := false }
def FnExactZonotopeAreaSaid : Prop := fnExactZonotopeAreaRow.holds Try.pinned (OpenSpec.ofChange fnExactZonotopeAreaSpec)

/-- ITS FALSE NEIGHBOUR: 'it returns false'. Refute it at one input. -/
def fnExactZonotopeAreaWrong : ChangeSpec := { name := "fnExactZonotopeArea", fn := fun _ => fun
  | [d] => { results := [.lit (.bool false)], args := [d] }
  | _ => none }
def FnExactZonotopeAreaWrongFalsely : Prop := fnExactZonotopeAreaRow.holds Try.pinned (OpenSpec.ofChange fnExactZonotopeAreaWrong)

/-- 'laws.FnExactZonotopeCount': WHATEVER THE INPUT: true; the input reads as it did. -/
def fnExactZonotopeCountSpec : ChangeSpec := { name := "fnExactZonotopeCount", fn := fun _ => fun
  | [d] => { results := [.lit (.bool true)], args := [d] }
  | _ => none }
def fnExactZonotopeCountRow : OpenClaim := { program := "ythjlphknpgglcaa", sum := "534d0f3a20eaf4e1242b0a9c3414bd8055899fd0bd003c99a119b9005d540919", func := "loop.example/g00959/laws.FnExactZonotopeCount", spec := "fnExactZonotopeCount", apart := false }
def FnExactZonotopeCountSaid : Prop := fnExactZonotopeCountRow.holds Try.pinned (OpenSpec.ofChange fnExactZonotopeCountSpec)

/-- ITS FALSE NEIGHBOUR: 'it returns false'. Refute it at one input. -/
def fnExactZonotopeCountWrong : ChangeSpec := { name := "fnExactZonotopeCount", fn := fun _ => fun
  | [d] => { results := [.lit (.bool false)], args := [d] }
  | _ => none }
def FnExactZonotopeCountWrongFalsely : Prop := fnExactZonotopeCountRow.holds Try.pinned (OpenSpec.ofChange fnExactZonotopeCountWrong)

/-- 'laws.FnExactZonotopeInner': WHATEVER THE INPUT: true; the input reads as it did. -/
def fnExactZonotopeInnerSpec : ChangeSpec := { name := "fnExactZonotopeInner", fn := fun _ => fun
  | [d] => { results := [.lit (.bool true)], args := [d] }
  | _ => none }
def fnExactZonotopeInnerRow : OpenClaim := { program := "ythjlphknpgglcaa", sum := "534d0f3a20eaf4e1242b0a9c3414bd8055899fd0bd003c99a119b9005d540919", func := "loop.example/g00959/laws.FnExactZonotopeInner", spec := "fnExactZonotopeInner", apart := false }
def FnExactZonotopeInnerSaid : Prop := fnExactZonotopeInnerRow.holds Try.pinned (OpenSpec.ofChange fnExactZonotopeInnerSpec)

/-- ITS FALSE NEIGHBOUR: 'it returns false'. Refute it at one input. -/
def fnExactZonotopeInnerWrong : ChangeSpec := { name := "fnExactZonotopeInner", fn := fun _ => fun
  | [d] => { results := [.lit (.bool false)], args := [d] }
  | _ => none }
def FnExactZonotopeInnerWrongFalsely : Prop := fnExactZonotopeInnerRow.holds Try.pinned (OpenSpec.ofChange fnExactZonotopeInnerWrong)

/-- 'laws.FnExactTightenHalf': WHATEVER THE INPUT: true; the input reads as it did. -/
def fnExactTightenHalfSpec : ChangeSpec := { name := "fnExactTightenHalf", fn := fun _ => fun
  | [d] => { results := [.lit (.bool true)], args := [d] }
  | _ => none }
def fnExactTightenHalfRow : OpenClaim := { program := "ythjlphknpgglcaa", sum := "534d0f3a20eaf4e1242b0a9c3414bd8055899fd0bd003c99a119b9005d540919", func := "loop.example/g00959/laws.FnExactTightenHalf", spec := "fnExactTightenHalf", apart := false }
def FnExactTightenHalfSaid : Prop := fnExactTightenHalfRow.holds Try.pinned (OpenSpec.ofChange fnExactTightenHalfSpec)

/-- ITS FALSE NEIGHBOUR: 'it returns false'. Refute it at one input. -/
def fnExactTightenHalfWrong : ChangeSpec := { name := "fnExactTightenHalf", fn := fun _ => fun
  | [d] => { results := [.lit (.bool false)], args := [d] }
  | _ => none }
def FnExactTightenHalfWrongFalsely : Prop := fnExactTightenHalfRow.holds Try.pinned (OpenSpec.ofChange fnExactTightenHalfWrong)

/-- 'laws.FnExactMeetCones': WHATEVER THE INPUT: true; the input reads as it did. -/
def fnExactMeetConesSpec : ChangeSpec := { name := "fnExactMeetCones", fn := fun _ => fun
  | [d1, d2] => { results := [.lit (.bool true)], args := [d1, d2] }
  | _ => none }
def fnExactMeetConesRow : OpenClaim := { program := "ythjlphknpgglcaa", sum := "534d0f3a20eaf4e1242b0a9c3414bd8055899fd0bd003c99a119b9005d540919", func := "loop.example/g00959/laws.FnExactMeetCones", spec := "fnExactMeetCones", unfollowed := true, recurses := true, apart := false }
def FnExactMeetConesSaid : Prop := fnExactMeetConesRow.holds Try.pinned (OpenSpec.ofChange fnExactMeetConesSpec)

/-- ITS FALSE NEIGHBOUR: 'it returns false'. Refute it at one input. -/
def fnExactMeetConesWrong : ChangeSpec := { name := "fnExactMeetCones", fn := fun _ => fun
  | [d1, d2] => { results := [.lit (.bool false)], args := [d1, d2] }
  | _ => none }
def FnExactMeetConesWrongFalsely : Prop := fnExactMeetConesRow.holds Try.pinned (OpenSpec.ofChange fnExactMeetConesWrong)

/-- 'laws.FnExactSailArea': WHATEVER THE INPUT: true; the input reads as it did. -/
def fnExactSailAreaSpec : ChangeSpec := { name := "fnExactSailArea", fn := fun _ => fun
  | [d] => { results := [.lit (.bool true)], args := [d] }
  | _ => none }
def fnExactSailAreaRow : OpenClaim := { program := "ythjlphknpgglcaa", sum := "534d0f3a20eaf4e1242b0a9c3414bd8055899fd0bd003c99a119b9005d540919", func := "loop.example/g00959/laws.FnExactSailArea", spec := "fnExactSailArea", apart := false }
def FnExactSailAreaSaid : Prop := fnExactSailAreaRow.holds Try.pinned (OpenSpec.ofChange fnExactSailAreaSpec)

/-- ITS FALSE NEIGHBOUR: 'it returns false'. Refute it at one input. -/
def fnExactSailAreaWrong : ChangeSpec := { name := "fnExactSailArea", fn := fun _ => fun
  | [d] => { results := [.lit (.bool false)], args := [d] }
  | _ => none }
def FnExactSailAreaWrongFalsely : Prop := fnExactSailAreaRow.holds Try.pinned (OpenSpec.ofChange fnExactSailAreaWrong)

/-- 'laws.FnExactCombineHalves': WHATEVER THE INPUT: true; the input reads as it did. -/
def fnExactCombineHalvesSpec : ChangeSpec := { name := "fnExactCombineHalves", fn := fun _ => fun
  | [d1, d2, d3, d4] => { results := [.lit (.bool true)], args := [d1, d2, d3, d4] }
  | _ => none }
def fnExactCombineHalvesRow : OpenClaim := { program := "ythjlphknpgglcaa", sum := "534d0f3a20eaf4e1242b0a9c3414bd8055899fd0bd003c99a119b9005d540919", func := "loop.example/g00959/laws.FnExactCombineHalves", spec := "fnExactCombineHalves", apart := false }
def FnExactCombineHalvesSaid : Prop := fnExactCombineHalvesRow.holds Try.pinned (OpenSpec.ofChange fnExactCombineHalvesSpec)

/-- ITS FALSE NEIGHBOUR: 'it returns false'. Refute it at one input. -/
def fnExactCombineHalvesWrong : ChangeSpec := { name := "fnExactCombineHalves", fn := fun _ => fun
  | [d1, d2, d3, d4] => { results := [.lit (.bool false)], args := [d1, d2, d3, d4] }
  | _ => none }
def FnExactCombineHalvesWrongFalsely : Prop := fnExactCombineHalvesRow.holds Try.pinned (OpenSpec.ofChange fnExactCombineHalvesWrong)

/-- 'laws.FnExactTurnsDefect': WHATEVER THE INPUT: true; the input reads as it did. -/
def fnExactTurnsDefectSpec : ChangeSpec := { name := "fnExactTurnsDefect", fn := fun _ => fun
  | [d] => { results := [.lit (.bool true)], args := [d] }
  | _ => none }
def fnExactTurnsDefectRow : OpenClaim := { program := "ythjlphknpgglcaa", sum := "534d0f3a20eaf4e1242b0a9c3414bd8055899fd0bd003c99a119b9005d540919", func := "loop.example/g00959/laws.FnExactTurnsDefect", spec := "fnExactTurnsDefect", apart := false }
def FnExactTurnsDefectSaid : Prop := fnExactTurnsDefectRow.holds Try.pinned (OpenSpec.ofChange fnExactTurnsDefectSpec)

/-- ITS FALSE NEIGHBOUR: 'it returns false'. Refute it at one input. -/
def fnExactTurnsDefectWrong : ChangeSpec := { name := "fnExactTurnsDefect", fn := fun _ => fun
  | [d] => { results := [.lit (.bool false)], args := [d] }
  | _ => none }
def FnExactTurnsDefectWrongFalsely : Prop := fnExactTurnsDefectRow.holds Try.pinned (OpenSpec.ofChange fnExactTurnsDefectWrong)

/- THE SECOND FORM. 'bulk': how many values and letters a reading holds, each counted each time it is reached (what is shared counts as often as it is met; a slice's spare places count too). A statement '..UptoSaid' is the law's where the arguments, and the package variables that the reading takes, are together of bulk at most 1048576: NARROWER than '..Said'. Prove '..Said' where nothing that the law and all that it calls make is longer than what came in: it says more and counts as full. Else prove '..UptoSaid'. A law counts once. -/
mutual
def uptoBulk {H : Type} : DataW H → Nat
  | .lit (.string bytes) => bytes.length + 1
  | .lit _ => 1
  | .nil => 1
  | .ptr d => uptoBulk d + 1
  | .slice elems spare => uptoBulkAll elems + uptoBulkAll spare + 1
  | .agg parts => uptoBulkAll parts + 1
  | .iface _ d => uptoBulk d + 1
  | .map entries => uptoBulkEntries entries + 1
  | .held _ => 1
def uptoBulkAll {H : Type} : List (DataW H) → Nat
  | [] => 0
  | d :: r => uptoBulk d + uptoBulkAll r
def uptoBulkEntries {H : Type} : List (Lit × DataW H) → Nat
  | [] => 0
  | x :: r => uptoBulkEntry x + uptoBulkEntries r
def uptoBulkEntry {H : Type} : Lit × DataW H → Nat
  | (.string bytes, d) => bytes.length + uptoBulk d + 1
  | (_, d) => uptoBulk d + 1
 end
def uptoSmall : (H : Type) → List (DataW H) → Bool := fun _ ds => decide (uptoBulkAll ds ≤ 1048576)
def OpenSpec.upto (s : _root_.Go.ChangeSpec) : _root_.Go.OpenSpec := { _root_.Go.OpenSpec.ofChange s with cond := some uptoSmall }

/-- 'laws.FnExactExampleText', WHERE WHAT IT READS IS OF BULK AT MOST 1048576: true; the input reads as it did. -/
def fnExactExampleTextUptoRow : OpenClaim := { program := "ythjlphknpgglcaa", sum := "534d0f3a20eaf4e1242b0a9c3414bd8055899fd0bd003c99a119b9005d540919", func := "loop.example/g00959/laws.FnExactExampleText", spec := "fnExactExampleText", apart := false, narrowed := true }
def FnExactExampleTextUptoSaid : Prop := fnExactExampleTextUptoRow.holds Try.pinned (OpenSpec.upto fnExactExampleTextSpec)

/-- 'laws.FnExactEqualSession', WHERE WHAT IT READS IS OF BULK AT MOST 1048576: true; the input reads as it did. -/
def fnExactEqualSessionUptoRow : OpenClaim := { program := "ythjlphknpgglcaa", sum := "534d0f3a20eaf4e1242b0a9c3414bd8055899fd0bd003c99a119b9005d540919", func := "loop.example/g00959/laws.FnExactEqualSession", spec := "fnExactEqualSession", unfollowed := true, recurses := true, apart := false, narrowed := true }
def FnExactEqualSessionUptoSaid : Prop := fnExactEqualSessionUptoRow.holds Try.pinned (OpenSpec.upto fnExactEqualSessionSpec)

/-- 'laws.FnExactAreGens', WHERE WHAT IT READS IS OF BULK AT MOST 1048576: true; the input reads as it did. -/
def fnExactAreGensUptoRow : OpenClaim := { program := "ythjlphknpgglcaa", sum := "534d0f3a20eaf4e1242b0a9c3414bd8055899fd0bd003c99a119b9005d540919", func := "loop.example/g00959/laws.FnExactAreGens", spec := "fnExactAreGens", apart := false, narrowed := true }
def FnExactAreGensUptoSaid : Prop := fnExactAreGensUptoRow.holds Try.pinned (OpenSpec.upto fnExactAreGensSpec)

/-- 'laws.FnExactDualCone', WHERE WHAT IT READS IS OF BULK AT MOST 1048576: true; the input reads as it did. -/
def fnExactDualConeUptoRow : OpenClaim := { program := "ythjlphknpgglcaa", sum := "534d0f3a20eaf4e1242b0a9c3414bd8055899fd0bd003c99a119b9005d540919", func := "loop.example/g00959/laws.FnExactDualCone", spec := "fnExactDualCone", apart := false, narrowed := true }
def FnExactDualConeUptoSaid : Prop := fnExactDualConeUptoRow.holds Try.pinned (OpenSpec.upto fnExactDualConeSpec)

/-- 'laws.FnExactZonotopeArea', WHERE WHAT IT READS IS OF BULK AT MOST 1048576: true; the input reads as it did. -/
def fnExactZonotopeAreaUptoRow : OpenClaim := { program := "ythjlphknpgglcaa", sum := "534d0f3a20eaf4e1242b0a9c3414bd8055899fd0bd003c99a119b9005d540919", func := "loop.example/g00959/laws.FnExactZonotopeArea", spec := "fnExactZonotopeArea", apart := false, narrowed := true }
def FnExactZonotopeAreaUptoSaid : Prop := fnExactZonotopeAreaUptoRow.holds Try.pinned (OpenSpec.upto fnExactZonotopeAreaSpec)

/-- 'laws.FnExactZonotopeCount', WHERE WHAT IT READS IS OF BULK AT MOST 1048576: true; the input reads as it did. -/
def fnExactZonotopeCountUptoRow : OpenClaim := { program := "ythjlphknpgglcaa", sum := "534d0f3a20eaf4e1242b0a9c3414bd8055899fd0bd003c99a119b9005d540919", func := "loop.example/g00959/laws.FnExactZonotopeCount", spec := "fnExactZonotopeCount", apart := false, narrowed := true }
def FnExactZonotopeCountUptoSaid : Prop := fnExactZonotopeCountUptoRow.holds Try.pinned (OpenSpec.upto fnExactZonotopeCountSpec)

/-- 'laws.FnExactZonotopeInner', WHERE WHAT IT READS IS OF BULK AT MOST 1048576: true; the input reads as it did. -/
def fnExactZonotopeInnerUptoRow : OpenClaim := { program := "ythjlphknpgglcaa", sum := "534d0f3a20eaf4e1242b0a9c3414bd8055899fd0bd003c99a119b9005d540919", func := "loop.example/g00959/laws.FnExactZonotopeInner", spec := "fnExactZonotopeInner", apart := false, narrowed := true }
def FnExactZonotopeInnerUptoSaid : Prop := fnExactZonotopeInnerUptoRow.holds Try.pinned (OpenSpec.upto fnExactZonotopeInnerSpec)

/-- 'laws.FnExactTightenHalf', WHERE WHAT IT READS IS OF BULK AT MOST 1048576: true; the input reads as it did. -/
def fnExactTightenHalfUptoRow : OpenClaim := { program := "ythjlphknpgglcaa", sum := "534d0f3a20eaf4e1242b0a9c3414bd8055899fd0bd003c99a119b9005d540919", func := "loop.example/g00959/laws.FnExactTightenHalf", spec := "fnExactTightenHalf", apart := false, narrowed := true }
def FnExactTightenHalfUptoSaid : Prop := fnExactTightenHalfUptoRow.holds Try.pinned (OpenSpec.upto fnExactTightenHalfSpec)

/-- 'laws.FnExactMeetCones', WHERE WHAT IT READS IS OF BULK AT MOST 1048576: true; the input reads as it did. -/
def fnExactMeetConesUptoRow : OpenClaim := { program := "ythjlphknpgglcaa", sum := "534d0f3a20eaf4e1242b0a9c3414bd8055899fd0bd003c99a119b9005d540919", func := "loop.example/g00959/laws.FnExactMeetCones", spec := "fnExactMeetCones", unfollowed := true, recurses := true, apart := false, narrowed := true }
def FnExactMeetConesUptoSaid : Prop := fnExactMeetConesUptoRow.holds Try.pinned (OpenSpec.upto fnExactMeetConesSpec)

/-- 'laws.FnExactSailArea', WHERE WHAT IT READS IS OF BULK AT MOST 1048576: true; the input reads as it did. -/
def fnExactSailAreaUptoRow : OpenClaim := { program := "ythjlphknpgglcaa", sum := "534d0f3a20eaf4e1242b0a9c3414bd8055899fd0bd003c99a119b9005d540919", func := "loop.example/g00959/laws.FnExactSailArea", spec := "fnExactSailArea", apart := false, narrowed := true }
def FnExactSailAreaUptoSaid : Prop := fnExactSailAreaUptoRow.holds Try.pinned (OpenSpec.upto fnExactSailAreaSpec)

/-- 'laws.FnExactCombineHalves', WHERE WHAT IT READS IS OF BULK AT MOST 1048576: true; the input reads as it did. -/
def fnExactCombineHalvesUptoRow : OpenClaim := { program := "ythjlphknpgglcaa", sum := "534d0f3a20eaf4e1242b0a9c3414bd8055899fd0bd003c99a119b9005d540919", func := "loop.example/g00959/laws.FnExactCombineHalves", spec := "fnExactCombineHalves", apart := false, narrowed := true }
def FnExactCombineHalvesUptoSaid : Prop := fnExactCombineHalvesUptoRow.holds Try.pinned (OpenSpec.upto fnExactCombineHalvesSpec)

/-- 'laws.FnExactTurnsDefect', WHERE WHAT IT READS IS OF BULK AT MOST 1048576: true; the input reads as it did. -/
def fnExactTurnsDefectUptoRow : OpenClaim := { program := "ythjlphknpgglcaa", sum := "534d0f3a20eaf4e1242b0a9c3414bd8055899fd0bd003c99a119b9005d540919", func := "loop.example/g00959/laws.FnExactTurnsDefect", spec := "fnExactTurnsDefect", apart := false, narrowed := true }
def FnExactTurnsDefectUptoSaid : Prop := fnExactTurnsDefectUptoRow.holds Try.pinned (OpenSpec.upto fnExactTurnsDefectSpec)

end Rows
end Go.Proofs.Ythjlphknpgglcaa
