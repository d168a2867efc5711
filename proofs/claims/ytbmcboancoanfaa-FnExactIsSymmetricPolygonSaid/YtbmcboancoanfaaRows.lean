/-
  No cell of these rows narrows 'for every input' (looked for: loops, veiled, ifaces, maps, wideKeys, modest, calm, conditions, laid).
  DERIVED. THE GIVEN ROWS OF THIS SEAT. 8 by the template 'for every input the law returns true; each argument reads behind the call as it read before'; 0 by the template 'total and deterministic' (their statements: YtbmcboancoanfaaTotals.lean).
  GIVEN WITH THE SEED: the statements are not yours to turn. If you find one false, say at which input.
  Laid BY PROGRAM, IN A SANDBOX (cutbox-rows.mjs): the forced cells as the released guide's own fill.sh prints them over the translation 652bbd4b01363034… (all of the seat's roots in one cut). By AI agents, Wed Nov 11 2026. No macro, syntax, notation, axiom, sorry.
-/
import Derived.Test.YtbmcboancoanfaaChecked
import GoSem.Claim
import GoSem.ClaimJoined
import GoSem.ClaimMapViews
import Derived.JoinedTies
import Derived.KernelRfl
namespace Go.Proofs.Ytbmcboancoanfaa
/- THE CELL 'sum', in the pinned program and in every row, IS THE sha256 OF THE DUMP (.gsa) THAT YtbmcboancoanfaaProg.lean LOADS. Nothing in Lean hashes anything: it is a label: what it is worth is what the hold of that sum in a sandbox is worth. -/
noncomputable def Try.pinned : Pinned := { name := "ytbmcboancoanfaa", sum := "652bbd4b0136303437d24f7db12f09cf89e16326f6db07002a1f671b8c056dc2", checked := Try.checked }
namespace Rows
def none {H : Type} : Left H := { results := [], args := [] }

/-- 'laws.FnExactHalvesOf': WHATEVER THE INPUT: true; the input reads as it did. -/
def fnExactHalvesOfSpec : ChangeSpec := { name := "fnExactHalvesOf", fn := fun _ => fun
  | [d] => { results := [.lit (.bool true)], args := [d] }
  | _ => none }
def fnExactHalvesOfRow : OpenClaim := { program := "ytbmcboancoanfaa", sum := "652bbd4b0136303437d24f7db12f09cf89e16326f6db07002a1f671b8c056dc2", func := "loop.example/g00959/laws.FnExactHalvesOf", spec := "fnExactHalvesOf", apart := false }
def FnExactHalvesOfSaid : Prop := fnExactHalvesOfRow.holds Try.pinned (OpenSpec.ofChange fnExactHalvesOfSpec)

/-- ITS FALSE NEIGHBOUR: 'it returns false'. Refute it at one input. -/
def fnExactHalvesOfWrong : ChangeSpec := { name := "fnExactHalvesOf", fn := fun _ => fun
  | [d] => { results := [.lit (.bool false)], args := [d] }
  | _ => none }
def FnExactHalvesOfWrongFalsely : Prop := fnExactHalvesOfRow.holds Try.pinned (OpenSpec.ofChange fnExactHalvesOfWrong)

/-- 'laws.FnExactRegionOf': WHATEVER THE INPUT: true; the input reads as it did. -/
def fnExactRegionOfSpec : ChangeSpec := { name := "fnExactRegionOf", fn := fun _ => fun
  | [d] => { results := [.lit (.bool true)], args := [d] }
  | _ => none }
def fnExactRegionOfRow : OpenClaim := { program := "ytbmcboancoanfaa", sum := "652bbd4b0136303437d24f7db12f09cf89e16326f6db07002a1f671b8c056dc2", func := "loop.example/g00959/laws.FnExactRegionOf", spec := "fnExactRegionOf", apart := false }
def FnExactRegionOfSaid : Prop := fnExactRegionOfRow.holds Try.pinned (OpenSpec.ofChange fnExactRegionOfSpec)

/-- ITS FALSE NEIGHBOUR: 'it returns false'. Refute it at one input. -/
def fnExactRegionOfWrong : ChangeSpec := { name := "fnExactRegionOf", fn := fun _ => fun
  | [d] => { results := [.lit (.bool false)], args := [d] }
  | _ => none }
def FnExactRegionOfWrongFalsely : Prop := fnExactRegionOfRow.holds Try.pinned (OpenSpec.ofChange fnExactRegionOfWrong)

/-- 'laws.FnExactTightenRegion': WHATEVER THE INPUT: true; the input reads as it did. -/
def fnExactTightenRegionSpec : ChangeSpec := { name := "fnExactTightenRegion", fn := fun _ => fun
  | [d] => { results := [.lit (.bool true)], args := [d] }
  | _ => none }
def fnExactTightenRegionRow : OpenClaim := { program := "ytbmcboancoanfaa", sum := "652bbd4b0136303437d24f7db12f09cf89e16326f6db07002a1f671b8c056dc2", func := "loop.example/g00959/laws.FnExactTightenRegion", spec := "fnExactTightenRegion", unfollowed := true, recurses := true, apart := false }
def FnExactTightenRegionSaid : Prop := fnExactTightenRegionRow.holds Try.pinned (OpenSpec.ofChange fnExactTightenRegionSpec)

/-- ITS FALSE NEIGHBOUR: 'it returns false'. Refute it at one input. -/
def fnExactTightenRegionWrong : ChangeSpec := { name := "fnExactTightenRegion", fn := fun _ => fun
  | [d] => { results := [.lit (.bool false)], args := [d] }
  | _ => none }
def FnExactTightenRegionWrongFalsely : Prop := fnExactTightenRegionRow.holds Try.pinned (OpenSpec.ofChange fnExactTightenRegionWrong)

/-- 'laws.FnExactSumPolygons': WHATEVER THE INPUT: true; the input reads as it did. -/
def fnExactSumPolygonsSpec : ChangeSpec := { name := "fnExactSumPolygons", fn := fun _ => fun
  | [d1, d2] => { results := [.lit (.bool true)], args := [d1, d2] }
  | _ => none }
def fnExactSumPolygonsRow : OpenClaim := { program := "ytbmcboancoanfaa", sum := "652bbd4b0136303437d24f7db12f09cf89e16326f6db07002a1f671b8c056dc2", func := "loop.example/g00959/laws.FnExactSumPolygons", spec := "fnExactSumPolygons", unfollowed := true, recurses := true, apart := false }
def FnExactSumPolygonsSaid : Prop := fnExactSumPolygonsRow.holds Try.pinned (OpenSpec.ofChange fnExactSumPolygonsSpec)

/-- ITS FALSE NEIGHBOUR: 'it returns false'. Refute it at one input. -/
def fnExactSumPolygonsWrong : ChangeSpec := { name := "fnExactSumPolygons", fn := fun _ => fun
  | [d1, d2] => { results := [.lit (.bool false)], args := [d1, d2] }
  | _ => none }
def FnExactSumPolygonsWrongFalsely : Prop := fnExactSumPolygonsRow.holds Try.pinned (OpenSpec.ofChange fnExactSumPolygonsWrong)

/-- 'laws.FnExactMixedArea': WHATEVER THE INPUT: true; the input reads as it did. -/
def fnExactMixedAreaSpec : ChangeSpec := { name := "fnExactMixedArea", fn := fun _ => fun
  | [d1, d2] => { results := [.lit (.bool true)], args := [d1, d2] }
  | _ => none }
def fnExactMixedAreaRow : OpenClaim := { program := "ytbmcboancoanfaa", sum := "652bbd4b0136303437d24f7db12f09cf89e16326f6db07002a1f671b8c056dc2", func := "loop.example/g00959/laws.FnExactMixedArea", spec := "fnExactMixedArea", unfollowed := true, recurses := true, apart := false }
def FnExactMixedAreaSaid : Prop := fnExactMixedAreaRow.holds Try.pinned (OpenSpec.ofChange fnExactMixedAreaSpec)

/-- ITS FALSE NEIGHBOUR: 'it returns false'. Refute it at one input. -/
def fnExactMixedAreaWrong : ChangeSpec := { name := "fnExactMixedArea", fn := fun _ => fun
  | [d1, d2] => { results := [.lit (.bool false)], args := [d1, d2] }
  | _ => none }
def FnExactMixedAreaWrongFalsely : Prop := fnExactMixedAreaRow.holds Try.pinned (OpenSpec.ofChange fnExactMixedAreaWrong)

/-- 'laws.FnExactIsSymmetricPolygon': WHATEVER THE INPUT: true; the input reads as it did. -/
def fnExactIsSymmetricPolygonSpec : ChangeSpec := { name := "fnExactIsSymmetricPolygon", fn := fun _ => fun
  | [d] => { results := [.lit (.bool true)], args := [d] }
  | _ => none }
def fnExactIsSymmetricPolygonRow : OpenClaim := { program := "ytbmcboancoanfaa", sum := "652bbd4b0136303437d24f7db12f09cf89e16326f6db07002a1f671b8c056dc2", func := "loop.example/g00959/laws.FnExactIsSymmetricPolygon", spec := "fnExactIsSymmetricPolygon", unfollowed := true, recurses := true, apart := false }
def FnExactIsSymmetricPolygonSaid : Prop := fnExactIsSymmetricPolygonRow.holds Try.pinned (OpenSpec.ofChange fnExactIsSymmetricPolygonSpec)

/-- ITS FALSE NEIGHBOUR: 'it returns false'. Refute it at one input. -/
def fnExactIsSymmetricPolygonWrong : ChangeSpec := { name := "fnExactIsSymmetricPolygon", fn := fun _ => fun
  | [d] => { results := [.lit (.bool false)], args := [d] }
  | _ => none }
def FnExactIsSymmetricPolygonWrongFalsely : Prop := fnExactIsSymmetricPolygonRow.holds Try.pinned (OpenSpec.ofChange fnExactIsSymmetricPolygonWrong)

/-- 'laws.FnExactMirrorPolygon': WHATEVER THE INPUT: true; the input reads as it did. -/
def fnExactMirrorPolygonSpec : ChangeSpec := { name := "fnExactMirrorPolygon", fn := fun _ => fun
  | [d] => { results := [.lit (.bool true)], args := [d] }
  | _ => none }
def fnExactMirrorPolygonRow : OpenClaim := { program := "ytbmcboancoanfaa", sum := "652bbd4b0136303437d24f7db12f09cf89e16326f6db07002a1f671b8c056dc2", func := "loop.example/g00959/laws.FnExactMirrorPolygon", spec := "fnExactMirrorPolygon", unfollowed := true, recurses := true, apart := false }
def FnExactMirrorPolygonSaid : Prop := fnExactMirrorPolygonRow.holds Try.pinned (OpenSpec.ofChange fnExactMirrorPolygonSpec)

/-- ITS FALSE NEIGHBOUR: 'it returns false'. Refute it at one input. -/
def fnExactMirrorPolygonWrong : ChangeSpec := { name := "fnExactMirrorPolygon", fn := fun _ => fun
  | [d] => { results := [.lit (.bool false)], args := [d] }
  | _ => none }
def FnExactMirrorPolygonWrongFalsely : Prop := fnExactMirrorPolygonRow.holds Try.pinned (OpenSpec.ofChange fnExactMirrorPolygonWrong)

/-- 'laws.FnExactZonotopeOf': WHATEVER THE INPUT: true; the input reads as it did. -/
def fnExactZonotopeOfSpec : ChangeSpec := { name := "fnExactZonotopeOf", fn := fun _ => fun
  | [d] => { results := [.lit (.bool true)], args := [d] }
  | _ => none }
def fnExactZonotopeOfRow : OpenClaim := { program := "ytbmcboancoanfaa", sum := "652bbd4b0136303437d24f7db12f09cf89e16326f6db07002a1f671b8c056dc2", func := "loop.example/g00959/laws.FnExactZonotopeOf", spec := "fnExactZonotopeOf", unfollowed := true, recurses := true, apart := false }
def FnExactZonotopeOfSaid : Prop := fnExactZonotopeOfRow.holds Try.pinned (OpenSpec.ofChange fnExactZonotopeOfSpec)

/-- ITS FALSE NEIGHBOUR: 'it returns false'. Refute it at one input. -/
def fnExactZonotopeOfWrong : ChangeSpec := { name := "fnExactZonotopeOf", fn := fun _ => fun
  | [d] => { results := [.lit (.bool false)], args := [d] }
  | _ => none }
def FnExactZonotopeOfWrongFalsely : Prop := fnExactZonotopeOfRow.holds Try.pinned (OpenSpec.ofChange fnExactZonotopeOfWrong)

/- THE SECOND FORM. 'bulk': how many values and letters a reading holds, each counted each time it is reached (what is shared counts as often as it is met; a slice's spare places count too). A statement '..UptoSaid' is the law's where the arguments, and the package variables that the reading takes, are together of bulk at most 1048576: NARROWER than '..Said'. Prove '..Said' where nothing that the law and all that it calls make is longer than what came in: it says more and counts as full. Else prove '..UptoSaid'. A law counts once. -/
mutual
def uptoBulk {H : Type} : DataW H → Nat
  | .lit (.string bytes) => bytes.length + 1
  | .lit _ => 1
  | .nil => 1
  | .ptr d => uptoBulk d + 1
  | .slice elems spare => uptoBulkAll elems + uptoBulkAll spare + 1
  | .agg parts => uptoBulkAll parts + 1
  | .iface _ d => uptoBulk d + 1
  | .map entries => uptoBulkEntries entries + 1
  | .held _ => 1
def uptoBulkAll {H : Type} : List (DataW H) → Nat
  | [] => 0
  | d :: r => uptoBulk d + uptoBulkAll r
def uptoBulkEntries {H : Type} : List (Lit × DataW H) → Nat
  | [] => 0
  | x :: r => uptoBulkEntry x + uptoBulkEntries r
def uptoBulkEntry {H : Type} : Lit × DataW H → Nat
  | (.string bytes, d) => bytes.length + uptoBulk d + 1
  | (_, d) => uptoBulk d + 1
 end
def uptoSmall : (H : Type) → List (DataW H) → Bool := fun _ ds => decide (uptoBulkAll ds ≤ 1048576)
def OpenSpec.upto (s : _root_.Go.ChangeSpec) : _root_.Go.OpenSpec := { _root_.Go.OpenSpec.ofChange s with cond := some uptoSmall }

/-- 'laws.FnExactHalvesOf', WHERE WHAT IT READS IS OF BULK AT MOST 1048576: true; the input reads as it did. -/
def fnExactHalvesOfUptoRow : OpenClaim := { program := "ytbmcboancoanfaa", sum := "652bbd4b0136303437d24f7db12f09cf89e16326f6db07002a1f671b8c056dc2", func := "loop.example/g00959/laws.FnExactHalvesOf", spec := "fnExactHalvesOf", apart := false, narrowed := true }
def FnExactHalvesOfUptoSaid : Prop := fnExactHalvesOfUptoRow.holds Try.pinned (OpenSpec.upto fnExactHalvesOfSpec)

/-- 'laws.FnExactRegionOf', WHERE WHAT IT READS IS OF BULK AT MOST 1048576: true; the input reads as it did. -/
def fnExactRegionOfUptoRow : OpenClaim := { program := "ytbmcboancoanfaa", sum := "652bbd4b0136303437d24f7db12f09cf89e16326f6db07002a1f671b8c056dc2", func := "loop.example/g00959/laws.FnExactRegionOf", spec := "fnExactRegionOf", apart := false, narrowed := true }
def FnExactRegionOfUptoSaid : Prop := fnExactRegionOfUptoRow.holds Try.pinned (OpenSpec.upto fnExactRegionOfSpec)

/-- 'laws.FnExactTightenRegion', WHERE WHAT IT READS IS OF BULK AT MOST 1048576: true; the input reads as it did. -/
def fnExactTightenRegionUptoRow : OpenClaim := { program := "ytbmcboancoanfaa", sum := "652bbd4b0136303437d24f7db12f09cf89e16326f6db07002a1f671b8c056dc2", func := "loop.example/g00959/laws.FnExactTightenRegion", spec := "fnExactTightenRegion", unfollowed := true, recurses := true, apart := false, narrowed := true }
def FnExactTightenRegionUptoSaid : Prop := fnExactTightenRegionUptoRow.holds Try.pinned (OpenSpec.upto fnExactTightenRegionSpec)

/-- 'laws.FnExactSumPolygons', WHERE WHAT IT READS IS OF BULK AT MOST 1048576: true; the input reads as it did. -/
def fnExactSumPolygonsUptoRow : OpenClaim := { program := "ytbmcboancoanfaa", sum := "652bbd4b0136303437d24f7db12f09cf89e16326f6db07002a1f671b8c056dc2", func := "loop.example/g00959/laws.FnExactSumPolygons", spec := "fnExactSumPolygons", unfollowed := true, recurses := true, apart := false, narrowed := true }
def FnExactSumPolygonsUptoSaid : Prop := fnExactSumPolygonsUptoRow.holds Try.pinned (OpenSpec.upto fnExactSumPolygonsSpec)

/-- 'laws.FnExactMixedArea', WHERE WHAT IT READS IS OF BULK AT MOST 1048576: true; the input reads as it did. -/
def fnExactMixedAreaUptoRow : OpenClaim := { program := "ytbmcboancoanfaa", sum := "652bbd4b0136303437d24f7db12f09cf89e16326f6db07002a1f671b8c056dc2", func := "loop.example/g00959/laws.FnExactMixedArea", spec := "fnExactMixedArea", unfollowed := true, recurses := true, apart := false, narrowed := true }
def FnExactMixedAreaUptoSaid : Prop := fnExactMixedAreaUptoRow.holds Try.pinned (OpenSpec.upto fnExactMixedAreaSpec)

/-- 'laws.FnExactIsSymmetricPolygon', WHERE WHAT IT READS IS OF BULK AT MOST 1048576: true; the input reads as it did. -/
def fnExactIsSymmetricPolygonUptoRow : OpenClaim := { program := "ytbmcboancoanfaa", sum := "652bbd4b0136303437d24f7db12f09cf89e16326f6db07002a1f671b8c056dc2", func := "loop.example/g00959/laws.FnExactIsSymmetricPolygon", spec := "fnExactIsSymmetricPolygon", unfollowed := true, recurses := true, apart := false, narrowed := true }
def FnExactIsSymmetricPolygonUptoSaid : Prop := fnExactIsSymmetricPolygonUptoRow.holds Try.pinned (OpenSpec.upto fnExactIsSymmetricPolygonSpec)

/-- 'laws.FnExactMirrorPolygon', WHERE WHAT IT READS IS OF BULK AT MOST 1048576: true; the input reads as it did. -/
def fnExactMirrorPolygonUptoRow : OpenClaim := { program := "ytbmcboancoanfaa", sum := "652bbd4b0136303437d24f7db12f09cf89e16326f6db07002a1f671b8c056dc2", func := "loop.example/g00959/laws.FnExactMirrorPolygon", spec := "fnExactMirrorPolygon", unfollowed := true, recurses := true, apart := false, narrowed := true }
def FnExactMirrorPolygonUptoSaid : Prop := fnExactMirrorPolygonUptoRow.holds Try.pinned (OpenSpec.upto fnExactMirrorPolygonSpec)

/-- 'laws.FnExactZonotopeOf', WHERE WHAT IT READS IS OF BULK AT MOST 1048576: true; the input reads as it did. -/
def fnExactZonotopeOfUptoRow : OpenClaim := { program := "ytbmcboancoanfaa", sum := "652bbd4b0136303437d24f7db12f09cf89e16326f6db07002a1f671b8c056dc2", func := "loop.example/g00959/laws.FnExactZonotopeOf", spec := "fnExactZonotopeOf", unfollowed := true, recurses := true, apart := false, narrowed := true }
def FnExactZonotopeOfUptoSaid : Prop := fnExactZonotopeOfUptoRow.holds Try.pinned (OpenSpec.upto fnExactZonotopeOfSpec)

end Rows
end Go.Proofs.Ytbmcboancoanfaa
