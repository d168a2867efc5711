/-
  No cell of these rows narrows 'for every input' (looked for: loops, veiled, ifaces, maps, wideKeys, modest, calm, conditions, laid).
  DERIVED. THE GIVEN ROWS OF THIS SEAT. 3 by the template 'for every input the law returns true; each argument reads behind the call as it read before'; 0 by the template 'total and deterministic' (their statements: YtlccglonhkcahaaTotals.lean).
  GIVEN WITH THE SEED: the statements are not yours to turn. If you find one false, say at which input.
  Laid BY PROGRAM, IN A SANDBOX (cutbox-rows.mjs): the forced cells as the released guide's own fill.sh prints them over the translation 524e0e8cdc33539a… (all of the seat's roots in one cut). By AI agents, Wed Nov 11 2026. No macro, syntax, notation, axiom, sorry.
-/
import Derived.Test.YtlccglonhkcahaaChecked
import GoSem.Claim
import GoSem.ClaimJoined
import GoSem.ClaimMapViews
import Derived.JoinedTies
import Derived.KernelRfl
namespace Go.Proofs.Ytlccglonhkcahaa
/- THE CELL 'sum', in the pinned program and in every row, IS THE sha256 OF THE DUMP (.gsa) THAT YtlccglonhkcahaaProg.lean LOADS. Nothing in Lean hashes anything: it is a label: what it is worth is what the hold of that sum in a sandbox is worth. -/
noncomputable def Try.pinned : Pinned := { name := "ytlccglonhkcahaa", sum := "524e0e8cdc33539ab413da83b428f6accc62197392a3828ce27c882075c415f8", checked := Try.checked }
namespace Rows
def none {H : Type} : Left H := { results := [], args := [] }

/-- 'laws.FnExactCountEmpty': WHATEVER THE INPUT: true; the input reads as it did. -/
def fnExactCountEmptySpec : ChangeSpec := { name := "fnExactCountEmpty", fn := fun _ => fun
  | [d] => { results := [.lit (.bool true)], args := [d] }
  | _ => none }
def fnExactCountEmptyRow : OpenClaim := { program := "ytlccglonhkcahaa", sum := "524e0e8cdc33539ab413da83b428f6accc62197392a3828ce27c882075c415f8", func := "loop.example/g00959/laws.FnExactCountEmpty", spec := "fnExactCountEmpty", unfollowed := true, recurses := true, plainKeys := false, apart := false }
def FnExactCountEmptySaid : Prop := fnExactCountEmptyRow.holds Try.pinned (OpenSpec.ofChange fnExactCountEmptySpec)

/-- ITS FALSE NEIGHBOUR: 'it returns false'. Refute it at one input. -/
def fnExactCountEmptyWrong : ChangeSpec := { name := "fnExactCountEmpty", fn := fun _ => fun
  | [d] => { results := [.lit (.bool false)], args := [d] }
  | _ => none }
def FnExactCountEmptyWrongFalsely : Prop := fnExactCountEmptyRow.holds Try.pinned (OpenSpec.ofChange fnExactCountEmptyWrong)

/-- 'laws.FnExactEdgesUsed': WHATEVER THE INPUT: true; the input reads as it did. -/
def fnExactEdgesUsedSpec : ChangeSpec := { name := "fnExactEdgesUsed", fn := fun _ => fun
  | [d] => { results := [.lit (.bool true)], args := [d] }
  | _ => none }
def fnExactEdgesUsedRow : OpenClaim := { program := "ytlccglonhkcahaa", sum := "524e0e8cdc33539ab413da83b428f6accc62197392a3828ce27c882075c415f8", func := "loop.example/g00959/laws.FnExactEdgesUsed", spec := "fnExactEdgesUsed", unfollowed := true, recurses := true, plainKeys := false, apart := false }
def FnExactEdgesUsedSaid : Prop := fnExactEdgesUsedRow.holds Try.pinned (OpenSpec.ofChange fnExactEdgesUsedSpec)

/-- ITS FALSE NEIGHBOUR: 'it returns false'. Refute it at one input. -/
def fnExactEdgesUsedWrong : ChangeSpec := { name := "fnExactEdgesUsed", fn := fun _ => fun
  | [d] => { results := [.lit (.bool false)], args := [d] }
  | _ => none }
def FnExactEdgesUsedWrongFalsely : Prop := fnExactEdgesUsedRow.holds Try.pinned (OpenSpec.ofChange fnExactEdgesUsedWrong)

/-- 'laws.FnExactEmptyTriangles': WHATEVER THE INPUT: true; the input reads as it did. -/
def fnExactEmptyTrianglesSpec : ChangeSpec := { name := "fnExactEmptyTriangles", fn := fun _ => fun
  | [d] => { results := [.lit (.bool true)], args := [d] }
  | _ => none }
def fnExactEmptyTrianglesRow : OpenClaim := { program := "ytlccglonhkcahaa", sum := "524e0e8cdc33539ab413da83b428f6accc62197392a3828ce27c882075c415f8", func := "loop.example/g00959/laws.FnExactEmptyTriangles", spec := "fnExactEmptyTriangles", unfollowed := true, recurses := true, plainKeys := false, apart := false }
def FnExactEmptyTrianglesSaid : Prop := fnExactEmptyTrianglesRow.holds Try.pinned (OpenSpec.ofChange fnExactEmptyTrianglesSpec)

/-- ITS FALSE NEIGHBOUR: 'it returns false'. Refute it at one input. -/
def fnExactEmptyTrianglesWrong : ChangeSpec := { name := "fnExactEmptyTriangles", fn := fun _ => fun
  | [d] => { results := [.lit (.bool false)], args := [d] }
  | _ => none }
def FnExactEmptyTrianglesWrongFalsely : Prop := fnExactEmptyTrianglesRow.holds Try.pinned (OpenSpec.ofChange fnExactEmptyTrianglesWrong)

/- THE SECOND FORM. 'bulk': how many values and letters a reading holds, each counted each time it is reached (what is shared counts as often as it is met; a slice's spare places count too). A statement '..UptoSaid' is the law's where the arguments, and the package variables that the reading takes, are together of bulk at most 1048576: NARROWER than '..Said'. Prove '..Said' where nothing that the law and all that it calls make is longer than what came in: it says more and counts as full. Else prove '..UptoSaid'. A law counts once. -/
mutual
def uptoBulk {H : Type} : DataW H → Nat
  | .lit (.string bytes) => bytes.length + 1
  | .lit _ => 1
  | .nil => 1
  | .ptr d => uptoBulk d + 1
  | .slice elems spare => uptoBulkAll elems + uptoBulkAll spare + 1
  | .agg parts => uptoBulkAll parts + 1
  | .iface _ d => uptoBulk d + 1
  | .map entries => uptoBulkEntries entries + 1
  | .held _ => 1
def uptoBulkAll {H : Type} : List (DataW H) → Nat
  | [] => 0
  | d :: r => uptoBulk d + uptoBulkAll r
def uptoBulkEntries {H : Type} : List (Lit × DataW H) → Nat
  | [] => 0
  | x :: r => uptoBulkEntry x + uptoBulkEntries r
def uptoBulkEntry {H : Type} : Lit × DataW H → Nat
  | (.string bytes, d) => bytes.length + uptoBulk d + 1
  | (_, d) => uptoBulk d + 1
 end
def uptoSmall : (H : Type) → List (DataW H) → Bool := fun _ ds => decide (uptoBulkAll ds ≤ 1048576)
def OpenSpec.upto (s : _root_.Go.ChangeSpec) : _root_.Go.OpenSpec := { _root_.Go.OpenSpec.ofChange s with cond := some uptoSmall }

/-- 'laws.FnExactCountEmpty', WHERE WHAT IT READS IS OF BULK AT MOST 1048576: true; the input reads as it did. -/
def fnExactCountEmptyUptoRow : OpenClaim := { program := "ytlccglonhkcahaa", sum := "524e0e8cdc33539ab413da83b428f6accc62197392a3828ce27c882075c415f8", func := "loop.example/g00959/laws.FnExactCountEmpty", spec := "fnExactCountEmpty", unfollowed := true, recurses := true, plainKeys := false, apart := false, narrowed := true }
def FnExactCountEmptyUptoSaid : Prop := fnExactCountEmptyUptoRow.holds Try.pinned (OpenSpec.upto fnExactCountEmptySpec)

/-- 'laws.FnExactEdgesUsed', WHERE WHAT IT READS IS OF BULK AT MOST 1048576: true; the input reads as it did. -/
def fnExactEdgesUsedUptoRow : OpenClaim := { program := "ytlccglonhkcahaa", sum := "524e0e8cdc33539ab413da83b428f6accc62197392a3828ce27c882075c415f8", func := "loop.example/g00959/laws.FnExactEdgesUsed", spec := "fnExactEdgesUsed", unfollowed := true, recurses := true, plainKeys := false, apart := false, narrowed := true }
def FnExactEdgesUsedUptoSaid : Prop := fnExactEdgesUsedUptoRow.holds Try.pinned (OpenSpec.upto fnExactEdgesUsedSpec)

/-- 'laws.FnExactEmptyTriangles', WHERE WHAT IT READS IS OF BULK AT MOST 1048576: true; the input reads as it did. -/
def fnExactEmptyTrianglesUptoRow : OpenClaim := { program := "ytlccglonhkcahaa", sum := "524e0e8cdc33539ab413da83b428f6accc62197392a3828ce27c882075c415f8", func := "loop.example/g00959/laws.FnExactEmptyTriangles", spec := "fnExactEmptyTriangles", unfollowed := true, recurses := true, plainKeys := false, apart := false, narrowed := true }
def FnExactEmptyTrianglesUptoSaid : Prop := fnExactEmptyTrianglesUptoRow.holds Try.pinned (OpenSpec.upto fnExactEmptyTrianglesSpec)

end Rows
end Go.Proofs.Ytlccglonhkcahaa
