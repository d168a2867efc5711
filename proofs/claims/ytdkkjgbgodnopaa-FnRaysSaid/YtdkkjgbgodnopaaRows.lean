/-
  No cell of these rows narrows 'for every input' (looked for: loops, veiled, ifaces, maps, wideKeys, modest, calm, conditions, laid).
  DERIVED. THE GIVEN ROWS OF THIS SEAT. 2 by the template 'for every input the law returns true; each argument reads behind the call as it read before'; 0 by the template 'total and deterministic' (their statements: YtdkkjgbgodnopaaTotals.lean).
  GIVEN WITH THE SEED: the statements are not yours to turn. If you find one false, say at which input.
  Laid BY PROGRAM, IN A SANDBOX (cutbox-rows.mjs): the forced cells as the released guide's own fill.sh prints them over the translation 7e42dac2cc1032d0… (all of the seat's roots in one cut). By AI agents, Wed Nov 11 2026. No macro, syntax, notation, axiom, sorry.
-/
import Derived.Test.YtdkkjgbgodnopaaChecked
import GoSem.Claim
import GoSem.ClaimJoined
import GoSem.ClaimMapViews
import Derived.JoinedTies
import Derived.KernelRfl
namespace Go.Proofs.Ytdkkjgbgodnopaa
/- THE CELL 'sum', in the pinned program and in every row, IS THE sha256 OF THE DUMP (.gsa) THAT YtdkkjgbgodnopaaProg.lean LOADS. Nothing in Lean hashes anything: it is a label: what it is worth is what the hold of that sum in a sandbox is worth. -/
noncomputable def Try.pinned : Pinned := { name := "ytdkkjgbgodnopaa", sum := "7e42dac2cc1032d0f6e1fa431315f336581336d66bfeac5af11ed1bf4103538c", checked := Try.checked }
namespace Rows
def none {H : Type} : Left H := { results := [], args := [] }

/-- 'laws.FnSails': WHATEVER THE INPUT: true; the input reads as it did. -/
def fnSailsSpec : ChangeSpec := { name := "fnSails", fn := fun _ => fun
  | [d] => { results := [.lit (.bool true)], args := [d] }
  | _ => none }
def fnSailsRow : OpenClaim := { program := "ytdkkjgbgodnopaa", sum := "7e42dac2cc1032d0f6e1fa431315f336581336d66bfeac5af11ed1bf4103538c", func := "loop.example/g00959/laws.FnSails", spec := "fnSails", apart := false }
def FnSailsSaid : Prop := fnSailsRow.holds Try.pinned (OpenSpec.ofChange fnSailsSpec)

/-- ITS FALSE NEIGHBOUR: 'it returns false'. Refute it at one input. -/
def fnSailsWrong : ChangeSpec := { name := "fnSails", fn := fun _ => fun
  | [d] => { results := [.lit (.bool false)], args := [d] }
  | _ => none }
def FnSailsWrongFalsely : Prop := fnSailsRow.holds Try.pinned (OpenSpec.ofChange fnSailsWrong)

/-- 'laws.FnRays': WHATEVER THE INPUT: true; the input reads as it did. -/
def fnRaysSpec : ChangeSpec := { name := "fnRays", fn := fun _ => fun
  | [d] => { results := [.lit (.bool true)], args := [d] }
  | _ => none }
def fnRaysRow : OpenClaim := { program := "ytdkkjgbgodnopaa", sum := "7e42dac2cc1032d0f6e1fa431315f336581336d66bfeac5af11ed1bf4103538c", func := "loop.example/g00959/laws.FnRays", spec := "fnRays", unfollowed := true, recurses := true, apart := false }
def FnRaysSaid : Prop := fnRaysRow.holds Try.pinned (OpenSpec.ofChange fnRaysSpec)

/-- ITS FALSE NEIGHBOUR: 'it returns false'. Refute it at one input. -/
def fnRaysWrong : ChangeSpec := { name := "fnRays", fn := fun _ => fun
  | [d] => { results := [.lit (.bool false)], args := [d] }
  | _ => none }
def FnRaysWrongFalsely : Prop := fnRaysRow.holds Try.pinned (OpenSpec.ofChange fnRaysWrong)

/- THE SECOND FORM. 'bulk': how many values and letters a reading holds, each counted each time it is reached (what is shared counts as often as it is met; a slice's spare places count too). A statement '..UptoSaid' is the law's where the arguments, and the package variables that the reading takes, are together of bulk at most 1048576: NARROWER than '..Said'. Prove '..Said' where nothing that the law and all that it calls make is longer than what came in: it says more and counts as full. Else prove '..UptoSaid'. A law counts once. -/
mutual
def uptoBulk {H : Type} : DataW H → Nat
  | .lit (.string bytes) => bytes.length + 1
  | .lit _ => 1
  | .nil => 1
  | .ptr d => uptoBulk d + 1
  | .slice elems spare => uptoBulkAll elems + uptoBulkAll spare + 1
  | .agg parts => uptoBulkAll parts + 1
  | .iface _ d => uptoBulk d + 1
  | .map entries => uptoBulkEntries entries + 1
  | .held _ => 1
def uptoBulkAll {H : Type} : List (DataW H) → Nat
  | [] => 0
  | d :: r => uptoBulk d + uptoBulkAll r
def uptoBulkEntries {H : Type} : List (Lit × DataW H) → Nat
  | [] => 0
  | x :: r => uptoBulkEntry x + uptoBulkEntries r
def uptoBulkEntry {H : Type} : Lit × DataW H → Nat
  | (.string bytes, d) => bytes.length + uptoBulk d + 1
  | (_, d) => uptoBulk d + 1
 end
def uptoSmall : (H : Type) → List (DataW H) → Bool := fun _ ds => decide (uptoBulkAll ds ≤ 1048576)
def OpenSpec.upto (s : _root_.Go.ChangeSpec) : _root_.Go.OpenSpec := { _root_.Go.OpenSpec.ofChange s with cond := some uptoSmall }

/-- 'laws.FnSails', WHERE WHAT IT READS IS OF BULK AT MOST 1048576: true; the input reads as it did. -/
def fnSailsUptoRow : OpenClaim := { program := "ytdkkjgbgodnopaa", sum := "7e42dac2cc1032d0f6e1fa431315f336581336d66bfeac5af11ed1bf4103538c", func := "loop.example/g00959/laws.FnSails", spec := "fnSails", apart := false, narrowed := true }
def FnSailsUptoSaid : Prop := fnSailsUptoRow.holds Try.pinned (OpenSpec.upto fnSailsSpec)

/-- 'laws.FnRays', WHERE WHAT IT READS IS OF BULK AT MOST 1048576: true; the input reads as it did. -/
def fnRaysUptoRow : OpenClaim := { program := "ytdkkjgbgodnopaa", sum := "7e42dac2cc1032d0f6e1fa431315f336581336d66bfeac5af11ed1bf4103538c", func := "loop.example/g00959/laws.FnRays", spec := "fnRays", unfollowed := true, recurses := true, apart := false, narrowed := true }
def FnRaysUptoSaid : Prop := fnRaysUptoRow.holds Try.pinned (OpenSpec.upto fnRaysSpec)

end Rows
end Go.Proofs.Ytdkkjgbgodnopaa
