/-
  No cell of these rows narrows 'for every input' (looked for: loops, veiled, ifaces, maps, wideKeys, modest, calm, conditions, laid).
  DERIVED. THE GIVEN ROWS OF THIS SEAT. 2 by the template 'for every input the law returns true; each argument reads behind the call as it read before'; 0 by the template 'total and deterministic' (their statements: YtfknaeamhcpfgaaGreatTotals.lean).
  GIVEN WITH THE SEED: the statements are not yours to turn. If you find one false, say at which input.
  Laid BY PROGRAM, IN A SANDBOX (cutbox-rows.mjs): the forced cells as the released guide's own fill.sh prints them over the translation 2b4115bdb83b10ff… (all of the seat's roots in one cut). By AI agents, Wed Nov 11 2026. No macro, syntax, notation, axiom, sorry.
-/
import Derived.Test.YtfknaeamhcpfgaaGreatChecked
import GoSem.Claim
import GoSem.ClaimJoined
import GoSem.ClaimMapViews
import Derived.JoinedTies
import Derived.KernelRfl
namespace Go.Proofs.YtfknaeamhcpfgaaGreat
/- THE CELL 'sum', in the pinned program and in every row, IS THE sha256 OF THE DUMP (.gsa) THAT YtfknaeamhcpfgaaGreatProg.lean LOADS. Nothing in Lean hashes anything: it is a label: what it is worth is what the hold of that sum in a sandbox is worth. -/
noncomputable def Tryz.pinned : Pinned := { name := "ytfknaeamhcpfgaagreat", sum := "2b4115bdb83b10ff581cb50a8c2e382a6360e74aa79f0ae3bdb84dce49502915", checked := Tryz.checked }
namespace Rows
def none {H : Type} : Left H := { results := [], args := [] }

/-- 'laws.FnHulls': WHATEVER THE INPUT: true; the input reads as it did. -/
def fnHullsSpec : ChangeSpec := { name := "fnHulls", fn := fun _ => fun
  | [d] => { results := [.lit (.bool true)], args := [d] }
  | _ => none }
def fnHullsRow : OpenClaim := { program := "ytfknaeamhcpfgaagreat", sum := "2b4115bdb83b10ff581cb50a8c2e382a6360e74aa79f0ae3bdb84dce49502915", func := "loop.example/g00959/laws.FnHulls", spec := "fnHulls", unfollowed := true, recurses := true, apart := false }
def FnHullsSaid : Prop := fnHullsRow.holds Tryz.pinned (OpenSpec.ofChange fnHullsSpec)

/-- ITS FALSE NEIGHBOUR: 'it returns false'. Refute it at one input. -/
def fnHullsWrong : ChangeSpec := { name := "fnHulls", fn := fun _ => fun
  | [d] => { results := [.lit (.bool false)], args := [d] }
  | _ => none }
def FnHullsWrongFalsely : Prop := fnHullsRow.holds Tryz.pinned (OpenSpec.ofChange fnHullsWrong)

/-- 'laws.FnExactIsTight': WHATEVER THE INPUT: true; the input reads as it did. -/
def fnExactIsTightSpec : ChangeSpec := { name := "fnExactIsTight", fn := fun _ => fun
  | [d] => { results := [.lit (.bool true)], args := [d] }
  | _ => none }
def fnExactIsTightRow : OpenClaim := { program := "ytfknaeamhcpfgaagreat", sum := "2b4115bdb83b10ff581cb50a8c2e382a6360e74aa79f0ae3bdb84dce49502915", func := "loop.example/g00959/laws.FnExactIsTight", spec := "fnExactIsTight", unfollowed := true, recurses := true, apart := false }
def FnExactIsTightSaid : Prop := fnExactIsTightRow.holds Tryz.pinned (OpenSpec.ofChange fnExactIsTightSpec)

/-- ITS FALSE NEIGHBOUR: 'it returns false'. Refute it at one input. -/
def fnExactIsTightWrong : ChangeSpec := { name := "fnExactIsTight", fn := fun _ => fun
  | [d] => { results := [.lit (.bool false)], args := [d] }
  | _ => none }
def FnExactIsTightWrongFalsely : Prop := fnExactIsTightRow.holds Tryz.pinned (OpenSpec.ofChange fnExactIsTightWrong)

/- THE SECOND FORM. 'bulk': how many values and letters a reading holds, each counted each time it is reached (what is shared counts as often as it is met; a slice's spare places count too). A statement '..UptoSaid' is the law's where the arguments, and the package variables that the reading takes, are together of bulk at most 1048576: NARROWER than '..Said'. Prove '..Said' where nothing that the law and all that it calls make is longer than what came in: it says more and counts as full. Else prove '..UptoSaid'. A law counts once. -/
mutual
def uptoBulk {H : Type} : DataW H → Nat
  | .lit (.string bytes) => bytes.length + 1
  | .lit _ => 1
  | .nil => 1
  | .ptr d => uptoBulk d + 1
  | .slice elems spare => uptoBulkAll elems + uptoBulkAll spare + 1
  | .agg parts => uptoBulkAll parts + 1
  | .iface _ d => uptoBulk d + 1
  | .map entries => uptoBulkEntries entries + 1
  | .held _ => 1
def uptoBulkAll {H : Type} : List (DataW H) → Nat
  | [] => 0
  | d :: r => uptoBulk d + uptoBulkAll r
def uptoBulkEntries {H : Type} : List (Lit × DataW H) → Nat
  | [] => 0
  | x :: r => uptoBulkEntry x + uptoBulkEntries r
def uptoBulkEntry {H : Type} : Lit × DataW H → Nat
  | (.string bytes, d) => bytes.length + uptoBulk d + 1
  | (_, d) => uptoBulk d + 1
 end
def uptoSmall : (H : Type) → List (DataW H) → Bool := fun _ ds => decide (uptoBulkAll ds ≤ 1048576)
def OpenSpec.upto (s : _root_.Go.ChangeSpec) : _root_.Go.OpenSpec := { _root_.Go.OpenSpec.ofChange s with cond := some uptoSmall }

/-- 'laws.FnHulls', WHERE WHAT IT READS IS OF BULK AT MOST 1048576: true; the input reads as it did. -/
def fnHullsUptoRow : OpenClaim := { program := "ytfknaeamhcpfgaagreat", sum := "2b4115bdb83b10ff581cb50a8c2e382a6360e74aa79f0ae3bdb84dce49502915", func := "loop.example/g00959/laws.FnHulls", spec := "fnHulls", unfollowed := true, recurses := true, apart := false, narrowed := true }
def FnHullsUptoSaid : Prop := fnHullsUptoRow.holds Tryz.pinned (OpenSpec.upto fnHullsSpec)

/-- 'laws.FnExactIsTight', WHERE WHAT IT READS IS OF BULK AT MOST 1048576: true; the input reads as it did. -/
def fnExactIsTightUptoRow : OpenClaim := { program := "ytfknaeamhcpfgaagreat", sum := "2b4115bdb83b10ff581cb50a8c2e382a6360e74aa79f0ae3bdb84dce49502915", func := "loop.example/g00959/laws.FnExactIsTight", spec := "fnExactIsTight", unfollowed := true, recurses := true, apart := false, narrowed := true }
def FnExactIsTightUptoSaid : Prop := fnExactIsTightUptoRow.holds Tryz.pinned (OpenSpec.upto fnExactIsTightSpec)

end Rows
end Go.Proofs.YtfknaeamhcpfgaaGreat
