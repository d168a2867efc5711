/-
  Plain: area and boundary of a polygon, told by its support function. No condition.
-/
import Derived.Test.YtgbkkmidloeciaaGreatPlWt
namespace Go.Proofs.YtgbkkmidloeciaaGreat
open Go Go.Proofs.YtgbkkmidloeciaaGreat.Eng
set_option linter.unusedVariables false
set_option linter.unusedSimpArgs false
open Hull (Pt Pol tn lx at_ at_some at_of at_mem)
/-! Primitive directions. -/
def Prim (d : Pt) : Prop := ∃ c : Pt, d.1 * c.2 - d.2 * c.1 = 1
open Classical in
noncomputable def comp (d : Pt) : Pt := if h : Prim d then h.choose else (0, 0)
end Go.Proofs.YtgbkkmidloeciaaGreat
