/-
  The law FnSums returns true for every input: sums of polygons are symmetric, add up supports, and mix areas. No condition.
-/
import Derived.Test.YtilggmmanhinbaaRows
import Derived.Test.YtilggmmanhinbaaPlSw
namespace Go.Proofs.Ytilggmmanhinbaa.fnSums
open Go Go.ChangeShapes Go.WideShapes Go.ChangeAt Go.RowKit Eng
set_option linter.unusedVariables false

theorem own : ownKnob Try.prog.godebug = none := by kernel_rfl

set_option maxRecDepth 100000 in
theorem lifted (os : Os) (started : os.Started) (H : Type) (enc : TypeId × Value → H) :
    ReturnsInHanded {} Try.checked os 5 .any (Rows.fnSumsSpec.pre6 enc Try.prog Try.f5 Rows.fnSumsRow.domain false) (Rows.fnSumsSpec.post enc Try.prog Try.f5 false true false false) := by
  refine law_lifted (C := Try.checked) (tb := 4) [(.list (.int .u8))] own started (by kernel_rfl) Try.func5
    (ChangeSpec.witness6 (enc := enc) (C := Try.checked) false ⟨#[], #[.slice none 0 0], []⟩ 12 (by kernel_rfl) (by kernel_rfl) (by kernel_rfl) (by kernel_rfl)) rfl (by kernel_rfl) Try.underlying4 rfl
    (fun ds h => ?_) o_w_FnSums.2 (fun x hx => ⟨true, ?_, rfl⟩) (fun W => ⟨Nat.zero_le _, fun p hp => by cases hp⟩)
  · match ds, h with
    | [d0], _ => exact ⟨rfl, rfl, rfl⟩
  · exact law_Sums x hx

theorem over : Rows.fnSumsRow.holds Try.pinned (OpenSpec.ofChange Rows.fnSumsSpec) :=
  OpenClaim.holds_of_wide 5 Try.f5 rfl rfl rfl rfl rfl rfl rfl ⟨rfl, rfl, rfl, rfl, rfl⟩ rfl rfl rfl rfl rfl (by kernel_rfl) Try.func5 (by kernel_rfl)
    (of_decide_eq_true (by kernel_rfl)) (by unfold Func.isWrapper; first | (rw [if_pos (by decide +kernel)]; kernel_rfl) | (rw [if_neg (by decide +kernel)]; exact ⟨rfl, rfl⟩))
    (fun os started H enc _ => lifted os started H enc)

/-- The statement. -/
theorem proved : Rows.FnSumsSaid := over

end Go.Proofs.Ytilggmmanhinbaa.fnSums
