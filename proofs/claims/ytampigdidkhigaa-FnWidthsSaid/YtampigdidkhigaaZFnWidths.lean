/-
  The law FnWidths returns true for every input. No condition.
-/
import Derived.Test.YtampigdidkhigaaRows
import Derived.Test.YtampigdidkhigaaPlWl
namespace Go.Proofs.Ytampigdidkhigaa.fnWidths
open Go Go.ChangeShapes Go.WideShapes Go.ChangeAt Go.RowKit Eng
set_option linter.unusedVariables false

theorem own : ownKnob Try.prog.godebug = none := by kernel_rfl

set_option maxRecDepth 100000 in
theorem lifted (os : Os) (started : os.Started) (H : Type) (enc : TypeId × Value → H) :
    ReturnsInHanded {} Try.checked os 3 .any (Rows.fnWidthsSpec.pre6 enc Try.prog Try.f3 Rows.fnWidthsRow.domain false) (Rows.fnWidthsSpec.post enc Try.prog Try.f3 false true false false) := by
  refine law_lifted (C := Try.checked) (tb := 4) [(.list (.int .u8))] own started (by kernel_rfl) Try.func3
    (ChangeSpec.witness6 (enc := enc) (C := Try.checked) false ⟨#[], #[.slice none 0 0], []⟩ 12 (by kernel_rfl) (by kernel_rfl) (by kernel_rfl) (by kernel_rfl)) rfl (by kernel_rfl) Try.underlying4 rfl
    (fun ds h => ?_) o_w_FnWidths.2 (fun x hx => ⟨true, ?_, rfl⟩)
  · match ds, h with
    | [d0], _ => exact ⟨rfl, rfl, rfl⟩
  · exact law_Widths x hx

theorem over : Rows.fnWidthsRow.holds Try.pinned (OpenSpec.ofChange Rows.fnWidthsSpec) :=
  OpenClaim.holds_of_wide 3 Try.f3 rfl rfl rfl rfl rfl rfl rfl ⟨rfl, rfl, rfl, rfl, rfl⟩ rfl rfl rfl rfl rfl (by kernel_rfl) Try.func3 (by kernel_rfl)
    (of_decide_eq_true (by kernel_rfl)) (by unfold Func.isWrapper; first | (rw [if_pos (by decide +kernel)]; kernel_rfl) | (rw [if_neg (by decide +kernel)]; exact ⟨rfl, rfl⟩))
    (fun os started H enc _ => lifted os started H enc)

/-- The statement. -/
theorem proved : Rows.FnWidthsSaid := over

end Go.Proofs.Ytampigdidkhigaa.fnWidths
