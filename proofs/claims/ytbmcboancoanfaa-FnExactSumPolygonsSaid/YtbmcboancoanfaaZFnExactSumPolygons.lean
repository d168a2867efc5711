/-
  The law FnExactSumPolygons returns true for every input. No condition.
-/
import Derived.Test.YtbmcboancoanfaaRows
import Derived.Test.YtbmcboancoanfaaPlSm
namespace Go.Proofs.Ytbmcboancoanfaa.fnExactSumPolygons
open Go Go.ChangeShapes Go.WideShapes Go.ChangeAt Go.RowKit Eng
set_option linter.unusedVariables false

theorem own : ownKnob Try.prog.godebug = none := by kernel_rfl

set_option maxRecDepth 100000 in
theorem lifted (os : Os) (started : os.Started) (H : Type) (enc : TypeId × Value → H) :
    ReturnsInHanded {} Try.checked os 6 .any (Rows.fnExactSumPolygonsSpec.pre6 enc Try.prog Try.f6 Rows.fnExactSumPolygonsRow.domain false) (Rows.fnExactSumPolygonsSpec.post enc Try.prog Try.f6 false true false false) := by
  refine law_lifted (C := Try.checked) (tb := 4) [(.list (.list (.int .i64))), (.list (.list (.int .i64)))] own started (by kernel_rfl) Try.func6
    (ChangeSpec.witness6 (enc := enc) (C := Try.checked) false ⟨#[], #[.slice none 0 0, .slice none 0 0], []⟩ 12 (by kernel_rfl) (by kernel_rfl) (by kernel_rfl) (by kernel_rfl)) rfl (by kernel_rfl) Try.underlying4 rfl
    (fun ds h => ?_) o_w_FnExactSumPolygons.2 (fun x hx => ⟨true, ?_, rfl⟩)
  · match ds, h with
    | [d0, d1], _ => exact ⟨rfl, rfl, rfl⟩
  · exact law_SumPolygons x.1 x.2 hx.1 hx.2

theorem over : Rows.fnExactSumPolygonsRow.holds Try.pinned (OpenSpec.ofChange Rows.fnExactSumPolygonsSpec) :=
  OpenClaim.holds_of_wide 6 Try.f6 rfl rfl rfl rfl rfl rfl rfl ⟨rfl, rfl, rfl, rfl, rfl⟩ rfl rfl rfl rfl rfl (by kernel_rfl) Try.func6 (by kernel_rfl)
    (of_decide_eq_true (by kernel_rfl)) (by unfold Func.isWrapper; first | (rw [if_pos (by decide +kernel)]; kernel_rfl) | (rw [if_neg (by decide +kernel)]; exact ⟨rfl, rfl⟩))
    (fun os started H enc _ => lifted os started H enc)

/-- The statement. -/
theorem proved : Rows.FnExactSumPolygonsSaid := over

end Go.Proofs.Ytbmcboancoanfaa.fnExactSumPolygons
