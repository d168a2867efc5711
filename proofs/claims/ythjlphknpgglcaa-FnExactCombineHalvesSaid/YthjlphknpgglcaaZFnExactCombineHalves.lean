/-
  The law FnExactCombineHalves returns true for every input. No condition.
-/
import Derived.Test.YthjlphknpgglcaaRows
import Derived.Test.YthjlphknpgglcaaPlK
namespace Go.Proofs.Ythjlphknpgglcaa.fnExactCombineHalves
open Go Go.ChangeShapes Go.WideShapes Go.ChangeAt Go.RowKit Eng
set_option linter.unusedVariables false

theorem own : ownKnob Try.prog.godebug = none := by kernel_rfl

set_option maxRecDepth 100000 in
theorem lifted (os : Os) (started : os.Started) (H : Type) (enc : TypeId × Value → H) :
    ReturnsInHanded {} Try.checked os 13 .any (Rows.fnExactCombineHalvesSpec.pre6 enc Try.prog Try.f13 Rows.fnExactCombineHalvesRow.domain false) (Rows.fnExactCombineHalvesSpec.post enc Try.prog Try.f13 false true false false) := by
  refine law_lifted (C := Try.checked) (tb := 4) [(.prod (.list (.int .i64)) (.int .i64)), (.prod (.list (.int .i64)) (.int .i64)), (.int .i64), (.int .i64)] own started (by kernel_rfl) Try.func13
    (ChangeSpec.witness6 (enc := enc) (C := Try.checked) false ⟨#[], #[.agg #[.slice none 0 0, .int .i64 0], .agg #[.slice none 0 0, .int .i64 0], .int .i64 0, .int .i64 0], []⟩ 12 (by kernel_rfl) (by kernel_rfl) (by kernel_rfl) (by kernel_rfl)) rfl (by kernel_rfl) Try.underlying4 rfl
    (fun ds h => ?_) o_w_FnExactCombineHalves.2 (fun x hx => ⟨true, ?_, rfl⟩)
  · match ds, h with
    | [d0, d1, d2, d3], _ => exact ⟨rfl, rfl, rfl⟩
  · exact law_CombineHalves x.1 x.2.1 x.2.2.1 x.2.2.2 hx.1 hx.2.1 hx.2.2.1 hx.2.2.2

theorem over : Rows.fnExactCombineHalvesRow.holds Try.pinned (OpenSpec.ofChange Rows.fnExactCombineHalvesSpec) :=
  OpenClaim.holds_of_wide 13 Try.f13 rfl rfl rfl rfl rfl rfl rfl ⟨rfl, rfl, rfl, rfl, rfl⟩ rfl rfl rfl rfl rfl (by kernel_rfl) Try.func13 (by kernel_rfl)
    (of_decide_eq_true (by kernel_rfl)) (by unfold Func.isWrapper; first | (rw [if_pos (by decide +kernel)]; kernel_rfl) | (rw [if_neg (by decide +kernel)]; exact ⟨rfl, rfl⟩))
    (fun os started H enc _ => lifted os started H enc)

/-- The statement. -/
theorem proved : Rows.FnExactCombineHalvesSaid := over

end Go.Proofs.Ythjlphknpgglcaa.fnExactCombineHalves
