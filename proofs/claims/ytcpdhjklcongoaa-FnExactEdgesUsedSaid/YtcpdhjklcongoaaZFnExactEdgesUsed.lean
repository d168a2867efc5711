/-
  The two programs count the same edges of the empty triangles, for every input. No condition.
-/
import Derived.Test.YtcpdhjklcongoaaRows
import Derived.Test.YtcpdhjklcongoaaPlEu
namespace Go.Proofs.Ytcpdhjklcongoaa.fnExactEdgesUsed
open Go Go.ChangeShapes Go.WideShapes Go.ChangeAt Go.RowKit Eng
set_option linter.unusedVariables false

theorem own : ownKnob Try.prog.godebug = none := by kernel_rfl

set_option maxRecDepth 100000 in
theorem lifted (os : Os) (started : os.Started) (H : Type) (enc : TypeId × Value → H) :
    ReturnsInHanded {} Try.checked os 3 .any (Rows.fnExactEdgesUsedSpec.pre6 enc Try.prog Try.f3 Rows.fnExactEdgesUsedRow.domain false) (Rows.fnExactEdgesUsedSpec.post enc Try.prog Try.f3 false true false false) := by
  refine law_lifted (C := Try.checked) (tb := 4) [(.list (.list (.int .i64)))] own started (by kernel_rfl) Try.func3
    (ChangeSpec.witness6 (enc := enc) (C := Try.checked) false ⟨#[], #[.slice none 0 0], []⟩ 12 (by kernel_rfl) (by kernel_rfl) (by kernel_rfl) (by kernel_rfl)) rfl (by kernel_rfl) Try.underlying4 rfl
    (fun ds h => ?_) (o_w_FnExactEdgesUsed : FnOk _ _ ∧ Ctr False _ _).2 (fun x hx => ⟨true, ?_, rfl⟩) (fun W => ⟨Nat.zero_le _, fun p hp => by cases hp⟩)
  · match ds, h with
    | [d0], _ => exact ⟨rfl, rfl, rfl⟩
  · exact law_EdgesUsed x hx

theorem over : Rows.fnExactEdgesUsedRow.holds Try.pinned (OpenSpec.ofChange Rows.fnExactEdgesUsedSpec) :=
  OpenClaim.holds_of_wide 3 Try.f3 rfl rfl rfl rfl rfl rfl rfl ⟨rfl, rfl, rfl, rfl, rfl⟩ rfl rfl rfl rfl rfl (by kernel_rfl) Try.func3 (by kernel_rfl)
    (of_decide_eq_true (by kernel_rfl)) (by unfold Func.isWrapper; first | (rw [if_pos (by decide +kernel)]; kernel_rfl) | (rw [if_neg (by decide +kernel)]; exact ⟨rfl, rfl⟩))
    (fun os started H enc _ => lifted os started H enc)

/-- The statement. -/
theorem proved : Rows.FnExactEdgesUsedSaid := over

end Go.Proofs.Ytcpdhjklcongoaa.fnExactEdgesUsed
