/-
  The law FnTightened returns true for every input. No condition.
-/
import Derived.Test.YtednadbkcpcmfaaRows
import Derived.Test.YtednadbkcpcmfaaPlTt
namespace Go.Proofs.Ytednadbkcpcmfaa.fnTightened
open Go Go.ChangeShapes Go.WideShapes Go.ChangeAt Go.RowKit Eng
set_option linter.unusedVariables false

theorem own : ownKnob Try.prog.godebug = none := by kernel_rfl

set_option maxRecDepth 100000 in
theorem lifted (os : Os) (started : os.Started) (H : Type) (enc : TypeId × Value → H) :
    ReturnsInHanded {} Try.checked os 3 .any (Rows.fnTightenedSpec.pre6 enc Try.prog Try.f3 Rows.fnTightenedRow.domain false) (Rows.fnTightenedSpec.post enc Try.prog Try.f3 false true false false) := by
  refine law_lifted (C := Try.checked) (tb := 4) [(.list (.int .u8))] own started (by kernel_rfl) Try.func3
    (ChangeSpec.witness6 (enc := enc) (C := Try.checked) false ⟨#[], #[.slice none 0 0], []⟩ 12 (by kernel_rfl) (by kernel_rfl) (by kernel_rfl) (by kernel_rfl)) rfl (by kernel_rfl) Try.underlying4 rfl
    (fun ds h => ?_) (o_w_FnTightened : FnOk _ _ ∧ Ctr False _ _).2 (fun x hx => ⟨true, ?_, rfl⟩) (fun W => ⟨Nat.zero_le _, fun p hp => by cases hp⟩)
  · match ds, h with
    | [d0], _ => exact ⟨rfl, rfl, rfl⟩
  · exact law_Tightened x hx

theorem over : Rows.fnTightenedRow.holds Try.pinned (OpenSpec.ofChange Rows.fnTightenedSpec) :=
  OpenClaim.holds_of_wide 3 Try.f3 rfl rfl rfl rfl rfl rfl rfl ⟨rfl, rfl, rfl, rfl, rfl⟩ rfl rfl rfl rfl rfl (by kernel_rfl) Try.func3 (by kernel_rfl)
    (of_decide_eq_true (by kernel_rfl)) (by unfold Func.isWrapper; first | (rw [if_pos (by decide +kernel)]; kernel_rfl) | (rw [if_neg (by decide +kernel)]; exact ⟨rfl, rfl⟩))
    (fun os started H enc _ => lifted os started H enc)

/-- The statement. -/
theorem proved : Rows.FnTightenedSaid := over

end Go.Proofs.Ytednadbkcpcmfaa.fnTightened
