/-
  The law FnHulls returns true for every input. No condition.
-/
import Derived.Test.YtfknaeamhcpfgaaGreatRows
import Derived.Test.YtfknaeamhcpfgaaGreatPlFl
namespace Go.Proofs.YtfknaeamhcpfgaaGreat.fnHulls
open Go Go.ChangeShapes Go.WideShapes Go.ChangeAt Go.RowKit Eng
set_option linter.unusedVariables false

theorem own : ownKnob Tryz.prog.godebug = none := by kernel_rfl

set_option maxRecDepth 100000 in
theorem lifted (os : Os) (started : os.Started) (H : Type) (enc : TypeId × Value → H) :
    ReturnsInHanded {} Tryz.checked os 3 .any (Rows.fnHullsSpec.pre6 enc Tryz.prog Tryz.f3 Rows.fnHullsRow.domain false) (Rows.fnHullsSpec.post enc Tryz.prog Tryz.f3 false true false false) := by
  refine law_lifted (C := Tryz.checked) (tb := 4) [(.list (.int .u8))] own started (by kernel_rfl) Tryz.func3
    (ChangeSpec.witness6 (enc := enc) (C := Tryz.checked) false ⟨#[], #[.slice none 0 0], []⟩ 12 (by kernel_rfl) (by kernel_rfl) (by kernel_rfl) (by kernel_rfl)) rfl (by kernel_rfl) Tryz.underlying4 rfl
    (fun ds h => ?_) (o_w_FnHulls : FnOk _ _ ∧ Ctr False _ _).2 (fun x hx => ⟨true, ?_, rfl⟩) (fun W => ⟨Nat.zero_le _, fun p hp => by cases hp⟩)
  · match ds, h with
    | [d0], _ => exact ⟨rfl, rfl, rfl⟩
  · exact law_Hulls x hx

theorem over : Rows.fnHullsRow.holds Tryz.pinned (OpenSpec.ofChange Rows.fnHullsSpec) :=
  OpenClaim.holds_of_wide 3 Tryz.f3 rfl rfl rfl rfl rfl rfl rfl ⟨rfl, rfl, rfl, rfl, rfl⟩ rfl rfl rfl rfl rfl (by kernel_rfl) Tryz.func3 (by kernel_rfl)
    (of_decide_eq_true (by kernel_rfl)) (by unfold Func.isWrapper; first | (rw [if_pos (by decide +kernel)]; kernel_rfl) | (rw [if_neg (by decide +kernel)]; exact ⟨rfl, rfl⟩))
    (fun os started H enc _ => lifted os started H enc)

/-- The statement. -/
theorem proved : Rows.FnHullsSaid := over

end Go.Proofs.YtfknaeamhcpfgaaGreat.fnHulls
