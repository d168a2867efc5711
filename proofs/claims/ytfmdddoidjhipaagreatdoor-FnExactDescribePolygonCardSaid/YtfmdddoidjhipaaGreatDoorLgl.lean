/-
  What the package-level variables give; strconv.Atoi as the program uses it. No condition.
-/
import Derived.Test.YtfmdddoidjhipaaGreatDoorLay
import Derived.Lib.LaidU8
import Derived.WalkKit
import Derived.BigCall
namespace Go.Proofs.YtfmdddoidjhipaaGreatDoor
open Go Go.Shelf Go.RowKit Go.Proofs.YtfmdddoidjhipaaGreatDoor.Eng
set_option linter.unusedVariables false
theorem g_pow10 : Tryz.prog.globalNamed "internal/strconv.uint64pow10" = some 0 := by kernel_rfl
theorem gl_pow10 : ∀ w, Gl w → Lib.TabIs Tryz.prog w "internal/strconv.uint64pow10" .u64 Lib.pow10Tab := fun w h => by
  obtain ⟨o, h1, t, fr, rfl⟩ := h.2 (0, fun o => ∃ t fr, o = .cells (Lib.pow10Tab.map fun z => Value.int .u64 z).toArray t fr) (by unfold glT; simp)
  unfold Lib.TabIs World.var?
  rw [g_pow10]
  simp only [Option.bind_some, h1]
end Go.Proofs.YtfmdddoidjhipaaGreatDoor
