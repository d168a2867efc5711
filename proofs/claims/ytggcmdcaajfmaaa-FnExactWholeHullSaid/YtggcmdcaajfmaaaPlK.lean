/-
  Plain: vectors added and scaled. No condition.
-/
import Derived.Test.YtggcmdcaajfmaaaPlM
namespace Go.Proofs.Ytggcmdcaajfmaaa
open Go Go.Proofs.Ytggcmdcaajfmaaa.Eng
set_option linter.unusedVariables false
set_option linter.unusedSimpArgs false

section
variable {α : Type} (zs : List α)

theorem mix2_len (f g : α → Int) {k : Nat} (h : k ≤ zs.length) : ((zs.take k).map g ++ (zs.drop k).map f).length = zs.length := by simp; omega

theorem mix2_get (f g : α → Int) {k : Nat} {z : α} (h : zs[k]? = some z) : ((zs.take k).map g ++ (zs.drop k).map f)[k]? = some (f z) := by
  have hlt := len_lt h
  have hl : ((zs.take k).map g).length = k := by simp; omega
  rw [List.getElem?_append_right (by omega), hl, Nat.sub_self, List.getElem?_map, List.getElem?_drop, Nat.add_zero, h]
  rfl

theorem mix2_set (f g : α → Int) {k : Nat} {z : α} (h : zs[k]? = some z) : ((zs.take k).map g ++ (zs.drop k).map f).set k (g z) = (zs.take (k + 1)).map g ++ (zs.drop (k + 1)).map f := by
  have hlt := len_lt h
  have hl : ((zs.take k).map g).length = k := by simp; omega
  rw [List.set_append_right _ _ (by omega), hl, Nat.sub_self, List.drop_eq_getElem_cons hlt, List.map_cons, List.set_cons_zero, take_map_succ g h, List.append_assoc]
  rfl

end

end Go.Proofs.Ytggcmdcaajfmaaa
