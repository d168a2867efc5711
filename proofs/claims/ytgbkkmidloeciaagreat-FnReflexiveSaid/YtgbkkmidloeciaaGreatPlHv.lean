/-
  Halves of a polygon's sides. Plain, no condition.
-/
import Derived.Test.YtgbkkmidloeciaaGreatPlMs
import Derived.Test.YtgbkkmidloeciaaGreatPlO
import Derived.Test.YtgbkkmidloeciaaGreatPlI
import Derived.Test.YtgbkkmidloeciaaGreatPlY
namespace Go.Proofs.YtgbkkmidloeciaaGreat
open Go Go.Proofs.YtgbkkmidloeciaaGreat.Eng Hull
set_option linter.unusedVariables false
set_option linter.unusedSimpArgs false
/-- The half at a side. -/
def sideH (P : List Pt) (k : Nat) : Hf := (em ((prm (sbp (at_ P ((k + 1) % P.length)) (at_ P k))).2, -(prm (sbp (at_ P ((k + 1) % P.length)) (at_ P k))).1), dt ((prm (sbp (at_ P ((k + 1) % P.length)) (at_ P k))).2, -(prm (sbp (at_ P ((k + 1) % P.length)) (at_ P k))).1) (at_ P k))
theorem prm_bd {m : Int} {d : Pt} (hd : Bd m d) : Bd m (prm d) := by
  have key : ∀ (x : Int) (g : Nat), -m ≤ x → x ≤ m → -m ≤ x.tdiv g ∧ x.tdiv g ≤ m := fun x g h1 h2 => by
    have h3 : (x.tdiv (g : Int)).natAbs ≤ x.natAbs := by rw [Int.natAbs_tdiv]; exact Nat.div_le_self _ _
    omega
  unfold Bd prm at *
  have a := key d.1 (Int.gcd d.1 d.2) hd.1 hd.2.1
  have b := key d.2 (Int.gcd d.1 d.2) hd.2.2.1 hd.2.2.2
  exact ⟨a.1, a.2, b.1, b.2⟩
theorem outward_eq {P : List Pt} (hB : ∀ q ∈ P, Bd 50 q) (g3 : 3 ≤ P.length) (g12 : P.length ≤ 12) (hp : Pol P) {k : Nat} (hk : k < P.length) : i_outward (P.map em) k = some (sideH P k).1 := by
  have hm : ∀ j, j % P.length < P.length := fun j => Nat.mod_lt _ (by omega)
  have bd : ∀ {j}, j < P.length → Bd 50 (at_ P j) := fun h => hB _ (at_mem h)
  have w1 : IntKind.i64.wrap ((k : Int) + 1) = ((k + 1 : Nat) : Int) := by rw [wrap_small (by omega) (by omega)]; omega
  have m1 := sbp_em (bd (hm (k + 1))) (bd hk)
  have n1 := (edge_ne hp hk).1
  unfold i_outward sideH
  simp only [List.length_map, w1]
  rw [remP (by omega)]
  simp only [Option.bind_some]
  rw [idxP (hm _), idxP hk]
  simp only [Option.bind_some, m1.1]
  generalize sbp (at_ P ((k + 1) % P.length)) (at_ P k) = d at *
  have hg := gcd_pos n1
  have hd := m1.2.2
  unfold Bd at hd
  have hsm : ∀ x ∈ em d, Sm x := fun x hx => by
    simp only [em, List.mem_cons, List.not_mem_nil, or_false] at hx
    unfold Sm
    rcases hx with rfl | rfl <;> omega
  rw [gcdAll_eq (v := em d) (by simp [em, lim_eq]) hsm]
  have hgl : gcdL (em d) = (Int.gcd d.1 d.2 : Int) := gcdL_two _ _
  rw [hgl]
  simp only [Option.bind_some]
  rw [show inIdx (em d).length (1 : Int) = some () from rfl, show inIdx (em d).length (0 : Int) = some () from rfl, show idx (em d) (((1 : Int).toNat : Nat) : Int) = some d.2 from rfl, show idx (em d) (((0 : Int).toNat : Nat) : Int) = some d.1 from rfl]
  simp only [Option.bind_some]
  unfold prm
  generalize Int.gcd d.1 d.2 = g at *
  rw [quo_some (a := d.2) (by omega) ⟨by omega, by omega⟩, wrap_small (x := 0 - d.1) (by omega) (by omega), quo_some (a := 0 - d.1) (by omega) ⟨by omega, by omega⟩]
  simp only [Option.bind_some, em]
  rw [Int.zero_sub, Int.neg_tdiv]
theorem side_spec {P : List Pt} (hB : ∀ q ∈ P, Bd 50 q) (g3 : 3 ≤ P.length) (hp : Pol P) {k : Nat} (hk : k < P.length) :
    Bd 1000 ((prm (sbp (at_ P ((k + 1) % P.length)) (at_ P k))).2, -(prm (sbp (at_ P ((k + 1) % P.length)) (at_ P k))).1) := by
  have hm : ∀ j, j % P.length < P.length := fun j => Nat.mod_lt _ (by omega)
  have := prm_bd (sbp_em (hB _ (at_mem (hm (k + 1)))) (hB _ (at_mem hk))).2.2
  unfold Bd at *
  simp only
  omega
end Go.Proofs.YtgbkkmidloeciaaGreat
