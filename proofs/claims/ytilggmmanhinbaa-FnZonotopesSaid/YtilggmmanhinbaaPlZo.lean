/-
  Zonotopes. Plain, no condition.
-/
import Derived.Test.YtilggmmanhinbaaPlSm
import Derived.Test.YtilggmmanhinbaaPlAg
import Derived.Test.YtilggmmanhinbaaPlK
namespace Go.Proofs.Ytilggmmanhinbaa
open Go Go.Proofs.Ytilggmmanhinbaa.Eng Hull
set_option linter.unusedVariables false
set_option linter.unusedSimpArgs false
/-- The sum of the vectors that the bits of 's' name, up to the k-th. -/
def vs (P : List Pt) (s : Nat) : Nat → Pt
  | 0 => (0, 0)
  | k + 1 => if s / 2 ^ k % 2 = 1 then addP (vs P s k) (at_ P k) else vs P s k
def zs (P : List Pt) (k : Nat) : List Pt := (List.range (2 ^ k)).map fun s => vs P s k
theorem vs_low (P : List Pt) {k j : Nat} (n : Nat) (hn : k ≤ n) : vs P (2 ^ n + j) k = vs P j k := by
  induction k with
  | zero => rfl
  | succ k ih =>
    have ih := ih (by omega)
    have e : (2 ^ n + j) / 2 ^ k % 2 = j / 2 ^ k % 2 := by
      have : 2 ^ n = 2 ^ k * (2 * 2 ^ (n - k - 1)) := by
        rw [← Nat.pow_succ', ← Nat.pow_add]
        congr 1; omega
      rw [this, Nat.mul_add_div (Nat.pos_of_ne_zero (by simp))]
      omega
    simp only [vs, e, ih]
theorem zs_succ (P : List Pt) (k : Nat) : zs P (k + 1) = zs P k ++ (zs P k).map fun q => addP q (at_ P k) := by
  unfold zs
  have e : 2 ^ (k + 1) = 2 ^ k + 2 ^ k := by rw [Nat.pow_succ]; omega
  rw [e, List.range_add, List.map_append, List.map_map, List.map_map]
  congr 1
  · refine List.map_congr_left fun s hs => ?_
    have hs := List.mem_range.1 hs
    have : s / 2 ^ k = 0 := Nat.div_eq_of_lt hs
    simp only [vs, this]
    rfl
  · refine List.map_congr_left fun s hs => ?_
    have hs := List.mem_range.1 hs
    have : (2 ^ k + s) / 2 ^ k = 1 := by
      rw [Nat.add_div_left _ (Nat.pos_of_ne_zero (by simp)), Nat.div_eq_of_lt hs]
    simp only [Function.comp, vs, this, vs_low P k (Nat.le_refl _)]
    rfl
theorem vs_bd {P : List Pt} (hB : ∀ q ∈ P, Bd 6 q) (s : Nat) : (k : Nat) → k ≤ P.length → Bd (6 * k) (vs P s k)
  | 0, _ => by simp [vs, Bd]
  | k + 1, hk => by
    have h := vs_bd hB s k (by omega)
    have hg := hB _ (at_mem (show k < P.length by omega))
    unfold vs
    unfold Bd at *
    split
    · simp only [addP]; omega
    · omega
theorem bits5 : ∀ s, s < 32 → ∀ i, i < 5 → ((shrI .i64 ((s : Nat) : Int) ((i : Nat) : Int)).bind fun v => some (andI .i64 v 1 == 1)) = some (decide (s / 2 ^ i % 2 = 1)) := by decide +kernel
theorem shl5 : ∀ n, n < 6 → shlI .i64 1 ((n : Nat) : Int) = some (((2 ^ n : Nat) : Int)) := by decide +kernel
theorem less_em2 {a g : Pt} (ha : Bd 1000 a) (hg : Bd 1000 g) : i_less (em a) (-1) (em g) = some ((), (em (addP a g), ())) := by
  have := less_eq [(a.1, g.1), (a.2, g.2)] (fun z => z.1) (fun z => z.2) (c := -1) (by simp) (fun z hz => by
    unfold Bd at ha hg
    simp only [List.mem_cons, List.not_mem_nil, or_false] at hz
    unfold Tn
    rcases hz with rfl | rfl <;> (simp only; omega)) (fun z hz => by
    unfold Bd at ha hg
    simp only [List.mem_cons, List.not_mem_nil, or_false] at hz
    unfold Tn
    rcases hz with rfl | rfl <;> (simp only; omega)) (by unfold Tn; omega)
  have e : em (addP a g) = [(a.1, g.1), (a.2, g.2)].map fun z => z.1 - -1 * z.2 := by
    simp only [em, addP, List.map_cons, List.map_nil]
    congr 1
    · omega
    · congr 1; omega
  rw [e]
  exact this
def zonoS (p : List (List Int)) : List (List Int) × Bool := if inR 2 5 p.length && p.all okG && decide (0 < detL p) then hullS ((zs (p.map toP) p.length).map em) else ([], false)
theorem zono_eq {p : List (List Int)} (hp : FitLL p) : s_ZonotopeOf p = some (zonoS p) ∧ i_ZonotopeOf p = some (zonoS p) := by
  unfold s_ZonotopeOf i_ZonotopeOf zonoS
  rw [s_AreGens_eq hp, i_AreGens_eq hp]
  simp only [Option.bind_some]
  cases hc : (inR 2 5 (p.length : Int) && p.all okG && decide (0 < detL p)) with
  | false => exact ⟨rfl, rfl⟩
  | true =>
    simp only [Bool.and_eq_true] at hc
    obtain ⟨⟨c1, c2⟩, _⟩ := hc
    rw [inR_iff] at c1
    have c3 : p.all (isPt 6) = true := List.all_eq_true.2 fun v hv => by
      have := List.all_eq_true.1 c2 v hv
      unfold okG at this
      simp only [Bool.and_eq_true] at this
      exact this.1
    obtain ⟨P, rfl, hB⟩ := pts_of c3
    rw [List.length_map] at c1
    simp only [Bool.not_true, cond_false, if_true, map_toP, List.length_map]
    have n5 : P.length ≤ 5 := by omega
    have hgb : ∀ {i : Nat}, i < P.length → Bd 1000 (at_ P i) := fun h => (hB _ (at_mem h)).mono (by decide)
    have hvb : ∀ (s : Nat) {k : Nat}, k ≤ P.length → Bd 1000 (vs P s k) := fun s {k} h => by
      have := vs_bd hB s k h
      unfold Bd at *
      omega
    have pw : ∀ {k : Nat}, k ≤ 5 → 2 ^ k ≤ 32 := fun {k} h => by
      have : 2 ^ k ≤ 2 ^ 5 := Nat.pow_le_pow_right (by decide) h
      simpa using this
    have zl : ∀ k, (zs P k).length = 2 ^ k := fun k => by simp [zs]
    have zg : ∀ {k i : Nat}, i < 2 ^ k → (zs P k)[i]? = some (vs P i k) := fun {k i} h => by simp [zs, h]
    have S := iter_up (step := s_ZonotopeOf_s5 (P.map em)) P.length (fun k => ((zs P k).map em, (k : Int))) ((zs P P.length).map em) (fun k hk => by
      have hpw := pw (k := k) (by omega)
      have I := iter_up (step := s_ZonotopeOf_s9 (P.map em) ((zs P k).map em, (k : Int))) (2 ^ k) (fun j => ((zs P k ++ ((zs P k).take j).map fun q => addP q (at_ P k)).map em, (j : Int))) ((zs P (k + 1)).map em) (fun j hj => by
        unfold s_ZonotopeOf_s9
        simp only
        have hg : (zs P k)[j]? = some (vs P j k) := zg hj
        have h1 : ((zs P k ++ ((zs P k).take j).map fun q => addP q (at_ P k)).map em)[j]? = some (em (vs P j k)) := by
          rw [List.getElem?_map, List.getElem?_append_left (by rw [zl]; exact hj), hg]; rfl
        have hlen : ((zs P k ++ ((zs P k).take j).map fun q => addP q (at_ P k)).map em).length = 2 ^ k + j := by
          rw [List.length_map, List.length_append, List.length_map, List.length_take, zl, Nat.min_eq_left (by omega)]
        rw [show decide ((j : Int) < (((zs P k).map em).length : Int)) = true from by rw [List.length_map, zl]; simp; exact_mod_cast hj, cond_true, hlen, inIdx_nat (by omega)]
        simp only [Option.bind_some, Int.toNat_natCast]
        rw [idx_some h1, idxP hk]
        simp only [Option.bind_some]
        rw [l2Add_em (hvb j (by omega)) (hgb hk)]
        simp only [Option.bind_some]
        rw [appD_some (by rw [hlen, lim_eq]; simp; omega) (by rw [hlen, lim_eq]; simp; omega), wrap_small (x := (j : Int) + 1) (by omega) (by omega), List.take_add_one, hg]
        simp only [Option.toList_some, List.map_append, List.map_cons, List.map_nil, List.append_assoc]
        rfl) (by
        unfold s_ZonotopeOf_s9
        simp only
        rw [show decide (((2 ^ k : Nat) : Int) < (((zs P k).map em).length : Int)) = false from by rw [List.length_map, zl]; simp, cond_false, List.take_of_length_le (by rw [zl]; exact Nat.le_refl _), zs_succ])
      unfold s_ZonotopeOf_s5
      simp only
      rw [show decide ((k : Int) < ((P.map em).length : Int)) = true from by simp; omega, cond_true]
      have e0 : ((zs P k).map em, (0 : Int)) = ((zs P k ++ ((zs P k).take 0).map fun q => addP q (at_ P k)).map em, ((0 : Nat) : Int)) := by simp
      rw [e0, I]
      simp only [Option.bind_some]
      rw [wrap_small (x := (k : Int) + 1) (by omega) (by omega)]
      rfl) (by
      unfold s_ZonotopeOf_s5
      simp)
    have hpn := pw n5
    have T := iter_up (step := i_ZonotopeOf_s5 (P.map em)) (2 ^ P.length) (fun s => (((List.range s).map fun t => vs P t P.length).map em, (s : Int))) ((zs P P.length).map em) (fun s hs => by
      have I := iter_up (step := i_ZonotopeOf_s9 (P.map em) (((List.range s).map fun t => vs P t P.length).map em, (s : Int))) P.length (fun i => (((List.range s).map fun t => vs P t P.length).map em, (em (vs P s i), (i : Int)))) (((List.range s).map fun t => vs P t P.length).map em, em (vs P s P.length)) (fun i hi => by
        have hb := bits5 s (by omega) i (by omega)
        obtain ⟨v, hv, hv2⟩ := Option.bind_eq_some_iff.1 hb
        simp only [Option.some.injEq] at hv2
        unfold i_ZonotopeOf_s9
        simp only
        rw [show decide ((i : Int) < ((P.map em).length : Int)) = true from by simp; omega, cond_true, idxP hi]
        simp only [Option.bind_some]
        rw [hv]
        simp only [Option.bind_some]
        rw [hv2, wrap_small (x := (i : Int) + 1) (by omega) (by omega)]
        by_cases hc : s / 2 ^ i % 2 = 1
        · rw [show decide (s / 2 ^ i % 2 = 1) = true from by simpa using hc, cond_true, less_em2 (hvb s (by omega)) (hgb hi)]
          simp only [Option.bind_some, vs, if_pos hc]
          rfl
        · rw [show decide (s / 2 ^ i % 2 = 1) = false from by simpa using hc, cond_false]
          simp only [vs, if_neg hc]
          rfl) (by
        unfold i_ZonotopeOf_s9
        simp)
      unfold i_ZonotopeOf_s5
      simp only [List.length_map]
      rw [shl5 P.length (by omega)]
      simp only [Option.bind_some]
      rw [show decide ((s : Int) < ((2 ^ P.length : Nat) : Int)) = true from decide_eq_true (by exact_mod_cast hs), cond_true]
      have e0 : ([(0 : Int), (0 : Int)], (0 : Int)) = (em (vs P s 0), ((0 : Nat) : Int)) := rfl
      rw [e0, I]
      simp only [Option.bind_some]
      rw [appD_some (by rw [lim_eq]; simp; omega) (by rw [lim_eq]; simp; omega), wrap_small (x := (s : Int) + 1) (by omega) (by omega), List.range_succ]
      simp only [Option.bind_some, List.map_append, List.map_cons, List.map_nil]
      rfl) (by
      unfold i_ZonotopeOf_s5
      simp only [List.length_map]
      rw [shl5 P.length (by omega)]
      simp only [Option.bind_some]
      rw [show decide (((2 ^ P.length : Nat) : Int) < ((2 ^ P.length : Nat) : Int)) = false from decide_eq_false (by omega)]
      rfl)
    have hlen : ((zs P P.length).map em).length ≤ lim := by rw [List.length_map, zl, lim_eq]; omega
    have heach : ∀ v ∈ (zs P P.length).map em, v.length ≤ lim := fun v hv => by
      obtain ⟨q, _, rfl⟩ := List.mem_map.1 hv
      simp [em, lim_eq]
    have e0 : ([([(0 : Int), (0 : Int)] : List Int)], (0 : Int)) = ((zs P 0).map em, ((0 : Nat) : Int)) := rfl
    have e1 : (([] : List (List Int)), (0 : Int)) = (((List.range 0).map fun t => vs P t P.length).map em, ((0 : Nat) : Int)) := rfl
    rw [e0, S, e1, T]
    simp only [Option.bind_some]
    rw [s_HullOf_eq hlen heach, i_HullOf_eq hlen heach]
    exact ⟨rfl, rfl⟩
end Go.Proofs.Ytilggmmanhinbaa
