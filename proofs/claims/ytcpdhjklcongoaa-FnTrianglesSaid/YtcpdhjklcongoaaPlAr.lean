/-
  Plain: area and boundary count of a polygon are sums around it. No condition.
-/
import Derived.Test.YtcpdhjklcongoaaPlWt
import Derived.Test.YtcpdhjklcongoaaPlL
namespace Go.Proofs.Ytcpdhjklcongoaa
open Go Go.Proofs.Ytcpdhjklcongoaa.Eng
set_option linter.unusedVariables false
set_option linter.unusedSimpArgs false
open Hull (Pt Pol tn lx at_ at_some at_of at_mem)
theorem sumN_bd {f : Nat → Int} {M : Int} : ∀ (n : Nat), (∀ k, k < n → -M ≤ f k ∧ f k ≤ M) → -(M * n) ≤ sumN n f ∧ sumN n f ≤ M * n
  | 0, _ => by simp [sumN]
  | n + 1, h => by
    have ih := sumN_bd n fun k hk => h k (by omega)
    have hn := h n (by omega)
    have e : M * ((n + 1 : Nat) : Int) = M * n + M := by grind
    unfold sumN
    omega
theorem area_eq {P : List Pt} (hB : ∀ q ∈ P, Bd 50 q) (h0 : 0 < P.length) (hl : P.length ≤ 12) : s_l7Area (P.map em) = some (areaS P) := by
  have hn : ∀ k, (k + 1) % P.length < P.length := fun k => Nat.mod_lt _ h0
  have bd : ∀ k, k < P.length → -5000 ≤ crsP (at_ P k) (nx P k) ∧ crsP (at_ P k) (nx P k) ≤ 5000 := fun k hk => crs_bd (hB _ (at_mem hk)) (hB _ (at_mem (hn k)))
  have e := iter_up (step := s_l7Area_s3 (P.map em)) P.length (fun k => (sumN k fun k => crsP (at_ P k) (nx P k), (k : Int))) (areaS P) (fun k hk => by
    unfold s_l7Area_s3
    simp only
    have hr : remI .i64 (IntKind.i64.wrap ((k : Int) + 1)) ((P.map em).length : Int) = some (((k + 1) % P.length : Nat) : Int) := by
      rw [wrap_small (by omega) (by omega), List.length_map]
      exact remP (j := k + 1) (by omega)
    rw [show decide ((k : Int) < ((P.map em).length : Int)) = true from by simp; omega, cond_true, idxP hk, hr]
    simp only [Option.bind_some]
    rw [idxP (hn k)]
    simp only [Option.bind_some]
    rw [l7Cross_em (hB _ (at_mem hk)) (hB _ (at_mem (hn k)))]
    have b1 := sumN_bd (f := fun k => crsP (at_ P k) (nx P k)) (M := 5000) k fun j hj => bd j (by omega)
    have b2 := bd k hk
    have b3 : (at_ P k).1 * (at_ P ((k + 1) % P.length)).2 - (at_ P k).2 * (at_ P ((k + 1) % P.length)).1 = crsP (at_ P k) (nx P k) := rfl
    rw [b3]
    simp only [Option.bind_some]
    rw [wrap_small (by omega) (by omega), wrap_small (by omega) (by omega)]
    rfl) (by
    unfold s_l7Area_s3
    simp only [List.length_map]
    rw [show decide ((P.length : Int) < (P.length : Int)) = false from by simp, cond_false]
    rfl)
  unfold s_l7Area
  have e : iter (s_l7Area_s3 (P.map em)) (0, 0) = some (areaS P) := e
  rw [e]
  rfl
theorem gcdP_bd {a b : Pt} (ha : Bd 50 a) (hb : Bd 50 b) : -(1000 : Int) ≤ gcdP a b ∧ gcdP a b ≤ 1000 := by
  unfold gcdP Bd at *
  by_cases h : b.1 - a.1 = 0
  · rw [h, Int.zero_gcd]; omega
  · have h1 : (Int.gcd (b.1 - a.1) (b.2 - a.2) : Int) ∣ (b.1 - a.1) := Int.gcd_dvd_left ..
    have h2 := Int.natAbs_dvd_natAbs.2 h1
    have h3 := Nat.le_of_dvd (by omega) h2
    simp only [Int.natAbs_natCast] at h3
    omega
theorem side_eq {P : List Pt} (hB : ∀ q ∈ P, Bd 50 q) {k : Nat} (hk : k < P.length) (hl : P.length ≤ 12) : s_l7Side (P.map em) (k : Int) = some (gcdP (at_ P k) (nx P k)) := by
  have hn : (k + 1) % P.length < P.length := Nat.mod_lt _ (by omega)
  unfold s_l7Side
  have hr : remI .i64 (IntKind.i64.wrap ((k : Int) + 1)) ((P.map em).length : Int) = some (((k + 1) % P.length : Nat) : Int) := by
    rw [wrap_small (by omega) (by omega), List.length_map]
    exact remP (j := k + 1) (by omega)
  rw [hr]
  simp only [Option.bind_some]
  rw [idxP hn, idxP hk]
  simp only [Option.bind_some]
  have h1 := hB _ (at_mem hk)
  have h2 := hB _ (at_mem hn)
  rw [less_em (by decide) h2 h1]
  simp only [Option.bind_some]
  rw [l2All_eq (by rw [lim_eq]; simp) (fun x hx => by
    unfold Bd at h1 h2
    unfold Sm
    simp only [List.mem_cons, List.not_mem_nil, or_false] at hx
    rcases hx with rfl | rfl <;> omega), gcdL_two]
  rfl
theorem bnd_eq {P : List Pt} (hB : ∀ q ∈ P, Bd 50 q) (h0 : 0 < P.length) (hl : P.length ≤ 12) (hP : isPoly (P.map em) = true) : s_BoundaryCount (P.map em) = some (bndS P) := by
  have hn : ∀ k, (k + 1) % P.length < P.length := fun k => Nat.mod_lt _ h0
  have bd : ∀ k, k < P.length → -1000 ≤ gcdP (at_ P k) (nx P k) ∧ gcdP (at_ P k) (nx P k) ≤ 1000 := fun k hk => gcdP_bd (hB _ (at_mem hk)) (hB _ (at_mem (hn k)))
  have e := iter_up (step := s_BoundaryCount_s5 (P.map em)) P.length (fun k => (sumN k fun k => gcdP (at_ P k) (nx P k), (k : Int))) (bndS P) (fun k hk => by
    unfold s_BoundaryCount_s5
    simp only
    rw [show decide ((k : Int) < ((P.map em).length : Int)) = true from by simp; omega, cond_true, side_eq hB hk hl]
    have b1 := sumN_bd (f := fun k => gcdP (at_ P k) (nx P k)) (M := 1000) k fun j hj => bd j (by omega)
    have b2 := bd k hk
    simp only [Option.bind_some]
    rw [wrap_small (by omega) (by omega), wrap_small (by omega) (by omega)]
    rfl) (by
    unfold s_BoundaryCount_s5
    simp only [List.length_map]
    rw [show decide ((P.length : Int) < (P.length : Int)) = false from by simp, cond_false]
    rfl)
  unfold s_BoundaryCount
  rw [s_IsPolygon_eq (by rw [List.length_map, lim_eq]; omega) (fun v hv => by obtain ⟨q, _, rfl⟩ := List.mem_map.1 hv; simp [em, lim_eq]), hP]
  have e : iter (s_BoundaryCount_s5 (P.map em)) (0, 0) = some (bndS P) := e
  simp only [Option.bind_some, Bool.not_true, cond_false, e]
theorem area_bd {P : List Pt} (hB : ∀ q ∈ P, Bd 50 q) (h0 : 0 < P.length) (hl : P.length ≤ 12) : (-60000 ≤ areaS P ∧ areaS P ≤ 60000) ∧ -12000 ≤ bndS P ∧ bndS P ≤ 12000 := by
  have hn : ∀ k, (k + 1) % P.length < P.length := fun k => Nat.mod_lt _ h0
  have b1 := sumN_bd (f := fun k => crsP (at_ P k) (nx P k)) (M := 5000) P.length fun k hk => crs_bd (hB _ (at_mem hk)) (hB _ (at_mem (hn k)))
  have b2 := sumN_bd (f := fun k => gcdP (at_ P k) (nx P k)) (M := 1000) P.length fun k hk => gcdP_bd (hB _ (at_mem hk)) (hB _ (at_mem (hn k)))
  unfold areaS bndS
  omega
theorem inner_eq {P : List Pt} (hB : ∀ q ∈ P, Bd 50 q) (h0 : 0 < P.length) (hl : P.length ≤ 12) (hP : isPoly (P.map em) = true) : s_InnerCount (P.map em) = some (IntKind.i64.wrap ((areaS P - bndS P + 2).tdiv 2)) := by
  obtain ⟨b1, b2⟩ := area_bd hB h0 hl
  unfold s_InnerCount
  rw [s_IsPolygon_eq (by rw [List.length_map, lim_eq]; omega) (fun v hv => by obtain ⟨q, _, rfl⟩ := List.mem_map.1 hv; simp [em, lim_eq]), hP]
  simp only [Option.bind_some, Bool.not_true, cond_false, area_eq hB h0 hl, bnd_eq hB h0 hl hP]
  rw [wrap_small (x := areaS P - bndS P) (by omega) (by omega), wrap_small (by omega) (by omega)]
  unfold quoI
  rw [if_neg (by decide)]
  rfl
end Go.Proofs.Ytcpdhjklcongoaa
