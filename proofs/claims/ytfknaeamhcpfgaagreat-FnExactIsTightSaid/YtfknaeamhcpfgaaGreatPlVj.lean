/-
  Plain: vertices of regions by the program: points in lowest terms, the search. No condition.
-/
import Derived.Test.YtfknaeamhcpfgaaGreatPlVi
namespace Go.Proofs.YtfknaeamhcpfgaaGreat
open Go Go.Proofs.YtfknaeamhcpfgaaGreat.Eng
set_option linter.unusedVariables false
set_option linter.unusedSimpArgs false
/-! Common divisors. -/
theorem gv_dvd : ∀ (v : List Int) (g : Int), v.foldl (fun g x => (Int.gcd g x : Int)) g ∣ g ∧ ∀ x ∈ v, v.foldl (fun g x => (Int.gcd g x : Int)) g ∣ x
  | [], g => by simp
  | y :: v, g => by
    simp only [List.foldl_cons]
    obtain ⟨h1, h2⟩ := gv_dvd v (Int.gcd g y : Int)
    refine ⟨Int.dvd_trans h1 (Int.gcd_dvd_left ..), fun x hx => ?_⟩
    rcases List.mem_cons.1 hx with rfl | hx
    · exact Int.dvd_trans h1 (Int.gcd_dvd_right ..)
    · exact h2 x hx
theorem gvL_dvd {v : List Int} {x : Int} (h : x ∈ v) : gcdL v ∣ x := (gv_dvd v 0).2 x h
theorem gv_scale {c : Int} (hc : 0 ≤ c) : ∀ (v : List Int) (g : Int), (v.map (· * c)).foldl (fun g x => (Int.gcd g x : Int)) (g * c) = v.foldl (fun g x => (Int.gcd g x : Int)) g * c
  | [], g => rfl
  | y :: v, g => by
    simp only [List.map_cons, List.foldl_cons]
    have : ((Int.gcd (g * c) (y * c) : Nat) : Int) = (Int.gcd g y : Int) * c := by
      rw [Int.gcd_mul_right, Int.natCast_mul, Int.natAbs_of_nonneg hc]
    rw [this, gv_scale hc v]
theorem gvL_scale {c : Int} (hc : 0 ≤ c) (v : List Int) : gcdL (v.map (· * c)) = gcdL v * c := by
  have := gv_scale hc v 0
  rw [Int.zero_mul] at this
  exact this
theorem gv_neg : ∀ (v : List Int) (g : Int), (v.map fun x => x * (-1)).foldl (fun g x => (Int.gcd g x : Int)) g = v.foldl (fun g x => (Int.gcd g x : Int)) g
  | [], g => rfl
  | y :: v, g => by
    simp only [List.map_cons, List.foldl_cons]
    have : Int.gcd g (y * (-1)) = Int.gcd g y := by rw [Int.mul_neg, Int.mul_one, Int.gcd_neg]
    rw [this, gv_neg v]
theorem gvL_neg (v : List Int) : gcdL (v.map fun x => x * (-1)) = gcdL v := gv_neg v 0
/-- A divisor of all is a divisor of the greatest. -/
theorem gv_div {d : Int} : ∀ (v : List Int) (g : Int), d ∣ g → (∀ x ∈ v, d ∣ x) → d ∣ v.foldl (fun g x => (Int.gcd g x : Int)) g
  | [], g, h, _ => h
  | y :: v, g, h, hv => gv_div v _ (Int.dvd_coe_gcd h (hv y (by simp))) fun x hx => hv x (List.mem_cons_of_mem _ hx)
/-! Points in lowest terms. -/
def redL (N : List Int) (d : Int) : Ra :=
  if d < 0 then (N.map fun x => x.tdiv (-(Int.gcd (gcdL N) d : Int)), d.tdiv (-(Int.gcd (gcdL N) d : Int))) else (N.map fun x => x.tdiv (Int.gcd (gcdL N) d : Int), d.tdiv (Int.gcd (gcdL N) d : Int))
theorem gcd_ne {a d : Int} (h : d ≠ 0) : ((Int.gcd a d : Nat) : Int) ≠ 0 := fun he => h (Int.eq_zero_of_gcd_eq_zero_right (a := a) (b := d) (by omega))
theorem red6 {N : List Int} {d g e : Int} (hl : N.length ≤ 3) (hN : ∀ x ∈ N, -1000000000 ≤ x ∧ x ≤ 1000000000) (hg : g ≠ 0) (hgb : -1000000000 ≤ g ∧ g ≤ 1000000000) {z : List Int × Int} :
    iter (i_reducedPoint_s6 (N, d) g) (z, (([], e), 0)) = some (z, (N.map fun x => x.tdiv (-g), e)) := by
  have := iter_up (step := i_reducedPoint_s6 (N, d) g) N.length (fun k => (z, ((((N.take k).map fun x => x.tdiv (-g)), e), (k : Int)))) (z, (N.map fun x => x.tdiv (-g), e)) (fun k hk => by
    have hx : N[k]? = some N[k] := List.getElem?_eq_getElem hk
    unfold i_reducedPoint_s6
    simp only
    rw [show decide ((k : Int) < (N.length : Int)) = true from by simp; omega, cond_true, idx_some hx, Option.bind_some, wrap_small (x := 0 - g) (by omega) (by omega), show (0 : Int) - g = -g from by omega, quoI_some (by omega) (hN _ (List.getElem_mem hk)), Option.bind_some, appD_some (by rw [lim_eq]; simp; omega) (by rw [lim_eq]; simp; omega), Option.bind_some, wrap_small (by omega) (by omega), take_map1 _ hx]
    rfl) (by
    unfold i_reducedPoint_s6
    simp)
  simpa using this
theorem red13 {N : List Int} {d g e : Int} (hl : N.length ≤ 3) (hN : ∀ x ∈ N, -1000000000 ≤ x ∧ x ≤ 1000000000) (hg : g ≠ 0) {z : List Int × Int} :
    iter (i_reducedPoint_s6b13 (N, d) g) (z, (([], e), 0)) = some (z, (N.map fun x => x.tdiv g, e)) := by
  have := iter_up (step := i_reducedPoint_s6b13 (N, d) g) N.length (fun k => (z, ((((N.take k).map fun x => x.tdiv g), e), (k : Int)))) (z, (N.map fun x => x.tdiv g, e)) (fun k hk => by
    have hx : N[k]? = some N[k] := List.getElem?_eq_getElem hk
    unfold i_reducedPoint_s6b13
    simp only
    rw [show decide ((k : Int) < (N.length : Int)) = true from by simp; omega, cond_true, idx_some hx, Option.bind_some, quoI_some hg (hN _ (List.getElem_mem hk)), Option.bind_some, appD_some (by rw [lim_eq]; simp; omega) (by rw [lim_eq]; simp; omega), Option.bind_some, wrap_small (by omega) (by omega), take_map1 _ hx]
    rfl) (by
    unfold i_reducedPoint_s6b13
    simp)
  simpa using this
theorem reduced_eq {N : List Int} {d : Int} (hl : N.length ≤ 3) (hN : ∀ x ∈ N, -48000000 ≤ x ∧ x ≤ 48000000) (hd : d ≠ 0) (hdb : -48000000 ≤ d ∧ d ≤ 48000000) : i_reducedPoint (N, d) = some (redL N d) := by
  have hsm : ∀ x ∈ N, Sm x := fun x hx => by have := hN x hx; unfold Sm; omega
  have hg := gcd_ne (a := gcdL N) hd
  have hgs : (0 : Int) ≤ (Int.gcd (gcdL N) d : Nat) ∧ ((Int.gcd (gcdL N) d : Nat) : Int) ≤ 48000000 := by
    have := Int.gcd_le_natAbs_right (gcdL N) hd
    omega
  unfold i_reducedPoint
  simp only
  rw [gcdAll_eq (Nat.le_trans hl (by decide)) hsm, Option.bind_some, divisor_eq (gcdL_small N hsm) (by unfold Sm; omega), Option.bind_some]
  unfold redL
  generalize ((Int.gcd (gcdL N) d : Nat) : Int) = g at hg hgs
  by_cases hneg : d < 0
  · rw [if_pos hneg, decide_eq_true hneg, cond_true, wrap_small (x := 0 - g) (by omega) (by omega), show (0 : Int) - g = -g from by omega, quoI_some (by omega) (by omega), Option.bind_some, red6 hl (fun x hx => by have := hN x hx; omega) hg (by omega)]
    rfl
  · rw [if_neg hneg, decide_eq_false hneg, cond_false, quoI_some hg (by omega), Option.bind_some, red13 hl (fun x hx => by have := hN x hx; omega) hg]
    rfl
theorem solve_red {X : List Hf} {n : Nat} (h0 : det (normals X) ≠ 0) : solveL X n = (redL (numsL X n) (det (normals X)), true) := by
  unfold solveL redL
  rw [if_neg h0]
  split
  · simp only
    rw [gvL_neg, Int.gcd_neg, List.map_map]
    congr 2
    · refine List.map_congr_left fun x hx => ?_
      simp only [Function.comp_apply]
      rw [Int.tdiv_neg, show x * (-1) = -x from by omega, Int.neg_tdiv]
    · rw [Int.tdiv_neg, Int.neg_tdiv]
  · rfl
/-- In lowest terms. -/
structure RedR (p : Ra) : Prop where
  den : 0 < p.2
  gcd : Int.gcd (gcdL p.1) p.2 = 1
theorem red_ok {N : List Int} {d : Int} (hd : d ≠ 0) : RedR (redL N d) ∧ (redL N d).2 ≤ d.natAbs ∧ (redL N d).1.length = N.length ∧ ∀ x ∈ (redL N d).1, ∃ y ∈ N, x.natAbs ≤ y.natAbs := by
  have hg := gcd_ne (a := gcdL N) hd
  have hgn : (0 : Int) ≤ (Int.gcd (gcdL N) d : Nat) := Int.natCast_nonneg _
  have hgl : ((Int.gcd (gcdL N) d : Nat) : Int) ∣ gcdL N := Int.gcd_dvd_left ..
  have hgr : ((Int.gcd (gcdL N) d : Nat) : Int) ∣ d := Int.gcd_dvd_right ..
  have hgx : ∀ x ∈ N, ((Int.gcd (gcdL N) d : Nat) : Int) ∣ x := fun x hx => Int.dvd_trans hgl (gvL_dvd hx)
  -- the positive case
  have key : ∀ e : Int, (e = d ∨ e = -d) → 0 < e → ∀ M : List Int, (M = N ∨ M = N.map fun x => x * (-1)) → RedR (M.map fun x => x.tdiv (Int.gcd (gcdL N) d : Nat), e.tdiv (Int.gcd (gcdL N) d : Nat)) := by
    intro e he hpos M hM
    have hge : Int.gcd (gcdL M) e = Int.gcd (gcdL N) d := by
      have h1 : gcdL M = gcdL N := by
        rcases hM with rfl | rfl
        · rfl
        · exact gvL_neg N
      rcases he with rfl | rfl
      · rw [h1]
      · rw [h1, Int.gcd_neg]
    have hdve : ((Int.gcd (gcdL N) d : Nat) : Int) ∣ e := by
      rcases he with rfl | rfl
      · exact hgr
      · exact (Int.dvd_neg).2 hgr
    have hdvx : ∀ x ∈ M, ((Int.gcd (gcdL N) d : Nat) : Int) ∣ x := fun x hx => by
      rcases hM with rfl | rfl
      · exact hgx x hx
      · obtain ⟨y, hy, rfl⟩ := List.mem_map.1 hx
        exact Int.dvd_mul_of_dvd_left (hgx y hy)
    have hge' : ((Int.gcd (gcdL M) e : Nat) : Int) = (Int.gcd (gcdL N) d : Nat) := by rw [hge]
    generalize ((Int.gcd (gcdL N) d : Nat) : Int) = g at *
    have hgp : 0 < g := by omega
    have hback : (M.map fun x => x.tdiv g).map (· * g) = M := by
      rw [List.map_map]
      conv => rhs; rw [← List.map_id M]
      exact List.map_congr_left fun x hx => Int.tdiv_mul_cancel (hdvx x hx)
    have h1 := gvL_scale (Int.le_of_lt hgp) (M.map fun x => x.tdiv g)
    rw [hback] at h1
    have h2 : e.tdiv g * g = e := Int.tdiv_mul_cancel hdve
    refine ⟨?_, ?_⟩
    · show 0 < e.tdiv g
      rcases Int.lt_or_le 0 (e.tdiv g) with h | h
      · exact h
      · have := Int.mul_le_mul_of_nonneg_right h (Int.le_of_lt hgp)
        omega
    · show Int.gcd (gcdL (M.map fun x => x.tdiv g)) (e.tdiv g) = 1
      have h3 : Int.gcd (gcdL M) e = Int.gcd (gcdL (M.map fun x => x.tdiv g)) (e.tdiv g) * g.natAbs := by
        conv => lhs; rw [h1, ← h2]
        rw [Int.gcd_mul_right]
      have h4 : ((Int.gcd (gcdL M) e : Nat) : Int) = g := hge'
      have h5 : Int.gcd (gcdL M) e = g.natAbs := by omega
      rw [h5] at h3
      have h6 : 1 * g.natAbs = Int.gcd (gcdL (M.map fun x => x.tdiv g)) (e.tdiv g) * g.natAbs := by rw [Nat.one_mul]; exact h3
      exact (Nat.eq_of_mul_eq_mul_right (by omega) h6).symm
  have hab : ∀ x g : Int, (x.tdiv g).natAbs ≤ x.natAbs := fun x g => by rw [Int.natAbs_tdiv]; exact Nat.div_le_self _ _
  unfold redL
  by_cases hneg : d < 0
  · rw [if_pos hneg]
    have e1 : (N.map fun x => x.tdiv (-((Int.gcd (gcdL N) d : Nat) : Int))) = (N.map fun x => x * (-1)).map fun x => x.tdiv ((Int.gcd (gcdL N) d : Nat) : Int) := by
      rw [List.map_map]
      refine List.map_congr_left fun x hx => ?_
      simp only [Function.comp_apply]
      rw [Int.tdiv_neg, show x * (-1) = -x from by omega, Int.neg_tdiv]
    have e2 : d.tdiv (-((Int.gcd (gcdL N) d : Nat) : Int)) = (-d).tdiv ((Int.gcd (gcdL N) d : Nat) : Int) := by rw [Int.tdiv_neg, Int.neg_tdiv]
    refine ⟨by rw [e1, e2]; exact key (-d) (.inr rfl) (by omega) _ (.inr rfl), ?_, by simp, fun x hx => ?_⟩
    · have := hab d (-((Int.gcd (gcdL N) d : Nat) : Int))
      show d.tdiv _ ≤ _
      omega
    · obtain ⟨y, hy, rfl⟩ := List.mem_map.1 hx
      exact ⟨y, hy, hab _ _⟩
  · rw [if_neg hneg]
    refine ⟨key d (.inl rfl) (by omega) N (.inl rfl), ?_, by simp, fun x hx => ?_⟩
    · have := hab d ((Int.gcd (gcdL N) d : Nat) : Int)
      show d.tdiv _ ≤ _
      omega
    · obtain ⟨y, hy, rfl⟩ := List.mem_map.1 hx
      exact ⟨y, hy, hab _ _⟩
/-- Two points in lowest terms that are the same point. -/
theorem red_same {p q : Ra} (hp : RedR p) (hq : RedR q) (hl : p.1.length = q.1.length) (h : cmpR p q = 0) : p = q := by
  have hx : ∀ (xs ys : List Int) (d e : Int), xs.length = ys.length → cmpL xs ys d e = 0 → ∀ (i : Nat) (x y : Int), xs[i]? = some x → ys[i]? = some y → x * e = y * d := by
    intro xs
    induction xs with
    | nil => intro ys d e _ _ i x y hx; simp at hx
    | cons a xs ih =>
      intro ys d e hl h i x y hx hy
      cases ys with
      | nil => simp at hl
      | cons b ys =>
        unfold cmpL at h
        by_cases hab : a * e = b * d
        · rw [if_pos hab] at h
          cases i with
          | zero => simp at hx hy; subst hx hy; exact hab
          | succ i => exact ih ys d e (by simpa using hl) h i x y (by simpa using hx) (by simpa using hy)
        · rw [if_neg hab] at h
          split at h <;> omega
  have hxy := hx p.1 q.1 p.2 q.2 hl h
  have half : ∀ (u v : Ra), RedR u → RedR v → u.1.length = v.1.length → (∀ (i : Nat) (x y : Int), u.1[i]? = some x → v.1[i]? = some y → x * v.2 = y * u.2) → u.2 ∣ v.2 := by
    intro u v hu hv hl hxy
    have h1 : u.2 ∣ gcdL (u.1.map (· * v.2)) := by
      refine gv_div _ 0 (Int.dvd_zero _) fun z hz => ?_
      obtain ⟨x, hx, rfl⟩ := List.mem_map.1 hz
      obtain ⟨i, hi, rfl⟩ := List.getElem_of_mem hx
      have := hxy i _ _ (List.getElem?_eq_getElem hi) (List.getElem?_eq_getElem (by omega))
      rw [this]
      exact Int.dvd_mul_left ..
    rw [gvL_scale (Int.le_of_lt hv.den)] at h1
    have h2 := Int.dvd_gcd_mul_iff_dvd_mul.2 h1
    rw [Int.gcd_comm, hu.gcd] at h2
    simpa using h2
  have d1 := half p q hp hq hl hxy
  have d2 := half q p hq hp hl.symm fun i x y hx hy => (hxy i y x hy hx).symm
  have hd : p.2 = q.2 := Int.dvd_antisymm (Int.le_of_lt hp.den) (Int.le_of_lt hq.den) d1 d2
  have hn : p.1 = q.1 := by
    refine List.ext_getElem hl fun i h1 h2 => ?_
    have := hxy i _ _ (List.getElem?_eq_getElem h1) (List.getElem?_eq_getElem h2)
    rw [hd] at this
    exact Int.eq_of_mul_eq_mul_right (by have := hq.den; omega) this
  exact Prod.ext hn hd
/-! Bounds. -/
theorem mul3_bd {x y z p q r : Int} (hp : 0 ≤ p) (hq : 0 ≤ q) (hr : 0 ≤ r) (hx : -p ≤ x ∧ x ≤ p) (hy : -q ≤ y ∧ y ≤ q) (hz : -r ≤ z ∧ z ≤ r) : -(p * (q * r)) ≤ x * (y * z) ∧ x * (y * z) ≤ p * (q * r) := by
  have h1 := abs_mul_le hy.1 hy.2 hz.1 hz.2
  exact abs_mul_le hx.1 hx.2 h1.1 h1.2
/-- A square whose column 'c' may be up to 200, the others up to 20. -/
theorem det_bd {n : Nat} (h1 : 1 ≤ n) (h3 : n ≤ 3) {M : List (List Int)} (hr : M.length = n) (hc : ∀ r ∈ M, r.length = n) {c : Nat} (hM : ∀ r ∈ M, ∀ (j : Nat) (x : Int), r[j]? = some x → -200 ≤ x ∧ x ≤ 200 ∧ (j ≠ c → -20 ≤ x ∧ x ≤ 20)) :
    -480000 ≤ det M ∧ det M ≤ 480000 := by
  have : n = 1 ∨ n = 2 ∨ n = 3 := by omega
  rcases this with rfl | rfl | rfl
  · match M, hr with
    | [r], _ =>
      obtain ⟨a, rfl⟩ := row_one (hc r (by simp))
      have := hM [a] (by simp) 0 a rfl
      show -480000 ≤ a ∧ a ≤ 480000
      omega
  · match M, hr with
    | [r, s], _ =>
      obtain ⟨a, b, rfl⟩ := row_two (hc r (by simp))
      obtain ⟨d, e, rfl⟩ := row_two (hc s (by simp))
      have ha := hM [a, b] (by simp) 0 a rfl
      have hb := hM [a, b] (by simp) 1 b rfl
      have hd := hM [d, e] (by simp) 0 d rfl
      have he := hM [d, e] (by simp) 1 e rfl
      have q1 := abs_mul_le (a := a) (b := e) (m := 200) (n := 200) (by omega) (by omega) (by omega) (by omega)
      have q2 := abs_mul_le (a := b) (b := d) (m := 200) (n := 200) (by omega) (by omega) (by omega) (by omega)
      show -480000 ≤ a * e - b * d ∧ a * e - b * d ≤ 480000
      omega
  · match M, hr with
    | [r, s, t], _ =>
      obtain ⟨a, b, d, rfl⟩ := row_three (hc r (by simp))
      obtain ⟨e, f, g, rfl⟩ := row_three (hc s (by simp))
      obtain ⟨h, i, j, rfl⟩ := row_three (hc t (by simp))
      have ha := hM [a, b, d] (by simp) 0 a rfl
      have hb := hM [a, b, d] (by simp) 1 b rfl
      have hd := hM [a, b, d] (by simp) 2 d rfl
      have he := hM [e, f, g] (by simp) 0 e rfl
      have hf := hM [e, f, g] (by simp) 1 f rfl
      have hg := hM [e, f, g] (by simp) 2 g rfl
      have hh := hM [h, i, j] (by simp) 0 h rfl
      have hi := hM [h, i, j] (by simp) 1 i rfl
      have hj := hM [h, i, j] (by simp) 2 j rfl
      -- one from each column
      have key : ∀ x y z : Int, (-200 ≤ x ∧ x ≤ 200 ∧ (0 ≠ c → -20 ≤ x ∧ x ≤ 20)) → (-200 ≤ y ∧ y ≤ 200 ∧ (1 ≠ c → -20 ≤ y ∧ y ≤ 20)) → (-200 ≤ z ∧ z ≤ 200 ∧ (2 ≠ c → -20 ≤ z ∧ z ≤ 20)) → -80000 ≤ x * (y * z) ∧ x * (y * z) ≤ 80000 := by
        intro x y z hx hy hz
        by_cases c0 : 0 = c
        · have := mul3_bd (p := 200) (q := 20) (r := 20) (by omega) (by omega) (by omega) ⟨hx.1, hx.2.1⟩ (hy.2.2 (by omega)) (hz.2.2 (by omega))
          omega
        · by_cases c1 : 1 = c
          · have := mul3_bd (p := 20) (q := 200) (r := 20) (by omega) (by omega) (by omega) (hx.2.2 c0) ⟨hy.1, hy.2.1⟩ (hz.2.2 (by omega))
            omega
          · have := mul3_bd (p := 20) (q := 20) (r := 200) (by omega) (by omega) (by omega) (hx.2.2 c0) (hy.2.2 c1) ⟨hz.1, hz.2.1⟩
            omega
      have k1 := key a f j ha hf hj
      have k2 := key a i g ha hi hg
      have k3 := key h b g hh hb hg
      have k4 := key e b j he hb hj
      have k5 := key e i d he hi hd
      have k6 := key h f d hh hf hd
      have e0 : det [[a, b, d], [e, f, g], [h, i, j]] = a * (f * j - g * i) + b * (g * h - e * j) + d * (e * i - f * h) := rfl
      have e1 : det [[a, b, d], [e, f, g], [h, i, j]] = a * (f * j) - a * (i * g) + h * (b * g) - e * (b * j) + e * (i * d) - h * (f * d) := by rw [e0]; grind
      omega
theorem det_bd0 {n : Nat} (h1 : 1 ≤ n) (h3 : n ≤ 3) {M : List (List Int)} (hr : M.length = n) (hc : ∀ r ∈ M, r.length = n) (hM : ∀ r ∈ M, ∀ x ∈ r, -20 ≤ x ∧ x ≤ 20) : -48000 ≤ det M ∧ det M ≤ 48000 := by
  have : n = 1 ∨ n = 2 ∨ n = 3 := by omega
  rcases this with rfl | rfl | rfl
  · match M, hr with
    | [r], _ =>
      obtain ⟨a, rfl⟩ := row_one (hc r (by simp))
      have := hM [a] (by simp) a (by simp)
      show -48000 ≤ a ∧ a ≤ 48000
      omega
  · match M, hr with
    | [r, s], _ =>
      obtain ⟨a, b, rfl⟩ := row_two (hc r (by simp))
      obtain ⟨d, e, rfl⟩ := row_two (hc s (by simp))
      have ha := hM [a, b] (by simp) a (by simp)
      have hb := hM [a, b] (by simp) b (by simp)
      have hd := hM [d, e] (by simp) d (by simp)
      have he := hM [d, e] (by simp) e (by simp)
      have q1 := abs_mul_le (a := a) (b := e) (m := 20) (n := 20) (by omega) (by omega) (by omega) (by omega)
      have q2 := abs_mul_le (a := b) (b := d) (m := 20) (n := 20) (by omega) (by omega) (by omega) (by omega)
      show -48000 ≤ a * e - b * d ∧ a * e - b * d ≤ 48000
      omega
  · match M, hr with
    | [r, s, t], _ =>
      obtain ⟨a, b, d, rfl⟩ := row_three (hc r (by simp))
      obtain ⟨e, f, g, rfl⟩ := row_three (hc s (by simp))
      obtain ⟨h, i, j, rfl⟩ := row_three (hc t (by simp))
      have ha := hM [a, b, d] (by simp) a (by simp)
      have hb := hM [a, b, d] (by simp) b (by simp)
      have hd := hM [a, b, d] (by simp) d (by simp)
      have he := hM [e, f, g] (by simp) e (by simp)
      have hf := hM [e, f, g] (by simp) f (by simp)
      have hg := hM [e, f, g] (by simp) g (by simp)
      have hh := hM [h, i, j] (by simp) h (by simp)
      have hi := hM [h, i, j] (by simp) i (by simp)
      have hj := hM [h, i, j] (by simp) j (by simp)
      have key : ∀ x y z : Int, (-20 ≤ x ∧ x ≤ 20) → (-20 ≤ y ∧ y ≤ 20) → (-20 ≤ z ∧ z ≤ 20) → -8000 ≤ x * (y * z) ∧ x * (y * z) ≤ 8000 := by
        intro x y z hx hy hz
        have := mul3_bd (p := 20) (q := 20) (r := 20) (by omega) (by omega) (by omega) hx hy hz
        omega
      have k1 := key a f j ha hf hj
      have k2 := key a i g ha hi hg
      have k3 := key h b g hh hb hg
      have k4 := key e b j he hb hj
      have k5 := key e i d he hi hd
      have k6 := key h f d hh hf hd
      have e0 : det [[a, b, d], [e, f, g], [h, i, j]] = a * (f * j - g * i) + b * (g * h - e * j) + d * (e * i - f * h) := rfl
      have e1 : det [[a, b, d], [e, f, g], [h, i, j]] = a * (f * j) - a * (i * g) + h * (b * g) - e * (b * j) + e * (i * d) - h * (f * d) := by rw [e0]; grind
      omega
/-- A point that halves of a region meet in. -/
theorem solve_fine {r : Rg} {n : Nat} (h : RegOk r n) {X : List Hf} (hl : X.length = n) (hX : ∀ x ∈ X, x ∈ r.2) (h0 : det (normals X) ≠ 0) : FineR n (redL (numsL X n) (det (normals X))) ∧ RedR (redL (numsL X n) (det (normals X))) := by
  obtain ⟨r1, r2, r3, r4⟩ := red_ok (N := numsL X n) h0
  have hnl : (numsL X n).length = n := by simp [numsL]
  have hq : ∀ x ∈ X, x.1.length = n ∧ (∀ y ∈ x.1, -20 ≤ y ∧ y ≤ 20) ∧ -200 ≤ x.2 ∧ x.2 ≤ 200 := fun x hx => by
    obtain ⟨a, b, c, d, _⟩ := h.halves x (hX x hx)
    exact ⟨a, b, c, d⟩
  have hdet := det_bd0 h.lo h.hi (M := normals X) (by simp [normals, hl]) (fun q hq' => by
    obtain ⟨x, hx, rfl⟩ := List.mem_map.1 hq'
    exact (hq x hx).1) (fun q hq' => by
    obtain ⟨x, hx, rfl⟩ := List.mem_map.1 hq'
    exact (hq x hx).2.1)
  refine ⟨⟨by rw [r3, hnl], ⟨by have := r1.den; omega, by omega⟩, fun x hx => ?_⟩, r1⟩
  obtain ⟨y, hy, hxy⟩ := r4 x hx
  obtain ⟨c, hc, rfl⟩ := List.mem_map.1 hy
  have := det_bd h.lo h.hi (M := swapC X c) (c := c) (by simp [swapC, hl]) (fun q hq' => by
    obtain ⟨x, hx, rfl⟩ := List.mem_map.1 hq'
    simpa using (hq x hx).1) (fun q hq' j z hz => by
    obtain ⟨x, hx, rfl⟩ := List.mem_map.1 hq'
    obtain ⟨_, b, c1, c2⟩ := hq x hx
    rw [List.getElem?_set] at hz
    by_cases hcj : c = j
    · subst hcj
      simp only [if_true] at hz
      split at hz
      · simp only [Option.some.injEq] at hz; subst hz
        exact ⟨c1, c2, fun hne => absurd rfl hne⟩
      · cases hz
    · rw [if_neg hcj] at hz
      have := b z (List.mem_of_getElem? hz)
      exact ⟨by omega, by omega, fun _ => this⟩)
  omega
/-! The search. -/
theorem hasFr_eq {r : Rg} {n : Nat} (hr : regB r = true) (h : RegOk r n) {p : Ra} (hp : FineR n p) : i_hasFraction r p = some (hasRat r p) :=
  hasFrac_eq (r := r) (p := p) hr hp.rat (by rw [hp.len, h.dim]; simp)
def ptsI (r : Rg) (n : Nat) (X : List Hf) : Option Ra := if (solveL X n).2 && hasRat r (solveL X n).1 then some (solveL X n).1 else none
theorem pick_leaf {r : Rg} {n : Nat} (hr : regB r = true) (h : RegOk r n) (rec : LitF) (k : Int) {X out : List Hf} (hl : X.length = n) (hX : ∀ x ∈ X, x ∈ r.2) (ho : out.length ≤ 50000) :
    i_VerticesOf_1B rec r k X out = some (out ++ (ptsI r n X).toList) := by
  have hs := h.sys hl hX
  have h1 := h.lo
  have h3 := h.hi
  have hdim := h.dim
  -- rows and bounds
  have L4 : iter (i_VerticesOf_1_s4 rec X) (out, (([] : List (List Int)), (([] : List Int), (0 : Int)))) = some (out, (normals X, X.map (·.2))) := by
    have := iter_up (step := i_VerticesOf_1_s4 rec X) X.length (fun k => (out, ((X.take k).map (·.1), ((X.take k).map (·.2), (k : Int))))) (out, (normals X, X.map (·.2))) (fun k hk => by
      have hx : X[k]? = some X[k] := List.getElem?_eq_getElem hk
      unfold i_VerticesOf_1_s4
      simp only
      rw [show decide ((k : Int) < (X.length : Int)) = true from by simp; omega, cond_true, idx_some hx, Option.bind_some, appD_some (by rw [lim_eq]; simp; omega) (by rw [lim_eq]; simp; omega), Option.bind_some, appD_some (by rw [lim_eq]; simp; omega) (by rw [lim_eq]; simp; omega), Option.bind_some, wrap_small (by omega) (by omega), take_map1 _ hx, take_map1 _ hx]
      rfl) (by
      unfold i_VerticesOf_1_s4
      simp [normals])
    simpa using this
  have hdetI : i_det (normals X) = some (det (normals X)) := by
    have hq := (detI_eq hs.sq.zero).1
    have : detI (normals X) = det (normals X) := by
      unfold normals
      cases X with
      | nil => simp at hl; omega
      | cons x X => rfl
    rw [hq, this]
  unfold i_VerticesOf_1B
  rw [show ((X.length : Int) == r.1) = true from by simp; omega, cond_true, L4, Option.bind_some]
  simp only
  rw [hdetI, Option.bind_some]
  by_cases h0 : det (normals X) = 0
  · rw [show (det (normals X) == 0) = true from by simpa using h0, cond_true]
    have : ptsI r n X = none := by unfold ptsI solveL; rw [if_pos h0]; rfl
    rw [this]; simp
  · rw [show (det (normals X) == 0) = false from by simpa using h0, cond_false]
    obtain ⟨m, rfl⟩ : ∃ m, n = m + 1 := ⟨n - 1, by omega⟩
    obtain ⟨al, ac⟩ := adj_bd hs.sq.zero
    rw [adj_eq hs.sq.zero, Option.bind_some]
    obtain ⟨nb1, nb2⟩ := numsL_bd hs
    have hbl : (X.map (·.2)).length = m + 1 := by simp [hl]
    have L13 : iter (i_VerticesOf_1_s13 rec (out, (normals X, X.map (·.2))) (adjL (m + 1) (normals X))) (out, ((([] : List Int), det (normals X)), (0 : Int))) = some (out, (numsL X (m + 1), det (normals X))) := by
      have := iter_up (step := i_VerticesOf_1_s13 rec (out, (normals X, X.map (·.2))) (adjL (m + 1) (normals X))) (m + 1) (fun k => (out, ((((adjL (m + 1) (normals X)).take k).map (fun r => dtL r (X.map (·.2))), det (normals X)), (k : Int)))) (out, (numsL X (m + 1), det (normals X))) (fun k hk => by
        have hx : (adjL (m + 1) (normals X))[k]? = some ((adjL (m + 1) (normals X))[k]'(by omega)) := List.getElem?_eq_getElem _
        obtain ⟨c1, c2⟩ := ac _ (List.getElem_mem (by omega : k < (adjL (m + 1) (normals X)).length))
        have hd := (dotL_eq (a := (adjL (m + 1) (normals X))[k]'(by omega)) (b := X.map (·.2)) (by omega) (by omega) (fun x hx => by have := c2 x hx; omega) (fun x hx => by
          obtain ⟨q, hq, rfl⟩ := List.mem_map.1 hx
          have := (h.halves q (hX q hq)).2.2
          omega)).1
        unfold i_VerticesOf_1_s13
        simp only
        rw [al, show decide ((k : Int) < ((m + 1 : Nat) : Int)) = true from by simp; omega, cond_true, idx_some hx, Option.bind_some, hd, Option.bind_some, appD_some (by rw [lim_eq]; simp; omega) (by rw [lim_eq]; simp; omega), Option.bind_some, wrap_small (by omega) (by omega), take_map1 _ hx]
        rfl) (by
        unfold i_VerticesOf_1_s13
        simp only
        rw [al, show decide (((m + 1 : Nat) : Int) < ((m + 1 : Nat) : Int)) = false from by simp, cond_false, List.take_of_length_le (by omega), adj_nums hs])
      simpa using this
    rw [L13, Option.bind_some]
    simp only
    have hdb := (l3Det_eq hs.sq).2
    rw [reduced_eq (by omega) nb2 h0 hdb, Option.bind_some]
    obtain ⟨hfine, _⟩ := solve_fine h hl hX h0
    have hfr := hasFr_eq hr h hfine
    rw [show i_hasFraction (r.1, r.2) ((redL (numsL X (m + 1)) (det (normals X))).1, (redL (numsL X (m + 1)) (det (normals X))).2) = some (hasRat r (redL (numsL X (m + 1)) (det (normals X)))) from hfr, Option.bind_some]
    unfold ptsI
    rw [solve_red h0]
    simp only [Bool.true_and]
    cases hasRat r (redL (numsL X (m + 1)) (det (normals X))) with
    | false => simp
    | true =>
      rw [cond_true, appD_some (by rw [lim_eq]; simp; omega) (by rw [lim_eq]; simp; omega)]
      rfl
theorem pick_eq {r : Rg} {n : Nat} (hr : regB r = true) (h : RegOk r n) : ∀ (m fuel : Nat) (k : Nat) (X out : List Hf), m + X.length = n → (∀ x ∈ X, x ∈ r.2) → k ≤ r.2.length → out.length + (subs m (r.2.drop k)).length ≤ 50000 →
    i_VerticesOf_1R (fuel + m + 1) r (k : Int) X out = some (out ++ (subs m (r.2.drop k)).filterMap (fun Y => ptsI r n (X ++ Y))) := by
  have hdim := h.dim
  have hhi := h.hi
  intro m
  induction m with
  | zero =>
    intro fuel k X out hm hX hk hb
    show i_VerticesOf_1B (i_VerticesOf_1R (fuel + 0)) r (k : Int) X out = _
    rw [pick_leaf hr h _ _ (by omega) hX (by omega)]
    have : subs 0 (r.2.drop k) = [[]] := by simp [subs]
    rw [this]
    simp only [List.filterMap_cons, List.append_nil, List.filterMap_nil]
    cases ptsI r n X <;> rfl
  | succ m ih =>
    intro fuel k X out hm hX hk hb
    show i_VerticesOf_1B (i_VerticesOf_1R (fuel + (m + 1))) r (k : Int) X out = _
    unfold i_VerticesOf_1B
    rw [show ((X.length : Int) == r.1) = false from by simp; omega, cond_false]
    have key : ∀ (L : List Hf) (k : Nat) (out : List Hf), r.2.drop k = L → k ≤ r.2.length → out.length + (subs (m + 1) L).length ≤ 50000 →
        iter (i_VerticesOf_1_s21 (i_VerticesOf_1R (fuel + (m + 1))) r X) ((k : Int), out) = some (out ++ (subs (m + 1) L).filterMap (fun Y => ptsI r n (X ++ Y))) := by
      intro L
      induction L with
      | nil =>
        intro k out hL hk hb
        have hk' : r.2.length ≤ k := List.drop_eq_nil_iff.1 hL
        refine iter_end ?_
        unfold i_VerticesOf_1_s21
        simp only
        rw [show decide ((k : Int) < (r.2.length : Int)) = false from by simp; omega, cond_false]
        simp [subs]
      | cons x L ihL =>
        intro k out hL hk hb
        have hlt : k < r.2.length := by
          apply Decidable.byContradiction; intro hn
          rw [List.drop_eq_nil_of_le (by omega)] at hL
          simp at hL
        rw [List.drop_eq_getElem_cons hlt] at hL
        simp only [List.cons.injEq] at hL
        obtain ⟨hx, hL⟩ := hL
        have hg : r.2[k]? = some x := by rw [List.getElem?_eq_getElem hlt, hx]
        have hlen := h.len
        simp only [subs, List.length_append, List.length_map] at hb
        have hrec := ih fuel (k + 1) (X ++ [x]) out (by simp; omega) (fun y hy => by
          rcases List.mem_append.1 hy with hy | hy
          · exact hX y hy
          · simp only [List.mem_singleton] at hy; subst hy; rw [← hx]; exact List.getElem_mem _) (by omega) (by rw [hL]; omega)
        rw [hL] at hrec
        have hfl : ((subs m L).filterMap fun Y => ptsI r n (X ++ [x] ++ Y)).length ≤ (subs m L).length := List.length_filterMap_le _ _
        have st : i_VerticesOf_1_s21 (i_VerticesOf_1R (fuel + (m + 1))) r X ((k : Int), out) = some (.inl (((k + 1 : Nat) : Int), out ++ (subs m L).filterMap fun Y => ptsI r n (X ++ [x] ++ Y))) := by
          unfold i_VerticesOf_1_s21
          simp only
          have hfd : fullD (X.length : Int) (X.length : Int) X.length = some () := by unfold fullD; rw [if_pos ⟨rfl, rfl⟩]
          rw [show decide ((k : Int) < (r.2.length : Int)) = true from by simp; omega, cond_true, hfd, Option.bind_some, idx_some hg, Option.bind_some]
          rw [show nneD ([(x.1, x.2)] : List ((List Int) × Int)) = some () from rfl, Option.bind_some, appD_some (by rw [lim_eq]; simp; omega) (by rw [lim_eq]; simp; omega), Option.bind_some, wrap_small (by omega) (by omega)]
          rw [show fuel + (m + 1) = fuel + m + 1 from rfl]
          have e1 : ((k : Int) + 1) = ((k + 1 : Nat) : Int) := by omega
          rw [e1]
          have hrec' : i_VerticesOf_1R (fuel + m + 1) (r.1, r.2) ((k + 1 : Nat) : Int) (X ++ [(x.1, x.2)]) out = some (out ++ (subs m L).filterMap fun Y => ptsI r n (X ++ [x] ++ Y)) := hrec
          rw [hrec']; rfl
        rw [iter_next st, ihL (k + 1) _ hL (by omega) (by rw [List.length_append]; omega)]
        rw [subs, List.filterMap_append, List.filterMap_map, List.append_assoc]
        congr 3
        simp [Function.comp_def, List.append_assoc]
    rw [key _ k out rfl hk hb]
    rfl
end Go.Proofs.YtfknaeamhcpfgaaGreat
