/-
  Plain: vertices of regions by the reference: determinants, rationals; the search ends. No condition.
-/
import Derived.Test.YtfknaeamhcpfgaaGreatPlCt
import Derived.Test.YtfknaeamhcpfgaaGreatPlK
namespace Go.Proofs.YtfknaeamhcpfgaaGreat
open Go Go.Proofs.YtfknaeamhcpfgaaGreat.Eng
set_option linter.unusedVariables false
set_option linter.unusedSimpArgs false
/-! Determinants. -/
def det : List (List Int) → Int
  | [[a]] => a
  | [[a, b], [c, d]] => a * d - b * c
  | [[a, b, c], [d, e, f], [g, h, i]] => a * (e * i - f * h) + b * (f * g - d * i) + c * (d * h - e * g)
  | _ => 0
def B3 (x : Int) : Prop := -200 ≤ x ∧ x ≤ 200
theorem b3_mul {x y : Int} (hx : B3 x) (hy : B3 y) : -40000 ≤ x * y ∧ x * y ≤ 40000 := by
  unfold B3 at *
  have := abs_mul_le (a := x) (b := y) (m := 200) (n := 200) (by omega) (by omega) (by omega) (by omega)
  omega
theorem b3_mul2 {x z : Int} (hx : B3 x) (hz : -80000 ≤ z ∧ z ≤ 80000) : -16000000 ≤ x * z ∧ x * z ≤ 16000000 := by
  unfold B3 at *
  have := abs_mul_le (a := x) (b := z) (m := 200) (n := 80000) (by omega) (by omega) (by omega) (by omega)
  omega
theorem det_two {a b c d : Int} (ha : B3 a) (hb : B3 b) (hc : B3 c) (hd : B3 d) : s_l3Det [[a, b], [c, d]] = some (a * d - b * c) := by
  have h1 := b3_mul ha hd
  have h2 := b3_mul hb hc
  have e : s_l3Det [[a, b], [c, d]] = some (IntKind.i64.wrap ((IntKind.i64.wrap (a * d)) - (IntKind.i64.wrap (b * c)))) := rfl
  rw [e, wrap_small (x := a * d) (by omega) (by omega), wrap_small (x := b * c) (by omega) (by omega), wrap_small (by omega) (by omega)]
theorem det_three {a b c d e f g h i : Int} (ha : B3 a) (hb : B3 b) (hc : B3 c) (hd : B3 d) (he : B3 e) (hf : B3 f) (hg : B3 g) (hh : B3 h) (hi : B3 i) :
    s_l3Det [[a, b, c], [d, e, f], [g, h, i]] = some (a * (e * i - f * h) + b * (f * g - d * i) + c * (d * h - e * g)) := by
  have e0 : ∀ s : Int, s_l3Det_s8 [[a, b, c], [d, e, f], [g, h, i]] (s, 0) = some (.inl (IntKind.i64.wrap (s + IntKind.i64.wrap (a * IntKind.i64.wrap (IntKind.i64.wrap (e * i) - IntKind.i64.wrap (f * h)))), 1)) := fun s => rfl
  have e1 : ∀ s : Int, s_l3Det_s8 [[a, b, c], [d, e, f], [g, h, i]] (s, 1) = some (.inl (IntKind.i64.wrap (s + IntKind.i64.wrap (b * IntKind.i64.wrap (IntKind.i64.wrap (f * g) - IntKind.i64.wrap (d * i)))), 2)) := fun s => rfl
  have e2 : ∀ s : Int, s_l3Det_s8 [[a, b, c], [d, e, f], [g, h, i]] (s, 2) = some (.inl (IntKind.i64.wrap (s + IntKind.i64.wrap (c * IntKind.i64.wrap (IntKind.i64.wrap (d * h) - IntKind.i64.wrap (e * g)))), 3)) := fun s => rfl
  have e3 : ∀ s : Int, s_l3Det_s8 [[a, b, c], [d, e, f], [g, h, i]] (s, 3) = some (.inr s) := fun s => rfl
  have term : ∀ {x p q r s : Int}, B3 x → B3 p → B3 q → B3 r → B3 s → IntKind.i64.wrap (x * IntKind.i64.wrap (IntKind.i64.wrap (p * q) - IntKind.i64.wrap (r * s))) = x * (p * q - r * s) ∧ -16000000 ≤ x * (p * q - r * s) ∧ x * (p * q - r * s) ≤ 16000000 := fun {x p q r s} hx hp hq hr hs => by
    have h1 := b3_mul hp hq
    have h2 := b3_mul hr hs
    have h3 := b3_mul2 (x := x) (z := p * q - r * s) hx (by omega)
    rw [wrap_small (x := p * q) (by omega) (by omega), wrap_small (x := r * s) (by omega) (by omega), wrap_small (x := p * q - r * s) (by omega) (by omega), wrap_small (by omega) (by omega)]
    exact ⟨rfl, h3⟩
  obtain ⟨t0, b0, b0'⟩ := term ha he hi hf hh
  obtain ⟨t1, b1, b1'⟩ := term hb hf hg hd hi
  obtain ⟨t2, b2, b2'⟩ := term hc hd hh he hg
  have hl : s_l3Det [[a, b, c], [d, e, f], [g, h, i]] = (iter (s_l3Det_s8 [[a, b, c], [d, e, f], [g, h, i]]) ((0 : Int), (0 : Int))).bind fun v24 => some v24 := rfl
  rw [hl, iter_next (e0 0), t0, iter_next (e1 _), t1, iter_next (e2 _), t2, iter_end (e3 _)]
  simp only [Option.bind_some]
  rw [wrap_small (x := 0 + a * (e * i - f * h)) (by omega) (by omega), wrap_small (x := 0 + a * (e * i - f * h) + b * (f * g - d * i)) (by omega) (by omega), wrap_small (by omega) (by omega)]
  congr 1
  omega
/-- A square of small numbers. -/
structure Sq (n : Nat) (M : List (List Int)) : Prop where
  one : 1 ≤ n
  three : n ≤ 3
  rows : M.length = n
  cols : ∀ r ∈ M, r.length = n ∧ ∀ x ∈ r, B3 x
theorem row_one {r : List Int} (h : r.length = 1) : ∃ a, r = [a] := by
  match r, h with
  | [a], _ => exact ⟨a, rfl⟩
theorem row_two {r : List Int} (h : r.length = 2) : ∃ a b, r = [a, b] := by
  match r, h with
  | [a, b], _ => exact ⟨a, b, rfl⟩
theorem row_three {r : List Int} (h : r.length = 3) : ∃ a b c, r = [a, b, c] := by
  match r, h with
  | [a, b, c], _ => exact ⟨a, b, c, rfl⟩
theorem l3Det_eq {n : Nat} {M : List (List Int)} (h : Sq n M) : s_l3Det M = some (det M) ∧ -48000000 ≤ det M ∧ det M ≤ 48000000 := by
  obtain ⟨h1, h3, hr, hc⟩ := h
  have : n = 1 ∨ n = 2 ∨ n = 3 := by omega
  rcases this with rfl | rfl | rfl
  · match M, hr with
    | [r], _ =>
      obtain ⟨k, hb⟩ := hc r (by simp)
      obtain ⟨a, rfl⟩ := row_one k
      have := hb a (by simp)
      unfold B3 at this
      exact ⟨rfl, by show -48000000 ≤ a ∧ a ≤ 48000000; omega⟩
  · match M, hr with
    | [r, s], _ =>
      obtain ⟨k, hb⟩ := hc r (by simp)
      obtain ⟨k', hb'⟩ := hc s (by simp)
      obtain ⟨a, b, rfl⟩ := row_two k
      obtain ⟨c, d, rfl⟩ := row_two k'
      have ha := hb a (by simp)
      have hb2 := hb b (by simp)
      have hc2 := hb' c (by simp)
      have hd := hb' d (by simp)
      refine ⟨det_two ha hb2 hc2 hd, ?_⟩
      have q1 := b3_mul ha hd
      have q2 := b3_mul hb2 hc2
      show -48000000 ≤ a * d - b * c ∧ a * d - b * c ≤ 48000000
      omega
  · match M, hr with
    | [r, s, t], _ =>
      obtain ⟨k, hb⟩ := hc r (by simp)
      obtain ⟨k', hb'⟩ := hc s (by simp)
      obtain ⟨k'', hb''⟩ := hc t (by simp)
      obtain ⟨a, b, c, rfl⟩ := row_three k
      obtain ⟨d, e, f, rfl⟩ := row_three k'
      obtain ⟨g, h, i, rfl⟩ := row_three k''
      have ha := hb a (by simp)
      have hb2 := hb b (by simp)
      have hc2 := hb c (by simp)
      have hd := hb' d (by simp)
      have he := hb' e (by simp)
      have hf := hb' f (by simp)
      have hg := hb'' g (by simp)
      have hh := hb'' h (by simp)
      have hi := hb'' i (by simp)
      refine ⟨det_three ha hb2 hc2 hd he hf hg hh hi, ?_⟩
      have q1 := b3_mul he hi
      have q2 := b3_mul hf hh
      have q3 := b3_mul hf hg
      have q4 := b3_mul hd hi
      have q5 := b3_mul hd hh
      have q6 := b3_mul he hg
      have p1 := b3_mul2 (z := e * i - f * h) ha (by omega)
      have p2 := b3_mul2 (z := f * g - d * i) hb2 (by omega)
      have p3 := b3_mul2 (z := d * h - e * g) hc2 (by omega)
      show -48000000 ≤ a * (e * i - f * h) + b * (f * g - d * i) + c * (d * h - e * g) ∧ a * (e * i - f * h) + b * (f * g - d * i) + c * (d * h - e * g) ≤ 48000000
      omega
/-! Cramer's rule. -/
/-- Planes to be met: as many as cells. -/
structure Sys (n : Nat) (X : List Hf) : Prop where
  one : 1 ≤ n
  three : n ≤ 3
  rows : X.length = n
  cols : ∀ h ∈ X, h.1.length = n ∧ (∀ x ∈ h.1, B3 x) ∧ B3 h.2
def normals (X : List Hf) : List (List Int) := X.map (·.1)
def swapC (X : List Hf) (c : Nat) : List (List Int) := X.map fun h => h.1.set c h.2
def numsL (X : List Hf) (n : Nat) : List Int := (List.range n).map fun c => det (swapC X c)
theorem take_map1 {α β : Type} (f : α → β) {xs : List α} {k : Nat} {x : α} (h : xs[k]? = some x) : (xs.take (k + 1)).map f = (xs.take k).map f ++ [f x] := by
  rw [List.take_add_one, h]; simp
theorem Sys.sq {n : Nat} {X : List Hf} (h : Sys n X) : Sq n (normals X) :=
  ⟨h.one, h.three, by simp [normals, h.rows], fun r hr => by
    obtain ⟨q, hq, rfl⟩ := List.mem_map.1 hr
    exact ⟨(h.cols q hq).1, (h.cols q hq).2.1⟩⟩
theorem Sys.sqc {n : Nat} {X : List Hf} (h : Sys n X) (c : Nat) : Sq n (swapC X c) :=
  ⟨h.one, h.three, by simp [swapC, h.rows], fun r hr => by
    obtain ⟨q, hq, rfl⟩ := List.mem_map.1 hr
    obtain ⟨q1, q2, q3⟩ := h.cols q hq
    refine ⟨by simp [q1], fun x hx => ?_⟩
    rcases List.mem_or_eq_of_mem_set hx with hx | rfl
    · exact q2 x hx
    · exact q3⟩
theorem solve3 {n : Nat} {X : List Hf} (h : Sys n X) {z : List Int × Int} : iter (s_l6Solve_s3 X) (z, ([], 0)) = some (z, normals X) := by
  have hr := h.rows
  have h3 := h.three
  have := iter_up (step := s_l6Solve_s3 X) X.length (fun k => (z, (((X.take k).map (·.1)), (k : Int)))) (z, X.map (·.1)) (fun k hk => by
    have hx : X[k]? = some X[k] := List.getElem?_eq_getElem hk
    unfold s_l6Solve_s3
    simp only
    rw [show decide ((k : Int) < (X.length : Int)) = true from by simp; omega, cond_true, idx_some hx]
    simp only [Option.bind_some]
    rw [appD_some (by rw [lim_eq]; simp; omega) (by rw [lim_eq]; simp; omega), Option.bind_some, wrap_small (by omega) (by omega), take_map1 _ hx]
    rfl) (by
    unfold s_l6Solve_s3
    simp)
  simpa [normals] using this
theorem solve15 {n : Nat} {X : List Hf} (h : Sys n X) {z z' : List Int × Int} {N : List Int} {c : Nat} (hc : c < n) :
    iter (s_l6Solve_s15 X (z', normals X) (z, (N, (c : Int)))) (z, (N, ([], 0))) = some (z, (N, swapC X c)) := by
  have hr := h.rows
  have h3 := h.three
  have := iter_up (step := s_l6Solve_s15 X (z', normals X) (z, (N, (c : Int)))) X.length (fun k => (z, (N, (((X.take k).map fun h => h.1.set c h.2), (k : Int))))) (z, (N, swapC X c)) (fun k hk => by
    have hx : X[k]? = some X[k] := List.getElem?_eq_getElem hk
    obtain ⟨q1, q2, q3⟩ := h.cols _ (List.getElem_mem hk)
    have hn : (normals X)[k]? = some X[k].1 := by unfold normals; rw [List.getElem?_map, hx]; rfl
    have hl : (normals X).length = X.length := by simp [normals]
    unfold s_l6Solve_s15
    simp only
    rw [show decide ((k : Int) < ((normals X).length : Int)) = true from by rw [hl]; simp; omega, cond_true, idx_some hn, Option.bind_some, appD_some (by rw [lim_eq]; simp; omega) (by rw [lim_eq]; simp; omega), Option.bind_some, idx_some hx, List.nil_append]
    simp only [Option.bind_some]
    rw [inIdx_nat (k := c) (by omega), Option.bind_some, Int.toNat_natCast, inIdx_nat (k := c) (by omega), Option.bind_some, appD_some (by rw [lim_eq]; simp; omega) (by rw [lim_eq]; simp; omega), Option.bind_some, wrap_small (by omega) (by omega), take_map1 _ hx]
    rfl) (by
    have hl : (normals X).length = X.length := by simp [normals]
    unfold s_l6Solve_s15
    simp only
    rw [hl]
    simp [swapC])
  simpa using this
theorem solve11 {n : Nat} {X : List Hf} (h : Sys n X) {z z' : List Int × Int} : iter (s_l6Solve_s11 X (z', normals X)) (z, ([], 0)) = some (z, numsL X n) := by
  have hr := h.rows
  have h3 := h.three
  have hl : (normals X).length = n := by simp [normals, hr]
  have := iter_up (step := s_l6Solve_s11 X (z', normals X)) n (fun k => (z, (((List.range k).map fun c => det (swapC X c)), (k : Int)))) (z, numsL X n) (fun k hk => by
    unfold s_l6Solve_s11
    simp only
    rw [hl, show decide ((k : Int) < (n : Int)) = true from by simp; omega, cond_true, solve15 h hk, Option.bind_some]
    simp only
    rw [(l3Det_eq (h.sqc k)).1, Option.bind_some, appD_some (by rw [lim_eq]; simp; omega) (by rw [lim_eq]; simp; omega), Option.bind_some, wrap_small (by omega) (by omega), List.range_succ]
    simp) (by
    unfold s_l6Solve_s11
    simp only
    rw [hl]
    simp [numsL])
  simpa using this
theorem numsL_bd {n : Nat} {X : List Hf} (h : Sys n X) : (numsL X n).length = n ∧ ∀ x ∈ numsL X n, -48000000 ≤ x ∧ x ≤ 48000000 := by
  refine ⟨by simp [numsL], fun x hx => ?_⟩
  obtain ⟨c, _, rfl⟩ := List.mem_map.1 hx
  exact (l3Det_eq (h.sqc c)).2
theorem gcdL_small : (v : List Int) → (∀ x ∈ v, Sm x) → Sm (gcdL v) := fun v hv => by
  have key : ∀ (v : List Int) (g : Int), Sm g → (∀ x ∈ v, Sm x) → Sm (v.foldl (fun g x => (Int.gcd g x : Int)) g) := by
    intro v
    induction v with
    | nil => intro g hg _; exact hg
    | cons x v ih => intro g hg hv; exact ih _ (gcd_sm hg (hv x (by simp))) fun y hy => hv y (List.mem_cons_of_mem _ hy)
  exact key v 0 (by unfold Sm; omega) hv
theorem quoI_some {a b : Int} (hb : b ≠ 0) (ha : -1000000000 ≤ a ∧ a ≤ 1000000000) : quoI .i64 a b = some (a.tdiv b) := by
  have := tdiv_bd (a := a) (b := b)
  unfold quoI
  rw [if_neg hb, wrap_small (by omega) (by omega)]
theorem solve27 {N : List Int} (hl : N.length ≤ 3) (hN : ∀ x ∈ N, -1000000000 ≤ x ∧ x ≤ 1000000000) {g d : Int} (hg : g ≠ 0) {z : List Int × Int} : iter (s_l6Solve_s27 N g) (z, (([], d), 0)) = some (z, (N.map fun x => x.tdiv g, d)) := by
  have := iter_up (step := s_l6Solve_s27 N g) N.length (fun k => (z, ((((N.take k).map fun x => x.tdiv g), d), (k : Int)))) (z, (N.map fun x => x.tdiv g, d)) (fun k hk => by
    have hx : N[k]? = some N[k] := List.getElem?_eq_getElem hk
    unfold s_l6Solve_s27
    simp only
    rw [show decide ((k : Int) < (N.length : Int)) = true from by simp; omega, cond_true, idx_some hx, Option.bind_some, quoI_some hg (hN _ (List.getElem_mem hk)), Option.bind_some, appD_some (by rw [lim_eq]; simp; omega) (by rw [lim_eq]; simp; omega), Option.bind_some, wrap_small (by omega) (by omega), take_map1 _ hx]
    rfl) (by
    unfold s_l6Solve_s27
    simp)
  simpa using this
theorem solve27b {z' : List Int × Int} {N : List Int} : s_l6Solve_s27b31 (z', N) = s_l6Solve_s27 N := rfl
/-- What Cramer's rule gives, in lowest terms, the denominator positive. -/
def solveL (X : List Hf) (n : Nat) : Ra × Bool :=
  if det (normals X) = 0 then (([], 0), false)
  else if det (normals X) < 0 then
    (let g : Int := (Int.gcd (gcdL ((numsL X n).map fun x => x * (-1))) (-det (normals X)) : Nat)
     ((((numsL X n).map fun x => x * (-1)).map fun x => x.tdiv g, (-det (normals X)).tdiv g), true))
  else
    (let g : Int := (Int.gcd (gcdL (numsL X n)) (det (normals X)) : Nat)
     (((numsL X n).map fun x => x.tdiv g, (det (normals X)).tdiv g), true))
theorem solve_eq {n : Nat} {X : List Hf} (h : Sys n X) : s_l6Solve X = some (solveL X n) := by
  have h3 := h.three
  obtain ⟨d1, d2, d3⟩ := l3Det_eq h.sq
  obtain ⟨n1, n2⟩ := numsL_bd h
  unfold s_l6Solve
  rw [solve3 h, Option.bind_some]
  simp only
  rw [d1, Option.bind_some]
  unfold solveL
  by_cases h0 : det (normals X) = 0
  · rw [if_pos h0, show (det (normals X) == 0) = true from by simpa using h0, cond_true]
  · rw [if_neg h0, show (det (normals X) == 0) = false from by simpa using h0, cond_false, solve11 h, Option.bind_some]
    simp only
    by_cases hneg : det (normals X) < 0
    · rw [if_pos hneg, decide_eq_true hneg, cond_true]
      have e0 : s_l2Scale (numsL X n) (-1) = some ((numsL X n).map fun x => x * (-1)) := l2Scale_eq (by omega) (fun x hx => by have := n2 x hx; unfold Tn; omega) (by unfold Tn; omega)
      have hb : ∀ x ∈ (numsL X n).map (fun x => x * (-1)), -48000000 ≤ x ∧ x ≤ 48000000 := fun x hx => by
        obtain ⟨y, hy, rfl⟩ := List.mem_map.1 hx
        have := n2 y hy
        omega
      have hl : ((numsL X n).map fun x => x * (-1)).length = n := by simp [n1]
      generalize (numsL X n).map (fun x => x * (-1)) = N at e0 hb hl
      have hsm : ∀ x ∈ N, Sm x := fun x hx => by have := hb x hx; unfold Sm; omega
      have hw : IntKind.i64.wrap (0 - det (normals X)) = - det (normals X) := by rw [wrap_small (by omega) (by omega)]; omega
      have hg : ((Int.gcd (gcdL N) (-det (normals X)) : Nat) : Int) ≠ 0 := fun he => by
        have := Int.eq_zero_of_gcd_eq_zero_right (a := gcdL N) (b := -det (normals X)) (by omega)
        omega
      rw [e0, Option.bind_some, l2All_eq (Nat.le_trans (show N.length ≤ 3 by omega) (by decide)) hsm, Option.bind_some, hw, l2Gcd_eq (gcdL_small N hsm) (by unfold Sm; omega), Option.bind_some, quoI_some hg (by omega), Option.bind_some, solve27 (by omega) (fun x hx => by have := hb x hx; omega) hg]
      rfl
    · rw [if_neg hneg, decide_eq_false hneg, cond_false]
      have hsm : ∀ x ∈ numsL X n, Sm x := fun x hx => by have := n2 x hx; unfold Sm; omega
      have hg : ((Int.gcd (gcdL (numsL X n)) (det (normals X)) : Nat) : Int) ≠ 0 := fun he => by
        have := Int.eq_zero_of_gcd_eq_zero_right (a := gcdL (numsL X n)) (b := det (normals X)) (by omega)
        omega
      rw [l2All_eq (Nat.le_trans (show (numsL X n).length ≤ 3 by omega) (by decide)) hsm, Option.bind_some, l2Gcd_eq (gcdL_small _ hsm) (by unfold Sm; omega), Option.bind_some, quoI_some hg (by omega), Option.bind_some, solve27b, solve27 (by omega) (fun x hx => by have := n2 x hx; omega) hg]
      rfl
end Go.Proofs.YtfknaeamhcpfgaaGreat
