/-
  Triangles filled with empty triangles: how the parts join. Plain, no condition.
-/
import Derived.Test.YtcpdhjklcongoaaPlTg
namespace Go.Proofs.Ytcpdhjklcongoaa
open Go Go.Proofs.Ytcpdhjklcongoaa.Eng
open Hull (Pt tn lx at_ at_some at_mem Pol)
set_option linter.unusedVariables false
set_option linter.unusedSimpArgs false
def tnT (t : Pt × Pt × Pt) : Int := tn t.1 t.2.1 t.2.2
def areaT (T : List (Pt × Pt × Pt)) : Int := (T.map tnT).sum
theorem sides_app (T S : List (Pt × Pt × Pt)) : sides (T ++ S) = sides T ++ sides S := List.flatMap_append
theorem areaT_app (T S : List (Pt × Pt × Pt)) : areaT (T ++ S) = areaT T + areaT S := by unfold areaT; rw [List.map_append, List.sum_append]
def InH (u w : Pt) (t : Pt × Pt × Pt) : Prop := 0 ≤ tn u w t.1 ∧ 0 ≤ tn u w t.2.1 ∧ 0 ≤ tn u w t.2.2
theorem side_third {t : Pt × Pt × Pt} {e : Pt × Pt} (h : e ∈ dsT t) : ∃ r, tn e.1 e.2 r = tnT t ∧ ∀ u w, InH u w t → 0 ≤ tn u w e.1 ∧ 0 ≤ tn u w e.2 ∧ 0 ≤ tn u w r := by
  unfold dsT at h
  simp only [List.mem_cons, List.not_mem_nil, or_false] at h
  rcases h with rfl | rfl | rfl
  · exact ⟨t.2.2, rfl, fun u w h => h⟩
  · exact ⟨t.1, Hull.tn_cyc _ _ _, fun u w h => ⟨h.2.1, h.2.2, h.1⟩⟩
  · exact ⟨t.2.1, by unfold tnT; rw [Hull.tn_cyc, Hull.tn_cyc], fun u w h => ⟨h.2.2, h.1, h.2.1⟩⟩
theorem dis_r {u w p q r : Pt} (hp : tn u w p = 0) (hq : tn u w q = 0) :
    ((q.1 - p.1) * (q.1 - p.1) + (q.2 - p.2) * (q.2 - p.2)) * tn u w r = ((w.1 - u.1) * (q.1 - p.1) + (w.2 - u.2) * (q.2 - p.2)) * tn p q r := by
  have e1 : ((q.1 - p.1) * (q.1 - p.1) + (q.2 - p.2) * (q.2 - p.2)) * (tn u w r - tn u w p) = ((w.1 - u.1) * (q.1 - p.1) + (w.2 - u.2) * (q.2 - p.2)) * tn p q r + (tn u w q - tn u w p) * ((q.1 - p.1) * (r.1 - p.1) + (q.2 - p.2) * (r.2 - p.2)) := by unfold tn; grind
  rw [hp, hq] at e1
  simpa using e1
theorem sq_pos {a b : Int} (h : a ≠ 0 ∨ b ≠ 0) : 0 < a * a + b * b := by
  have h1 : 0 ≤ a * a := by
    rcases Int.le_total 0 a with h | h
    · exact Int.mul_nonneg h h
    · exact Int.mul_nonneg_of_nonpos_of_nonpos h h
  have h2 : 0 ≤ b * b := by
    rcases Int.le_total 0 b with h | h
    · exact Int.mul_nonneg h h
    · exact Int.mul_nonneg_of_nonpos_of_nonpos h h
  rcases h with h | h
  · have : a * a ≠ 0 := fun e => (Int.mul_eq_zero.1 e).elim h h
    omega
  · have : b * b ≠ 0 := fun e => (Int.mul_eq_zero.1 e).elim h h
    omega
/-- What lies on two sides of a line has no side in common. -/
theorem sides_dis {T S : List (Pt × Pt × Pt)} {u w : Pt} (huw : u ≠ w) (hT : ∀ t ∈ T, 0 < tnT t ∧ InH u w t) (hS : ∀ t ∈ S, 0 < tnT t ∧ InH w u t) : ∀ e ∈ sides T, e ∉ sides S := fun e h1 h2 => by
  obtain ⟨t, ht, he⟩ := List.mem_flatMap.1 h1
  obtain ⟨s, hs, he'⟩ := List.mem_flatMap.1 h2
  obtain ⟨r, a1, a2⟩ := side_third he
  obtain ⟨r', b1, b2⟩ := side_third he'
  obtain ⟨p1, i1⟩ := hT t ht
  obtain ⟨p2, i2⟩ := hS s hs
  obtain ⟨c1, c2, c3⟩ := a2 u w i1
  obtain ⟨d1, d2, d3⟩ := b2 w u i2
  have neg : ∀ x : Pt, tn w u x = - tn u w x := fun x => by unfold tn; grind
  rw [neg] at d1 d2 d3
  have z1 : tn u w e.1 = 0 := by omega
  have z2 : tn u w e.2 = 0 := by omega
  have r1 := dis_r (r := r) z1 z2
  have r2 := dis_r (r := r') z1 z2
  rw [a1] at r1
  rw [b1] at r2
  have hd : 0 < (e.2.1 - e.1.1) * (e.2.1 - e.1.1) + (e.2.2 - e.1.2) * (e.2.2 - e.1.2) := sq_pos (by
    apply Classical.byContradiction
    intro hh
    have g1 : e.2.1 - e.1.1 = 0 := Classical.byContradiction fun h => hh (.inl h)
    have g2 : e.2.2 - e.1.2 = 0 := Classical.byContradiction fun h => hh (.inr h)
    have : tn e.1 e.2 r = 0 := by unfold tn; rw [g1, g2]; simp
    omega)
  have l1 : 0 ≤ ((e.2.1 - e.1.1) * (e.2.1 - e.1.1) + (e.2.2 - e.1.2) * (e.2.2 - e.1.2)) * tn u w r := Int.mul_nonneg (Int.le_of_lt hd) c3
  have l2 : ((e.2.1 - e.1.1) * (e.2.1 - e.1.1) + (e.2.2 - e.1.2) * (e.2.2 - e.1.2)) * tn u w r' ≤ 0 := Int.mul_nonpos_of_nonneg_of_nonpos (Int.le_of_lt hd) (by omega)
  rw [r1] at l1
  rw [r2] at l2
  have s0 : (w.1 - u.1) * (e.2.1 - e.1.1) + (w.2 - u.2) * (e.2.2 - e.1.2) = 0 := by
    rcases Int.lt_trichotomy ((w.1 - u.1) * (e.2.1 - e.1.1) + (w.2 - u.2) * (e.2.2 - e.1.2)) 0 with h | h | h
    · have := Int.mul_neg_of_neg_of_pos h p1; omega
    · exact h
    · have := Int.mul_pos h p2; omega
  have c0 : (w.1 - u.1) * (e.2.2 - e.1.2) - (w.2 - u.2) * (e.2.1 - e.1.1) = 0 := by
    have : (w.1 - u.1) * (e.2.2 - e.1.2) - (w.2 - u.2) * (e.2.1 - e.1.1) = tn u w e.2 - tn u w e.1 := by unfold tn; grind
    omega
  have e1 : (w.1 - u.1) * ((e.2.1 - e.1.1) * (e.2.1 - e.1.1) + (e.2.2 - e.1.2) * (e.2.2 - e.1.2)) = ((w.1 - u.1) * (e.2.1 - e.1.1) + (w.2 - u.2) * (e.2.2 - e.1.2)) * (e.2.1 - e.1.1) + ((w.1 - u.1) * (e.2.2 - e.1.2) - (w.2 - u.2) * (e.2.1 - e.1.1)) * (e.2.2 - e.1.2) := by grind
  have e2 : (w.2 - u.2) * ((e.2.1 - e.1.1) * (e.2.1 - e.1.1) + (e.2.2 - e.1.2) * (e.2.2 - e.1.2)) = ((w.1 - u.1) * (e.2.1 - e.1.1) + (w.2 - u.2) * (e.2.2 - e.1.2)) * (e.2.2 - e.1.2) - ((w.1 - u.1) * (e.2.2 - e.1.2) - (w.2 - u.2) * (e.2.1 - e.1.1)) * (e.2.1 - e.1.1) := by grind
  rw [s0, c0] at e1 e2
  simp only [Int.zero_mul, Int.add_zero, Int.sub_zero] at e1 e2
  have w1 := (Int.mul_eq_zero.1 e1).resolve_right (by omega)
  have w2 := (Int.mul_eq_zero.1 e2).resolve_right (by omega)
  exact huw (Prod.ext (by omega) (by omega))
/-! Filled. -/
structure Good (T : List (Pt × Pt × Pt)) : Prop where
  pos : ∀ t ∈ T, 0 < tnT t
  bnd : ∀ t ∈ T, BdT t
  emp : ∀ t ∈ T, Emp t.1 t.2.1 t.2.2 ∧ fst3 t.1 t.2.1 t.2.2 = none
  nod : (sides T).Nodup
def net (T : List (Pt × Pt × Pt)) (e : Pt × Pt) : Int := ((sides T).count e : Int) - ((sides T).count (fl e) : Int)
theorem net_app (T S : List (Pt × Pt × Pt)) (e : Pt × Pt) : net (T ++ S) e = net T e + net S e := by
  unfold net
  rw [sides_app, List.count_append, List.count_append]
  omega
structure Fill (A B C : Pt) (T : List (Pt × Pt × Pt)) : Prop extends Good T where
  half : ∀ u w, InH u w (A, B, C) → ∀ t ∈ T, InH u w t
  area : areaT T = tn A B C
  bdy : ∀ e, net T e = dl e A B + dl e B C + dl e C A
theorem good_app {T S : List (Pt × Pt × Pt)} (hT : Good T) (hS : Good S) {u w : Pt} (huw : u ≠ w) (h1 : ∀ t ∈ T, InH u w t) (h2 : ∀ t ∈ S, InH w u t) : Good (T ++ S) where
  pos := fun t ht => (List.mem_append.1 ht).elim (hT.pos t) (hS.pos t)
  bnd := fun t ht => (List.mem_append.1 ht).elim (hT.bnd t) (hS.bnd t)
  emp := fun t ht => (List.mem_append.1 ht).elim (hT.emp t) (hS.emp t)
  nod := by
    rw [sides_app]
    refine List.nodup_append.2 ⟨hT.nod, hS.nod, fun a ha b hb e => ?_⟩
    subst e
    exact sides_dis huw (fun t ht => ⟨hT.pos t ht, h1 t ht⟩) (fun t ht => ⟨hS.pos t ht, h2 t ht⟩) a ha hb
theorem tn0a (x y : Pt) : tn x y x = 0 := by unfold tn; grind
theorem tn0b (x y : Pt) : tn x y y = 0 := by unfold tn; grind
theorem tn_rev (x y z : Pt) : tn y x z = - tn x y z := by unfold tn; grind
theorem half_in {A B C x u w : Pt} (hp : 0 < tn A B C) (h1 : 0 ≤ tn A B x) (h2 : 0 ≤ tn B C x) (h3 : 0 ≤ tn C A x) (h : InH u w (A, B, C)) : 0 ≤ tn u w x := by
  have e : tn A B C * tn u w x = tn B C x * tn u w A + tn C A x * tn u w B + tn A B x * tn u w C := by unfold tn; grind
  obtain ⟨a, b, c⟩ := h
  have := Int.mul_nonneg h2 a
  have := Int.mul_nonneg h3 b
  have := Int.mul_nonneg h1 c
  rcases Int.lt_or_le (tn u w x) 0 with hl | hl
  · have := Int.mul_neg_of_pos_of_neg hp hl
    simp only at *
    omega
  · exact hl
theorem fill_join {A B C x : Pt} {T1 T2 T3 : List (Pt × Pt × Pt)} (hp : 0 < tn A B C) (h1 : 0 ≤ tn A B x) (h2 : 0 ≤ tn B C x) (h3 : 0 ≤ tn C A x) (nA : x ≠ A) (nB : x ≠ B) (nC : x ≠ C)
    (f1 : Fill x A B T1) (f2 : Fill x B C T2) (f3 : Fill x C A T3) : Fill A B C (T1 ++ T2 ++ T3) := by
  have k1 : tn x A B = tn A B x := (Hull.tn_cyc x A B).symm
  have k2 : tn x B C = tn B C x := (Hull.tn_cyc x B C).symm
  have k3 : tn x C A = tn C A x := (Hull.tn_cyc x C A).symm
  have a12 : ∀ t ∈ T1, InH B x t := f1.half B x ⟨by simp only; rw [tn0b]; omega, by simp only; rw [Hull.tn_cyc A B x]; exact h1, by simp only; rw [tn0a]; omega⟩
  have b12 : ∀ t ∈ T2, InH x B t := f2.half x B ⟨by simp only; rw [tn0a]; omega, by simp only; rw [tn0b]; omega, by simp only; omega⟩
  have a13 : ∀ t ∈ T1, InH x A t := f1.half x A ⟨by simp only; rw [tn0a]; omega, by simp only; rw [tn0b]; omega, by simp only; omega⟩
  have b13 : ∀ t ∈ T3, InH A x t := f3.half A x ⟨by simp only; rw [tn0b]; omega, by simp only; rw [Hull.tn_cyc C A x]; exact h3, by simp only; rw [tn0a]; omega⟩
  have a23 : ∀ t ∈ T2, InH C x t := f2.half C x ⟨by simp only; rw [tn0b]; omega, by simp only; rw [Hull.tn_cyc B C x]; exact h2, by simp only; rw [tn0a]; omega⟩
  have b23 : ∀ t ∈ T3, InH x C t := f3.half x C ⟨by simp only; rw [tn0a]; omega, by simp only; rw [tn0b]; omega, by simp only; omega⟩
  have g12 := good_app f1.toGood f2.toGood (Ne.symm nB) a12 b12
  have hin : ∀ u w, InH u w (A, B, C) → 0 ≤ tn u w x := fun u w h => half_in hp h1 h2 h3 h
  have hh : ∀ u w, InH u w (A, B, C) → ∀ t ∈ T1 ++ T2 ++ T3, InH u w t := fun u w h t ht => by
    have hx := hin u w h
    rcases List.mem_append.1 ht with ht | ht
    · rcases List.mem_append.1 ht with ht | ht
      · exact f1.half u w ⟨hx, h.1, h.2.1⟩ t ht
      · exact f2.half u w ⟨hx, h.2.1, h.2.2⟩ t ht
    · exact f3.half u w ⟨hx, h.2.2, h.1⟩ t ht
  refine { pos := ?_, bnd := ?_, emp := ?_, nod := ?_, half := hh, area := ?_, bdy := ?_ }
  · exact fun t ht => (List.mem_append.1 ht).elim (g12.pos t) (f3.pos t)
  · exact fun t ht => (List.mem_append.1 ht).elim (g12.bnd t) (f3.bnd t)
  · exact fun t ht => (List.mem_append.1 ht).elim (g12.emp t) (f3.emp t)
  · rw [sides_app]
    refine List.nodup_append.2 ⟨g12.nod, f3.nod, fun a ha b hb e => ?_⟩
    subst e
    rw [sides_app] at ha
    rcases List.mem_append.1 ha with ha | ha
    · exact sides_dis nA (fun t ht => ⟨f1.pos t ht, a13 t ht⟩) (fun t ht => ⟨f3.pos t ht, b13 t ht⟩) a ha hb
    · exact sides_dis (Ne.symm nC) (fun t ht => ⟨f2.pos t ht, a23 t ht⟩) (fun t ht => ⟨f3.pos t ht, b23 t ht⟩) a ha hb
  · rw [areaT_app, areaT_app, f1.area, f2.area, f3.area, k1, k2, k3]
    exact tn_sum A B C x
  · intro e
    rw [net_app, net_app, f1.bdy, f2.bdy, f3.bdy]
    have d1 := dl_flip e x A
    have d2 := dl_flip e x B
    have d3 := dl_flip e x C
    omega
theorem fill_flat {A B C x : Pt} (hp : 0 < tn A B C) (h0 : tn x A B = 0) (h1 : 0 ≤ tn B C x) (h2 : 0 ≤ tn C A x) : Fill x A B [] := by
  refine { pos := by simp, bnd := by simp, emp := by simp, nod := by simp [sides], half := by simp, area := ?_, bdy := ?_ }
  · rw [h0]; rfl
  · intro e
    have d1 := dl_flip e x A
    have d2 := dl_flip e x B
    have d3 := dl_cut e hp h0 h1 h2
    have : net [] e = 0 := rfl
    omega
theorem tri_box {A B C q : Pt} (hp : 0 < tn A B C) (h1 : 0 ≤ tn A B q) (h2 : 0 ≤ tn B C q) (h3 : 0 ≤ tn C A q) {m n : Int} (f : Pt → Int)
    (hf : tn A B C * f q = tn B C q * f A + tn C A q * f B + tn A B q * f C) (hm : ∀ p ∈ [A, B, C], m ≤ f p ∧ f p ≤ n) : m ≤ f q ∧ f q ≤ n := by
  have s := tn_sum A B C q
  obtain ⟨a1, a2⟩ := hm A (by simp)
  obtain ⟨b1, b2⟩ := hm B (by simp)
  obtain ⟨c1, c2⟩ := hm C (by simp)
  constructor
  · refine Int.le_of_mul_le_mul_left ?_ hp
    have x1 := Int.mul_le_mul_of_nonneg_left a1 h2
    have x2 := Int.mul_le_mul_of_nonneg_left b1 h3
    have x3 := Int.mul_le_mul_of_nonneg_left c1 h1
    have : tn A B C * m = tn B C q * m + tn C A q * m + tn A B q * m := by rw [← s]; grind
    omega
  · refine Int.le_of_mul_le_mul_left ?_ hp
    have x1 := Int.mul_le_mul_of_nonneg_left a2 h2
    have x2 := Int.mul_le_mul_of_nonneg_left b2 h3
    have x3 := Int.mul_le_mul_of_nonneg_left c2 h1
    have : tn A B C * n = tn B C q * n + tn C A q * n + tn A B q * n := by rw [← s]; grind
    omega
theorem emp_of {A B C : Pt} (hp : 0 < tn A B C) (h : fst3 A B C = none) : Emp A B C := fun q h1 h2 h3 => by
  have hl := lo_spec (·.1) (P := [A, B, C]) (by simp)
  have hl2 := lo_spec (·.2) (P := [A, B, C]) (by simp)
  have hh := hi_spec (·.1) (P := [A, B, C]) (by simp)
  have hh2 := hi_spec (·.2) (P := [A, B, C]) (by simp)
  have b1 := tri_box hp h1 h2 h3 (fun p => p.1) (by unfold tn; grind) (fun p hp => ⟨hl.1 p hp, hh.1 p hp⟩)
  have b2 := tri_box hp h1 h2 h3 (fun p => p.2) (by unfold tn; grind) (fun p hp => ⟨hl2.1 p hp, hh2.1 p hp⟩)
  have hm : em q ∈ latt (box [A, B, C]) [[]] := latt2_mem.2 ⟨q, rfl, b1.1, b1.2, b2.1, b2.2⟩
  have := List.find?_eq_none.1 h _ hm
  simp only [Bool.and_eq_true, decide_eq_true_eq, not_and, Decidable.not_not] at this
  have hin : inP (ori A B C) (toP (em q)) := by
    unfold ori
    rw [if_neg (by omega), inP3]
    exact ⟨h1, h2, h3⟩
  have := this hin
  simp only [List.mem_cons, List.not_mem_nil, or_false] at this
  rcases this with h | h | h
  · exact .inl (em_inj h)
  · exact .inr (.inl (em_inj h))
  · exact .inr (.inr (em_inj h))
theorem fill_one {A B C : Pt} (hB : ∀ q ∈ [A, B, C], Bd 50 q) (hp : 0 < tn A B C) (h : fst3 A B C = none) : Fill A B C [(A, B, C)] := by
  have he := emp_of hp h
  have g1 := emp_gcd he hp
  have g2 := emp_gcd he.cyc (by rw [Hull.tn_cyc]; exact hp)
  have g3 := emp_gcd he.cyc.cyc (by rw [Hull.tn_cyc, Hull.tn_cyc]; exact hp)
  have nAB : A ≠ B := fun e => by subst e; unfold tn at hp; simp at hp
  have nBC : B ≠ C := fun e => by subst e; rw [tn0b] at hp; omega
  have nCA : C ≠ A := fun e => by subst e; rw [tn0a] at hp; omega
  refine { pos := ?_, bnd := ?_, emp := ?_, nod := ?_, half := ?_, area := ?_, bdy := ?_ }
  · intro t ht; simp only [List.mem_singleton] at ht; subst ht; exact hp
  · intro t ht; simp only [List.mem_singleton] at ht; subst ht; exact ⟨hB A (by simp), hB B (by simp), hB C (by simp)⟩
  · intro t ht; simp only [List.mem_singleton] at ht; subst ht; exact ⟨he, h⟩
  · simp only [sides, dsT, List.flatMap_cons, List.flatMap_nil, List.append_nil, List.nodup_cons, List.mem_cons, List.not_mem_nil, or_false, Prod.mk.injEq, not_or, not_false_eq_true, List.nodup_nil, and_true]
    refine ⟨⟨fun h => nAB h.1, fun h => nCA h.1.symm⟩, fun h => nBC h.1⟩
  · intro u w h t ht; simp only [List.mem_singleton] at ht; subst ht; exact h
  · unfold areaT tnT; simp
  · intro e
    rw [dl_one g1, dl_one g2, dl_one g3]
    unfold net
    have c : ∀ e, (sides [(A, B, C)]).count e = ([(A, B)] : List (Pt × Pt)).count e + ([(B, C)] : List (Pt × Pt)).count e + ([(C, A)] : List (Pt × Pt)).count e := fun e => by
      have : sides [(A, B, C)] = [(A, B)] ++ [(B, C)] ++ [(C, A)] := rfl
      rw [this, List.count_append, List.count_append]
    rw [c, c]
    omega
theorem fill_tri : (n : Nat) → {A B C : Pt} → (∀ q ∈ [A, B, C], Bd 50 q) → 0 < tn A B C → (tn A B C).natAbs ≤ n → Fill A B C (triP n A B C)
  | 0, A, B, C, hB, hp, hn => by omega
  | n + 1, A, B, C, hB, hp, hn => by
    have bA := hB A (by simp)
    have bB := hB B (by simp)
    have bC := hB C (by simp)
    simp only [triP]
    cases hf : fst3 A B C with
    | none => exact fill_one hB hp hf
    | some v =>
      obtain ⟨x, rfl, bx, hin, nA, nB, nC⟩ := fst3_mem hB hf
      obtain ⟨hs, l1, l2, l3⟩ := split_area (by omega) hin nA nB nC
      have hin' : inP [A, B, C] x := by unfold ori at hin; rwa [if_neg (by omega)] at hin
      obtain ⟨i1, i2, i3⟩ := inP3.1 hin'
      have k1 : tn x A B = tn A B x := (Hull.tn_cyc x A B).symm
      have k2 : tn x B C = tn B C x := (Hull.tn_cyc x B C).symm
      have k3 : tn x C A = tn C A x := (Hull.tn_cyc x C A).symm
      have e : toP (em x) = x := rfl
      simp only [e]
      have part : ∀ {a b c : Pt}, Bd 50 a → Bd 50 b → 0 < tn a b c → 0 ≤ tn a b x → 0 ≤ tn b c x → 0 ≤ tn c a x → tn x a b = tn a b x → (tn x a b).natAbs < (tn A B C).natAbs → Fill x a b (if tn x a b = 0 then [] else triP n x a b) := fun {a b c} ha hb habc z1 z2 z3 hk hlt => by
        by_cases hz : tn x a b = 0
        · rw [if_pos hz]; exact fill_flat habc hz z2 z3
        · rw [if_neg hz]
          exact fill_tri n (fun q hq => by
            simp only [List.mem_cons, List.not_mem_nil, or_false] at hq
            rcases hq with rfl | rfl | rfl <;> assumption) (by omega) (by omega)
      exact fill_join hp i1 i2 i3 nA nB nC (part bA bB hp i1 i2 i3 k1 l1) (part (c := A) bB bC (by rw [Hull.tn_cyc]; exact hp) i2 i3 i1 k2 l2) (part (c := B) bC bA (by rw [Hull.tn_cyc, Hull.tn_cyc]; exact hp) i3 i1 i2 k3 l3)
/-! The fan of a polygon. -/
structure FillP (P : List Pt) (k : Nat) (T : List (Pt × Pt × Pt)) : Prop extends Good T where
  half : ∀ u w, (∀ j, j ≤ k + 1 → 0 ≤ tn u w (at_ P j)) → ∀ t ∈ T, InH u w t
  area : areaT T = sumN (k + 1) (fun j => crsP (at_ P j) (at_ P (j + 1))) + crsP (at_ P (k + 1)) (at_ P 0)
  bdy : ∀ e, net T e = sumN (k + 1) (fun j => dl e (at_ P j) (at_ P (j + 1))) + dl e (at_ P (k + 1)) (at_ P 0)
theorem fill_fan {P : List Pt} (hB : ∀ q ∈ P, Bd 50 q) (hP : Pol P) : (k : Nat) → k + 1 < P.length → FillP P k (fanP P k)
  | 0, hk => by
    refine { pos := by simp [fanP], bnd := by simp [fanP], emp := by simp [fanP], nod := by simp [fanP, sides], half := by simp [fanP], area := ?_, bdy := ?_ }
    · have : areaT (fanP P 0) = 0 := rfl
      rw [this]
      simp only [sumN]
      unfold crsP; grind
    · intro e
      have : net (fanP P 0) e = 0 := rfl
      have d := dl_flip e (at_ P 0) (at_ P (0 + 1))
      rw [this]
      simp only [sumN]
      omega
  | k + 1, hk => by
    have ih := fill_fan hB hP k (by omega)
    have b0 := hB _ (at_mem (show 0 < P.length by omega))
    have b1 := hB _ (at_mem (show k + 1 < P.length by omega))
    have b2 := hB _ (at_mem (show k + 2 < P.length by omega))
    have hp := star_next hP (k := k + 1) (by omega) (by omega)
    have hbd := tn_bd b0 b1 b2
    have f := fill_tri 30000 (A := at_ P 0) (B := at_ P (k + 1)) (C := at_ P (k + 2)) (fun q hq => by
      simp only [List.mem_cons, List.not_mem_nil, or_false] at hq
      rcases hq with rfl | rfl | rfl <;> assumption) hp (by omega)
    have hne : at_ P (k + 1) ≠ at_ P 0 := fun h => by have := pol_inj hP (by omega) (by omega) h; omega
    have h1 : ∀ t ∈ fanP P k, InH (at_ P (k + 1)) (at_ P 0) t := ih.half _ _ fun j hj => by
      rcases Nat.eq_zero_or_pos j with rfl | h0
      · rw [tn0b]; omega
      · by_cases hj' : j = k + 1
        · subst hj'; rw [tn0a]; omega
        · obtain ⟨d, hd⟩ : ∃ d, k + 1 = j + d + 1 := ⟨k - j, by omega⟩
          have := star_far hP h0 d (by omega)
          rw [← hd] at this
          rw [show tn (at_ P (k + 1)) (at_ P 0) (at_ P j) = tn (at_ P 0) (at_ P j) (at_ P (k + 1)) from by rw [Hull.tn_cyc, Hull.tn_cyc]]
          omega
    have h2 : ∀ t ∈ triP 30000 (at_ P 0) (at_ P (k + 1)) (at_ P (k + 2)), InH (at_ P 0) (at_ P (k + 1)) t := f.half _ _ ⟨by simp only; rw [tn0a]; omega, by simp only; rw [tn0b]; omega, by simp only; exact Int.le_of_lt hp⟩
    have g := good_app ih.toGood f.toGood hne h1 h2
    simp only [fanP]
    refine { g with half := ?_, area := ?_, bdy := ?_ }
    · intro u w h t ht
      rcases List.mem_append.1 ht with ht | ht
      · exact ih.half u w (fun j hj => h j (by omega)) t ht
      · exact f.half u w ⟨h 0 (by omega), h (k + 1) (by omega), h (k + 2) (by omega)⟩ t ht
    · rw [areaT_app, ih.area, f.area]
      simp only [sumN]
      have : ∀ a b c : Pt, tn a b c = crsP a b + crsP b c + crsP c a := fun a b c => by unfold tn crsP; grind
      rw [this]
      have : crsP (at_ P (k + 1)) (at_ P 0) = - crsP (at_ P 0) (at_ P (k + 1)) := by unfold crsP; grind
      rw [show k + 1 + 1 = k + 2 from rfl]
      omega
    · intro e
      rw [net_app, ih.bdy, f.bdy]
      simp only [sumN]
      have := dl_flip e (at_ P 0) (at_ P (k + 1))
      rw [show k + 1 + 1 = k + 2 from rfl]
      omega
theorem sum_nx {P : List Pt} {n : Nat} (hn : P.length = n + 1) (F : Pt → Pt → Int) : sumN P.length (fun k => F (at_ P k) (nx P k)) = sumN n (fun k => F (at_ P k) (at_ P (k + 1))) + F (at_ P n) (at_ P 0) := by
  rw [hn]
  have h1 : sumN n (fun k => F (at_ P k) (nx P k)) = sumN n (fun k => F (at_ P k) (at_ P (k + 1))) := sumN_congr n fun k hk => by
    unfold nx
    rw [Nat.mod_eq_of_lt (by omega)]
  have h2 : nx P n = at_ P 0 := by unfold nx; rw [hn, Nat.mod_self]
  have e : sumN (n + 1) (fun k => F (at_ P k) (nx P k)) = sumN n (fun k => F (at_ P k) (nx P k)) + F (at_ P n) (nx P n) := rfl
  rw [e, h1, h2]
/-- All that the fan gives. -/
theorem fan_all {P : List Pt} (hB : ∀ q ∈ P, Bd 50 q) (hP : Pol P) : Good (fanP P (P.length - 2)) ∧ ((fanP P (P.length - 2)).length : Int) = areaS P ∧
    (∀ e, net (fanP P (P.length - 2)) e = sumN P.length (fun k => dl e (at_ P k) (nx P k))) ∧ ∀ u w, (∀ q ∈ P, 0 ≤ tn u w q) → ∀ t ∈ fanP P (P.length - 2), InH u w t := by
  have h3 := hP.len
  have f := fill_fan hB hP (P.length - 2) (by omega)
  refine ⟨f.toGood, ?_, fun e => ?_, fun u w h => f.half u w fun j hj => h _ (at_mem (by omega))⟩
  · have h1 : ∀ T : List (Pt × Pt × Pt), (∀ t ∈ T, tnT t = 1) → areaT T = (T.length : Int) := fun T => by
      induction T with
      | nil => intro _; rfl
      | cons a T ih =>
        intro h
        have := ih fun t ht => h t (List.mem_cons_of_mem _ ht)
        have ha := h a (by simp)
        unfold areaT at *
        simp only [List.map_cons, List.sum_cons, List.length_cons]
        omega
    rw [← h1 _ fun t ht => emp_one (f.emp t ht).1 (f.pos t ht), f.area]
    unfold areaS
    rw [sum_nx (n := P.length - 2 + 1) (by omega) crsP]
  · rw [f.bdy, sum_nx (n := P.length - 2 + 1) (by omega) (dl e)]
end Go.Proofs.Ytcpdhjklcongoaa
