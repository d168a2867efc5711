/-
  Plain: a reflexive polygon and its dual. No condition.
-/
import Derived.Test.YtgbkkmidloeciaaGreatPlTw
import Derived.Test.YtgbkkmidloeciaaGreatPlDu
import Derived.Test.YtgbkkmidloeciaaGreatPlSu
namespace Go.Proofs.YtgbkkmidloeciaaGreat
open Go Go.Proofs.YtgbkkmidloeciaaGreat.Eng
set_option linter.unusedVariables false
set_option linter.unusedSimpArgs false
open Hull (Pt Pol tn lx at_ at_some at_of at_mem Asc ng)
/-! Chains out of strictly convex ones. -/
/-- what is asked of a convex polygon with sides of height one -/
structure Sc (n : Nat) (u e : Nat → Pt) (g : Nat → Int) : Prop where
  len : 3 ≤ n
  peru : ∀ k, u (k + n) = u k
  pere : ∀ k, e (k + n) = e k
  perg : ∀ k, g (k + n) = g k
  pos : ∀ i, 1 ≤ g i
  nxt : ∀ i, u (i + 1) = go (u i) (e i) (g i)
  one : ∀ i, dP (u i) (e i) = 1
  cvx : ∀ i j, dP (u j) (e i) ≤ 1
  inj : ∀ i j, i < n → j < n → u i = u j → i = j
  str : ∀ i, 0 < dP (e i) (e (i + 1))
theorem Sc.two {n : Nat} {u e : Nat → Pt} {g : Nat → Int} (h : Sc n u e g) (i : Nat) : dP (u (i + 1)) (e i) = 1 := by
  rw [h.nxt i, go_dP, dP_self, h.one i]; simp
theorem Sc.prev {n : Nat} {u e : Nat → Pt} {g : Nat → Int} (h : Sc n u e g) (i : Nat) : ∃ k, u (k + 1) = u i ∧ e (k + 1) = e i := by
  have l3 := h.len
  refine ⟨i + (n - 1), ?_, ?_⟩
  · rw [show i + (n - 1) + 1 = i + n from by omega, h.peru]
  · rw [show i + (n - 1) + 1 = i + n from by omega, h.pere]
/-- a point within a side lies on no other side's line -/
theorem Sc.within {n : Nat} {u e : Nat → Pt} {g : Nat → Int} (h : Sc n u e g) {i m : Nat} {s : Int} (h0 : 0 < s) (h1 : s < g i) (hm : dP (go (u i) (e i) s) (e m) = 1) : e i = e m := by
  have c1 := h.cvx m i
  have c2 := h.cvx m (i + 1)
  have hx : dP (go (u i) (e i) s) (e i) = 1 := by rw [go_dP, dP_self, h.one i]; omega
  have r := dP_rel (go (u i) (e i) s) (e i) (e m)
  have hm' := hm
  rw [go_dP] at hm
  rw [h.nxt i, go_dP] at c2
  generalize dP (u i) (e m) = α at *
  have hb : dP (e i) (e m) = 0 := by
    generalize dP (e i) (e m) = β at *
    by_cases hb1 : 1 ≤ β
    · have e1 := Int.mul_nonneg (a := g i - s) (b := β - 1) (by omega) (by omega)
      have e2 : (g i - s) * (β - 1) = g i * β - s * β - g i + s := by grind
      omega
    · by_cases hb2 : β ≤ -1
      · have e1 := Int.mul_nonneg (a := s) (b := -β - 1) (by omega) (by omega)
        have e2 : s * (-β - 1) = -(s * β) - s := by grind
        omega
      · omega
  rw [hb, hx] at r
  rw [hm'] at r
  exact Prod.ext (by omega) (by omega)
theorem Sc.corner {n : Nat} {u e : Nat → Pt} {g : Nat → Int} (h : Sc n u e g) {i j : Nat} {s : Int} (h0 : 0 < s) (h1 : s < g i) (he : u j = go (u i) (e i) s) : False := by
  have a1 := h.within h0 h1 (m := j) (by rw [← he]; exact h.one j)
  obtain ⟨k, k1, k2⟩ := h.prev j
  have a2 := h.within h0 h1 (m := k) (by rw [← he, ← k1]; exact h.two k)
  have := h.str k
  rw [k2, ← a2, ← a1, dP_self] at this
  omega
theorem Sc.gc {n : Nat} {u e : Nat → Pt} {g : Nat → Int} (h : Sc n u e g) : Gc n u e g where
  len := h.len
  peru := h.peru
  pere := h.pere
  perg := h.perg
  pos := h.pos
  nxt := h.nxt
  one := h.one
  cvx := h.cvx
  inj i j s t hi hj s0 s1 t0 t1 he := by
    by_cases hs : s = 0
    · subst hs
      rw [go_zero] at he
      by_cases ht : t = 0
      · subst ht
        rw [go_zero] at he
        exact h.inj i j hi hj he
      · exact (h.corner (by omega) t1 he).elim
    · by_cases ht : t = 0
      · subst ht
        rw [go_zero] at he
        exact (h.corner (by omega) s1 he.symm).elim
      · have ee := h.within (by omega) s1 (m := j) (by rw [he, go_dP, dP_self, h.one j]; omega)
        have sh : ∀ a b : Int, go (u i) (e i) a = go (u j) (e j) b → u j = go (u i) (e i) (a - b) ∧ u i = go (u j) (e j) (b - a) := fun a b hab => by
          rw [← ee] at hab ⊢
          have hx := congrArg Prod.fst hab
          have hy := congrArg Prod.snd hab
          unfold go at hx hy ⊢
          simp only at hx hy
          constructor <;> apply Prod.ext <;> simp only <;> grind
        obtain ⟨q1, q2⟩ := sh s t he
        rcases Int.lt_trichotomy s t with c | c | c
        · exact (h.corner (j := i) (by omega) (by omega) q2).elim
        · subst c
          rw [Int.sub_self, go_zero] at q1
          exact h.inj i j hi hj q1.symm
        · exact (h.corner (j := j) (by omega) (by omega) q1).elim
/-- only a side's ends lie on its line -/
theorem Sc.ends {n : Nat} {u e : Nat → Pt} {g : Nat → Int} (h : Sc n u e g) {i j : Nat} (he : dP (u i) (e j) = 1) : u i = u j ∨ u i = u (j + 1) := by
  have hx : u i = go (u j) (e j) (dP (u j) (u i)) := by
    have r := dP_rel (u j) (u i) (e j)
    rw [h.one j, he] at r
    unfold go
    apply Prod.ext <;> simp only <;> omega
  generalize dP (u j) (u i) = s at hx
  by_cases s0 : s = 0
  · subst s0; rw [go_zero] at hx; exact .inl hx
  by_cases s1 : s = g j
  · subst s1; rw [← h.nxt j] at hx; exact .inr hx
  exfalso
  by_cases s2 : s < 0
  · obtain ⟨k, k1, k2⟩ := h.prev j
    have c := h.cvx k i
    have t := h.two k
    have st := h.str k
    rw [k2] at st
    rw [k1] at t
    rw [hx, go_dP, t, dP_swap] at c
    have := Int.mul_nonneg (a := -s - 1) (b := dP (e k) (e j)) (by omega) (by omega)
    have e1 : (-s - 1) * dP (e k) (e j) = s * -dP (e k) (e j) - dP (e k) (e j) := by grind
    omega
  · by_cases s3 : s < g j
    · exact h.corner (by omega) s3 hx
    · have c := h.cvx (j + 1) i
      have t := h.one (j + 1)
      have st := h.str j
      have hx' : u i = go (u (j + 1)) (e j) (s - g j) := by rw [hx, h.nxt j, go_go]; congr 1; omega
      rw [hx', go_dP, t] at c
      have := Int.mul_nonneg (a := s - g j - 1) (b := dP (e j) (e (j + 1))) (by omega) (by omega)
      have e1 : (s - g j - 1) * dP (e j) (e (j + 1)) = (s - g j) * dP (e j) (e (j + 1)) - dP (e j) (e (j + 1)) := by grind
      omega
theorem Sc.strict {n : Nat} {u e : Nat → Pt} {g : Nat → Int} (h : Sc n u e g) {i j : Nat} (h1 : i % n ≠ j % n) (h2 : i % n ≠ (j + 1) % n) : dP (u i) (e j) < 1 := by
  have l3 := h.len
  have c := h.cvx j i
  apply Decidable.byContradiction
  intro hn
  rcases h.ends (i := i) (j := j) (by omega) with he | he
  · rw [← per_mod h.peru i, ← per_mod h.peru j] at he
    exact h1 (h.inj _ _ (Nat.mod_lt _ (by omega)) (Nat.mod_lt _ (by omega)) he)
  · rw [← per_mod h.peru i, ← per_mod h.peru (j + 1)] at he
    exact h2 (h.inj _ _ (Nat.mod_lt _ (by omega)) (Nat.mod_lt _ (by omega)) he)
/-! The dual of such a chain. -/
def rt (e : Pt) : Pt := (e.2, -e.1)
theorem dt_rt (a e : Pt) : dt a (rt e) = dP a e := by unfold dt rt dP; grind
theorem dP_rt (a b : Pt) : dP (rt a) (rt b) = dP a b := by unfold dP rt; grind
theorem rt_inj {a b : Pt} (h : rt a = rt b) : a = b := by
  unfold rt at h
  have h1 := congrArg Prod.fst h
  have h2 := congrArg Prod.snd h
  simp only at h1 h2
  exact Prod.ext (by omega) (by omega)
/-- a side of the dual -/
theorem Sc.dual {n : Nat} {u e : Nat → Pt} {g : Nat → Int} (h : Sc n u e g) (i : Nat) : rt (e (i + 1)) = go (rt (e i)) (-(u (i + 1)).2, (u (i + 1)).1) (dP (e i) (e (i + 1))) := by
  have r := dP_rel (e i) (u (i + 1)) (e (i + 1))
  rw [h.one (i + 1), dP_swap (e i) (u (i + 1)), h.two i] at r
  unfold go rt
  apply Prod.ext <;> simp only <;> grind
theorem prim_dP {a e : Pt} (h : dP a e = 1) : Int.gcd a.1 a.2 = 1 := by
  have h1 : ((Int.gcd a.1 a.2 : Nat) : Int) ∣ a.1 := Int.gcd_dvd_left ..
  have h2 : ((Int.gcd a.1 a.2 : Nat) : Int) ∣ a.2 := Int.gcd_dvd_right ..
  have : ((Int.gcd a.1 a.2 : Nat) : Int) ∣ 1 := by
    rw [← h]
    unfold dP
    exact Int.dvd_sub (Int.dvd_mul_of_dvd_left h1) (Int.dvd_mul_of_dvd_left h2)
  exact Int.natCast_dvd_natCast.1 this |> Nat.dvd_one.1
theorem Sc.einj {n : Nat} {u e : Nat → Pt} {g : Nat → Int} (h : Sc n u e g) (i j : Nat) (hi : i < n) (hj : j < n) (he : e i = e j) : i = j := by
  have l3 := h.len
  apply Decidable.byContradiction
  intro hne
  have a1 : i % n ≠ j % n := by rw [Nat.mod_eq_of_lt hi, Nat.mod_eq_of_lt hj]; exact hne
  have b1 : i = (j + 1) % n := by
    apply Decidable.byContradiction
    intro hb
    have := h.strict (i := i) (j := j) a1 (by rw [Nat.mod_eq_of_lt hi]; exact hb)
    rw [← he, h.one i] at this
    omega
  have b2 : j = (i + 1) % n := by
    apply Decidable.byContradiction
    intro hb
    have := h.strict (i := j) (j := i) (fun q => a1 q.symm) (by rw [Nat.mod_eq_of_lt hj]; exact hb)
    rw [he, h.one j] at this
    omega
  rcases mod_step (by omega : 2 ≤ n) i with ⟨c1, c2⟩ | ⟨c1, c2⟩ <;> rcases mod_step (by omega : 2 ≤ n) j with ⟨d1, d2⟩ | ⟨d1, d2⟩ <;> rw [Nat.mod_eq_of_lt hi] at c1 <;> rw [Nat.mod_eq_of_lt hj] at d1 <;> omega
/-- the turn of three points of the dual, the first two neighbors -/
theorem Sc.turn {n : Nat} {u e : Nat → Pt} {g : Nat → Int} (h : Sc n u e g) (i j : Nat) : tn (rt (e i)) (rt (e (i + 1))) (rt (e j)) = dP (e i) (e (i + 1)) * (1 - dP (u (i + 1)) (e j)) := by
  have d := h.dual i
  have t := h.two i
  have d1 := congrArg Prod.fst d
  have d2 := congrArg Prod.snd d
  unfold tn
  rw [d1, d2]
  unfold go rt
  simp only
  generalize dP (e i) (e (i + 1)) = l at *
  unfold dP at t ⊢
  grind
theorem Sc.turn_pos {n : Nat} {u e : Nat → Pt} {g : Nat → Int} (h : Sc n u e g) {i j : Nat} (h1 : j % n ≠ i % n) (h2 : j % n ≠ (i + 1) % n) : 0 < tn (rt (e i)) (rt (e (i + 1))) (rt (e j)) := by
  have l3 := h.len
  rw [h.turn]
  have a := h.str i
  have b := h.strict (i := i + 1) (j := j) (fun q => h2 q.symm) (fun q => by
    apply h1
    rcases mod_step (by omega : 2 ≤ n) i with ⟨c1, c2⟩ | ⟨c1, c2⟩ <;> rcases mod_step (by omega : 2 ≤ n) j with ⟨d1, d2⟩ | ⟨d1, d2⟩ <;> omega)
  exact Int.mul_pos a (by omega)
theorem least_lx (f : Nat → Pt) : ∀ n, ∃ r, r < n + 1 ∧ ∀ j, j < n + 1 → f r = f j ∨ lx (f r) (f j)
  | 0 => ⟨0, by omega, fun j hj => .inl (by rw [show j = 0 by omega])⟩
  | n + 1 => by
    obtain ⟨r, h1, h2⟩ := least_lx f n
    rcases Hull.lx_tri (f r) (f (n + 1)) with h | h | h
    · exact ⟨r, by omega, fun j hj => if e : j = n + 1 then by rw [e]; exact .inr h else h2 j (by omega)⟩
    · exact ⟨r, by omega, fun j hj => if e : j = n + 1 then by rw [e]; exact .inl h else h2 j (by omega)⟩
    · refine ⟨n + 1, by omega, fun j hj => ?_⟩
      by_cases e : j = n + 1
      · rw [e]; exact .inl rfl
      · rcases h2 j (by omega) with k | k
        · rw [← k]; exact .inr h
        · exact .inr (Hull.lx_trans h k)
/-- the dual's corners, from the least one on -/
def dualL (n : Nat) (e : Nat → Pt) (r : Nat) : List Pt := (List.range n).map fun k => rt (e (k + r))
theorem dualL_at {n : Nat} {e : Nat → Pt} {r k : Nat} (h : k < n) : at_ (dualL n e r) k = rt (e (k + r)) := at_of (by simp [dualL, h])
theorem Sc.dual_pol {n : Nat} {u e : Nat → Pt} {g : Nat → Int} (h : Sc n u e g) : ∃ r, r < n ∧ Pol (dualL n e r) := by
  have l3 := h.len
  obtain ⟨r, r1, r2⟩ := least_lx (fun k => rt (e k)) (n - 1)
  rw [show n - 1 + 1 = n from by omega] at r1 r2
  refine ⟨r, r1, ?_⟩
  have hlen : (dualL n e r).length = n := by simp [dualL]
  have hlx : ∀ k, k % n ≠ r → lx (rt (e r)) (rt (e k)) := fun k hk => by
    rw [← per_mod h.pere k]
    rcases r2 (k % n) (Nat.mod_lt _ (by omega)) with q | q
    · exact absurd (h.einj _ _ r1 (Nat.mod_lt _ (by omega)) (rt_inj q)).symm hk
    · exact q
  have at' : ∀ k, at_ (dualL n e r) (k % n) = rt (e (k + r)) := fun k => by
    rw [dualL_at (Nat.mod_lt _ (by omega)), ← per_mod h.pere (k % n + r), ← per_mod h.pere (k + r), Nat.mod_add_mod]
  refine (Hull.pol_chk (by rw [hlen]; exact l3)).2 fun k hk => ?_
  rw [hlen] at hk
  unfold Hull.chk
  rw [hlen]
  have hkr : ∀ j, 1 ≤ j → j < n → (j + r) % n ≠ r := fun j h0 h1 => by
    by_cases c : j + r < n
    · rw [Nat.mod_eq_of_lt c]; omega
    · rw [Nat.mod_eq_sub_mod (by omega), Nat.mod_eq_of_lt (by omega)]; omega
  have ne : ∀ a b, a < b → b < a + n → (a + r) % n ≠ (b + r) % n := fun a b h1 h2 hq => by
    have := Nat.sub_mod_eq_zero_of_mod_eq hq.symm
    rw [show b + r - (a + r) = b - a from by omega, Nat.mod_eq_of_lt (by omega)] at this
    omega
  simp only [Bool.and_eq_true, Bool.or_eq_true, decide_eq_true_eq, beq_iff_eq]
  refine ⟨?_, ?_⟩
  · rw [at' (k + 1), at' (k + 2), dualL_at hk, show k + 1 + r = k + r + 1 from by omega]
    exact h.turn_pos (fun q => ne k (k + 2) (by omega) (by omega) q.symm) (fun q => ne (k + 1) (k + 2) (by omega) (by omega) (by rw [show k + 1 + r = k + r + 1 from by omega]; exact q.symm))
  · by_cases k0 : k = 0
    · exact .inl k0
    · right
      have e0 : at_ (dualL n e r) 0 = rt (e r) := by rw [dualL_at (by omega), Nat.zero_add]
      rw [e0, dualL_at hk]
      refine ⟨hlx _ (hkr k (by omega) hk), ?_⟩
      by_cases c : n ≤ k + 1
      · exact .inl c
      · right
        rw [dualL_at (by omega), ← Hull.tn_cyc, show k + 1 + r = k + r + 1 from by omega]
        refine h.turn_pos (fun q => ?_) (fun q => ?_)
        · rw [Nat.mod_eq_of_lt r1] at q; exact hkr k (by omega) hk q.symm
        · rw [Nat.mod_eq_of_lt r1] at q; exact hkr (k + 1) (by omega) (by omega) (by rw [show k + 1 + r = k + r + 1 from by omega]; exact q.symm)
/-- heights and lengths of the dual's sides -/
theorem Sc.dual_sides {n : Nat} {u e : Nat → Pt} {g : Nat → Int} (h : Sc n u e g) {r k : Nat} (hk : k < n) :
    cS (dualL n e r) k = dP (e (k + r)) (e (k + r + 1)) ∧ gS (dualL n e r) k = dP (e (k + r)) (e (k + r + 1)) ∧ prm (sbp (at_ (dualL n e r) ((k + 1) % (dualL n e r).length)) (at_ (dualL n e r) k)) = (-(u (k + r + 1)).2, (u (k + r + 1)).1) := by
  have l3 := h.len
  have hlen : (dualL n e r).length = n := by simp [dualL]
  have at' : at_ (dualL n e r) ((k + 1) % n) = rt (e (k + r + 1)) := by
    rw [dualL_at (Nat.mod_lt _ (by omega)), ← per_mod h.pere ((k + 1) % n + r), ← per_mod h.pere (k + r + 1), Nat.mod_add_mod, show k + 1 + r = k + r + 1 from by omega]
  have d := h.dual (k + r)
  have s := h.str (k + r)
  have o := prim_dP (h.one (k + r + 1))
  have hc : cS (dualL n e r) k = dP (e (k + r)) (e (k + r + 1)) := by
    rw [← dP_rt]
    unfold cS
    rw [hlen, at', dualL_at hk]; rfl
  have hs : sbp (at_ (dualL n e r) ((k + 1) % (dualL n e r).length)) (at_ (dualL n e r) k) = (dP (e (k + r)) (e (k + r + 1)) * -(u (k + r + 1)).2, dP (e (k + r)) (e (k + r + 1)) * (u (k + r + 1)).1) := by
    rw [hlen, at', dualL_at hk, d]
    unfold sbp go
    apply Prod.ext <;> simp only <;> omega
  generalize u (k + r + 1) = x at *
  generalize dP (e (k + r)) (e (k + r + 1)) = l at *
  have hg : (Int.gcd (l * -x.2) (l * x.1) : Int) = l := by
    rw [Int.gcd_mul_left, Int.neg_gcd, Int.gcd_comm, o, Nat.mul_one]
    omega
  refine ⟨hc, ?_, ?_⟩
  · have : gS (dualL n e r) k = (Int.gcd (sbp (at_ (dualL n e r) ((k + 1) % (dualL n e r).length)) (at_ (dualL n e r) k)).1 (sbp (at_ (dualL n e r) ((k + 1) % (dualL n e r).length)) (at_ (dualL n e r) k)).2 : Nat) := rfl
    rw [this, hs]
    exact hg
  · rw [hs]
    unfold prm
    simp only
    rw [hg, Int.mul_tdiv_cancel_left _ (by omega), Int.mul_tdiv_cancel_left _ (by omega)]
/-! Polygons. -/
/-- a reflexive polygon's sides: the primitive steps, for all numbers -/
def ev (P : List Pt) (k : Nat) : Pt := prm (sbp (at_ P ((k % P.length + 1) % P.length)) (at_ P (k % P.length)))
theorem sc_of {P : List Pt} (g3 : 3 ≤ P.length) (hpol : Pol P) (hh : ∀ k, k < P.length → 0 < cS P k ∧ cS P k = gS P k) : Sc P.length (fun k => at_ P (k % P.length)) (ev P) (fun k => gS P (k % P.length)) := by
  have hm : ∀ j, j % P.length < P.length := fun j => Nat.mod_lt _ (by omega)
  -- one side
  have side : ∀ k, k < P.length → at_ P ((k + 1) % P.length) = go (at_ P k) (prm (sbp (at_ P ((k + 1) % P.length)) (at_ P k))) (gS P k) ∧ dP (at_ P k) (prm (sbp (at_ P ((k + 1) % P.length)) (at_ P k))) = 1 := fun k hk => by
    obtain ⟨h0, he⟩ := hh k hk
    have hg : gS P k = (Int.gcd (sbp (at_ P ((k + 1) % P.length)) (at_ P k)).1 (sbp (at_ P ((k + 1) % P.length)) (at_ P k)).2 : Nat) := rfl
    have hc : cS P k = dP (at_ P k) (at_ P ((k + 1) % P.length)) := rfl
    have d1 : gS P k ∣ (sbp (at_ P ((k + 1) % P.length)) (at_ P k)).1 := by rw [hg]; exact Int.gcd_dvd_left ..
    have d2 : gS P k ∣ (sbp (at_ P ((k + 1) % P.length)) (at_ P k)).2 := by rw [hg]; exact Int.gcd_dvd_right ..
    rw [he] at h0 hc
    unfold prm
    rw [← hg]
    generalize gS P k = g at *
    generalize at_ P ((k + 1) % P.length) = b at *
    generalize at_ P k = a at *
    obtain ⟨x, hx⟩ := d1
    obtain ⟨y, hy⟩ := d2
    rw [hx, hy, Int.mul_tdiv_cancel_left _ (by omega), Int.mul_tdiv_cancel_left _ (by omega)]
    unfold sbp at hx hy
    simp only at hx hy
    have b1 : b = go a (x, y) g := by unfold go; apply Prod.ext <;> simp only <;> omega
    refine ⟨b1, ?_⟩
    rw [b1, dP_go, dP_self] at hc
    have : g * dP a (x, y) = g * 1 := by omega
    exact Int.eq_of_mul_eq_mul_left (by omega) this
  have hmod : ∀ k, (k + P.length) % P.length = k % P.length := fun k => Nat.add_mod_right ..
  have hsucc : ∀ k, (k % P.length + 1) % P.length = (k + 1) % P.length := fun k => by rw [Nat.mod_add_mod]
  refine ⟨g3, fun k => by simp only [hmod], fun k => by unfold ev; rw [hmod], fun k => by simp only [hmod], fun i => ?_, fun i => ?_, fun i => ?_, fun i j => ?_, fun i j hi hj he => ?_, fun i => ?_⟩
  · have := hh _ (hm i)
    show 1 ≤ gS P (i % P.length)
    omega
  · show at_ P ((i + 1) % P.length) = go (at_ P (i % P.length)) (ev P i) (gS P (i % P.length))
    have := (side _ (hm i)).1
    unfold ev
    rw [← hsucc i]
    exact this
  · exact (side _ (hm i)).2
  · show dP (at_ P (j % P.length)) (ev P i) ≤ 1
    have h1 := mem_in hpol (at_mem (hm j)) _ (hm i)
    obtain ⟨s1, s2⟩ := side _ (hm i)
    have hp := hh _ (hm i)
    unfold sd at h1
    unfold ev
    rw [s1] at h1
    rw [← s1] at h1
    generalize prm (sbp (at_ P ((i % P.length + 1) % P.length)) (at_ P (i % P.length))) = e at *
    rw [s1] at h1
    generalize at_ P (i % P.length) = a at *
    generalize at_ P (j % P.length) = q at *
    generalize gS P (i % P.length) = g at *
    have e1 : tn a (go a e g) q = g * (dP a e - dP q e) := by unfold tn go dP; grind
    rw [e1, s2] at h1
    apply Decidable.byContradiction
    intro hn
    have := Int.mul_pos (a := g) (b := dP q e - 1) (by omega) (by omega)
    have e2 : g * (1 - dP q e) = -(g * (dP q e - 1)) := by grind
    omega
  · have he : at_ P (i % P.length) = at_ P (j % P.length) := he
    rw [Nat.mod_eq_of_lt hi, Nat.mod_eq_of_lt hj] at he
    exact pol_inj hpol hi hj he
  · have hc := (Hull.pol_chk g3).1 hpol (i % P.length) (hm i)
    unfold Hull.chk at hc
    simp only [Bool.and_eq_true, decide_eq_true_eq] at hc
    have ht := hc.1
    obtain ⟨s1, s2⟩ := side _ (hm i)
    obtain ⟨t1, t2⟩ := side _ (hm (i + 1))
    have p1 := hh _ (hm i)
    have p2 := hh _ (hm (i + 1))
    have e2 : (i % P.length + 2) % P.length = ((i + 1) % P.length + 1) % P.length := by rw [Nat.mod_add_mod, Nat.mod_add_mod]
    rw [e2] at ht
    unfold ev
    rw [hsucc i] at s1 s2 ht ⊢
    generalize prm (sbp (at_ P ((i + 1) % P.length)) (at_ P (i % P.length))) = e at *
    generalize prm (sbp (at_ P (((i + 1) % P.length + 1) % P.length)) (at_ P ((i + 1) % P.length))) = f at *
    rw [t1] at ht
    generalize at_ P ((i + 1) % P.length) = b at *
    generalize at_ P (i % P.length) = a at *
    generalize gS P (i % P.length) = g at *
    generalize gS P ((i + 1) % P.length) = k at *
    have e1 : tn a b (go b f k) = k * (g * dP e f) := by rw [s1]; unfold tn go dP; grind
    rw [e1] at ht
    show 0 < dP e f
    apply Decidable.byContradiction
    intro hn
    have q1 := Int.mul_nonneg (a := g) (b := -dP e f) (by omega) (by omega)
    have q2 := Int.mul_nonneg (a := k) (b := g * -dP e f) (by omega) q1
    rw [Int.mul_neg, Int.mul_neg] at q2
    omega
theorem sumF_shifts {f : Nat → Int} {n : Nat} (per : ∀ k, f (k + n) = f k) : ∀ r, sumF (fun k => f (k + r)) n = sumF f n
  | 0 => rfl
  | r + 1 => by
    rw [← sumF_shifts per r, ← sumF_shift (f := fun k => f (k + r)) (n := n) (by
      show f (n + r) = f (0 + r)
      rw [Nat.add_comm n r, per, Nat.zero_add])]
    exact sumF_congr _ _ n fun k _ => by show f (k + (r + 1)) = f (k + 1 + r); congr 1; omega
theorem hullS_pol {P : List Pt} (hB : ∀ q ∈ P, Bd 50 q) (h12 : P.length ≤ 12) (hpol : Pol P) : hullS (P.map em) = (P.map em, true) := by
  obtain ⟨g3, s3, e⟩ := (Hull.pol_iff P).1 hpol
  unfold hullS
  rw [if_pos ⟨by rw [List.length_map]; omega, all_pts hB⟩]
  simp only [map_em_toP]
  rw [if_pos ⟨s3, by rw [e]; exact g3, by rw [e]; exact h12⟩, e]
theorem hull_of_pol {L R : List Pt} (hR : Pol R) (hm : ∀ q, q ∈ L ↔ q ∈ R) : Hull.hull (Hull.sorted L) = R := by
  obtain ⟨s1, s2⟩ := Hull.sorted_spec L
  exact Hull.hull_pol hR s1 fun y => by rw [s2, hm]
/-- The dual of a reflexive polygon, if it is small enough: its corners, and all that the law asks. -/
theorem dual_all {P : List Pt} (hB : ∀ q ∈ P, Bd 50 q) (g3 : 3 ≤ P.length) (g12 : P.length ≤ 12) (hpol : Pol P) (hh : ∀ k, k < P.length → 0 < cS P k ∧ cS P k = gS P k)
    (ho : (hullS ((List.range P.length).map fun j => (sideH P j).1)).2 = true) :
    ∃ R : List Pt, hullS ((List.range P.length).map fun j => (sideH P j).1) = (R.map em, true) ∧ R.length = P.length ∧ (∀ q ∈ R, Bd 50 q) ∧ Pol R ∧ (∀ k, k < R.length → 0 < cS R k ∧ cS R k = gS R k) ∧
      sumF (gS P) P.length + sumF (gS R) R.length = 12 ∧ hullS ((List.range R.length).map fun j => (sideH R j).1) = (P.map em, true) ∧ ∀ p ∈ P, ∀ q ∈ R, dt p q ≤ 1 := by
  have h := sc_of g3 hpol hh
  have hm : ∀ j, j % P.length < P.length := fun j => Nat.mod_lt _ (by omega)
  obtain ⟨r, r1, hR⟩ := h.dual_pol
  have hlen : (dualL P.length (ev P) r).length = P.length := by simp [dualL]
  have eQ : ((List.range P.length).map fun j => (sideH P j).1) = ((List.range P.length).map fun j => rt (ev P j)).map em := by
    rw [List.map_map]
    refine List.map_congr_left fun j hj => ?_
    have hj := List.mem_range.1 hj
    simp only [Function.comp, sideH, rt, ev, Nat.mod_eq_of_lt hj]
  have mem : ∀ q, q ∈ ((List.range P.length).map fun j => rt (ev P j)) ↔ q ∈ dualL P.length (ev P) r := fun q => by
    unfold dualL
    simp only [List.mem_map, List.mem_range]
    constructor
    · rintro ⟨j, hj, rfl⟩
      refine ⟨(j + (P.length - r)) % P.length, hm _, ?_⟩
      rw [← per_mod h.pere ((j + (P.length - r)) % P.length + r), Nat.mod_add_mod, show j + (P.length - r) + r = j + P.length from by omega, Nat.add_mod_right, per_mod h.pere]
    · rintro ⟨j, hj, rfl⟩
      exact ⟨(j + r) % P.length, hm _, by rw [per_mod h.pere]⟩
  rw [eQ] at ho ⊢
  obtain ⟨t1, t2, t3, t4, t5, t6⟩ := hullS_true ho
  rw [hull_of_pol hR mem] at t1 t3 t4 t5
  have sides : ∀ k, k < P.length → cS (dualL P.length (ev P) r) k = dP (ev P (k + r)) (ev P (k + r + 1)) ∧ gS (dualL P.length (ev P) r) k = dP (ev P (k + r)) (ev P (k + r + 1)) ∧ _ := fun k hk => h.dual_sides (r := r) hk
  refine ⟨dualL P.length (ev P) r, t1, hlen, t5, hR, fun k hk => ?_, ?_, ?_, fun p hp q hq => ?_⟩
  · rw [hlen] at hk
    obtain ⟨a, b, _⟩ := sides k hk
    rw [a, b]
    exact ⟨h.str _, rfl⟩
  · have e := h.gc.twelve (sumF (fun k => gS P (k % P.length)) P.length - P.length).toNat P.length (by
      have := sumF_le (fun k => gS P (k % P.length) - 1) P.length fun k _ => by have : 1 ≤ gS P (k % P.length) := h.pos k; omega
      have e1 := sumF_sub (fun k => gS P (k % P.length)) (fun _ => 1) P.length
      have e2 : ∀ n, sumF (fun _ => (1 : Int)) n = n := fun n => by
        induction n with
        | zero => rfl
        | succ n ih => simp only [sumF, ih]; omega
      rw [e2] at e1
      omega)
    have e1 : sumF (gT (ev P) fun k => gS P (k % P.length)) P.length = sumF (gS P) P.length + sumF (fun k => dP (ev P k) (ev P (k + 1))) P.length := by
      rw [← sumF_add (gS P)]
      exact sumF_congr _ _ _ fun k hk => by unfold gT; simp only [Nat.mod_eq_of_lt hk]
    have e2 : sumF (gS (dualL P.length (ev P) r)) P.length = sumF (fun k => dP (ev P k) (ev P (k + 1))) P.length := by
      rw [← sumF_shifts (f := fun k => dP (ev P k) (ev P (k + 1))) (n := P.length) (fun k => by
        show dP (ev P (k + P.length)) (ev P (k + P.length + 1)) = _
        rw [show k + P.length + 1 = k + 1 + P.length from by omega, h.pere, h.pere]) r]
      exact sumF_congr _ _ _ fun k hk => (sides k hk).2.1
    rw [hlen, e2]
    omega
  · have eP : ((List.range (dualL P.length (ev P) r).length).map fun j => (sideH (dualL P.length (ev P) r) j).1) = ((List.range P.length).map fun j => at_ P ((j + r + 1) % P.length)).map em := by
      rw [hlen, List.map_map]
      refine List.map_congr_left fun j hj => ?_
      have hj := List.mem_range.1 hj
      obtain ⟨_, _, c⟩ := sides j hj
      simp only [Function.comp, sideH]
      rw [c]
      simp only [Int.neg_neg]
    rw [eP, ← hullS_pol hB g12 hpol]
    refine hullS_same (by simp) fun q => ?_
    simp only [List.mem_map, List.mem_range]
    constructor
    · rintro ⟨j, hj, rfl⟩
      exact at_mem (hm _)
    · intro hq
      obtain ⟨j, hj, rfl⟩ := List.getElem_of_mem hq
      refine ⟨(j + (P.length - r) + (P.length - 1)) % P.length, hm _, ?_⟩
      rw [show (j + (P.length - r) + (P.length - 1)) % P.length + r + 1 = (j + (P.length - r) + (P.length - 1)) % P.length + (r + 1) from by omega, Nat.mod_add_mod, show j + (P.length - r) + (P.length - 1) + (r + 1) = j + P.length + P.length from by omega, Nat.add_mod_right, Nat.add_mod_right, Nat.mod_eq_of_lt hj]
      exact at_of (List.getElem?_eq_getElem hj)
  · obtain ⟨j, hj, rfl⟩ := List.getElem_of_mem hp
    obtain ⟨k, hk, rfl⟩ := List.mem_map.1 hq
    rw [dt_rt]
    have := h.cvx (k + r) j
    simp only [Nat.mod_eq_of_lt hj] at this
    rw [at_of (List.getElem?_eq_getElem hj)] at this
    exact this
end Go.Proofs.YtgbkkmidloeciaaGreat
