/-
  Plain: zonotopes: areas, boundaries, symmetry. No condition.
-/
import Derived.Test.YtilggmmanhinbaaPlSu
import Derived.Test.YtilggmmanhinbaaPlZo
namespace Go.Proofs.Ytilggmmanhinbaa
open Go Go.Proofs.Ytilggmmanhinbaa.Eng
set_option linter.unusedVariables false
set_option linter.unusedSimpArgs false
open Hull (Pt Pol tn lx at_ at_some at_of at_mem Asc ng)
theorem detL_snoc : ∀ (x : List (List Int)) (g : List Int), detL (x ++ [g]) = detL x + (x.map fun h => ((crsL h g).natAbs : Int)).sum
  | [], g => by simp [detL, detR]
  | a :: x, g => by
    simp only [List.cons_append, detL, detL_snoc x g, detR, List.map_append, List.map_cons, List.map_nil, List.sum_append, List.sum_cons, List.sum_nil]
    omega
theorem sums_inner {x : List (List Int)} (hx : ∀ g ∈ x, isPt 6 g = true) (hl : x.length ≤ 5) {k : Nat} {g : List Int} (hk : x[k]? = some g) (v : Int × Int × Int) (hv : v.2.2 = k) {n : Int} (h0 : 0 ≤ n) (h1 : n ≤ 100000) :
    iter (s_l21Sums_s8 x v) (n, 0) = some (n + ((x.take k).map fun h => ((crsL h g).natAbs : Int)).sum) := by
  have hlt := len_lt hk
  have hg := hx g (List.mem_of_getElem? hk)
  have htl : (x.take k).length = k := by simp; omega
  have hf : ∀ (r : List (List Int)) (n : Int), r.foldl (fun n h => n + ((crsL h g).natAbs : Int)) n = n + (r.map fun h => ((crsL h g).natAbs : Int)).sum := by
    intro r
    induction r with
    | nil => intro n; simp
    | cons g r ih => intro n; simp only [List.foldl_cons, ih, List.map_cons, List.sum_cons]; omega
  have := iter_list0 (step := s_l21Sums_s8 x v) (fun a k => (a, k)) (x.take k) (fun n h => .inl (n + ((crsL h g).natAbs : Int))) (fun n => n) (fun j m => 0 ≤ m ∧ m ≤ 100000 + 72 * j) (fun j a h hj ha => ?_) (fun a _ => by simp [s_l21Sums_s8, hv, htl]) n ⟨h0, by omega⟩
  · rw [this, runL_fold, hf]
  · have hjl : j < k := by have := len_lt hj; omega
    have hjx : x[j]? = some h := by rw [List.getElem?_take] at hj; rwa [if_pos hjl] at hj
    have hh := hx h (List.mem_of_getElem? hjx)
    have hc := crsL_le hh hg
    have hsm : Sm (crsL h g) := by unfold Sm; omega
    have hd : decide ((j : Int) < (k : Int)) = true := by simp; omega
    have hjlim : j ≤ lim := Nat.le_trans (show j ≤ 5 by omega) (by decide)
    have hw : IntKind.i64.wrap (a + ((crsL h g).natAbs : Int)) = a + ((crsL h g).natAbs : Int) := wrap_id (by omega) (by omega)
    refine ⟨by simp only [s_l21Sums_s8, hv, hd, cond_true, idx_some hjx, idx_some hk, Option.bind_some, (crossL_eq (by decide) hh hg).2, l1Abs_eq hsm, hw, wrap_succ hjlim], fun a' ha' => ?_⟩
    simp only [Sum.inl.injEq] at ha'
    omega
theorem gcd6 {g : List Int} (hg : isPt 6 g = true) : 0 ≤ gcdL g ∧ gcdL g ≤ 6 := by
  obtain ⟨a, b, rfl, h1, h2, h3, h4⟩ := isPt_iff.1 hg
  rw [gcdL_two]
  refine ⟨by omega, ?_⟩
  by_cases ha : a = 0
  · subst ha; rw [Int.zero_gcd]; omega
  · have := Int.gcd_le_natAbs_left b ha; omega
theorem gcdsum_le : ∀ {x : List (List Int)}, (∀ g ∈ x, isPt 6 g = true) → 0 ≤ (x.map gcdL).sum ∧ (x.map gcdL).sum ≤ 6 * x.length
  | [], _ => by simp
  | g :: r, hx => by
    have h1 := gcdsum_le (x := r) fun g hg => hx g (List.mem_cons_of_mem _ hg)
    have h2 := gcd6 (hx g (by simp))
    simp only [List.map_cons, List.sum_cons, List.length_cons]; omega
theorem l21Sums_eq {x : List (List Int)} (hx : ∀ g ∈ x, isPt 6 g = true) (hl : x.length ≤ 5) : s_l21Sums x = some ((x.map gcdL).sum, detL x) := by
  unfold s_l21Sums
  have htake : ∀ k, ∀ g ∈ x.take k, isPt 6 g = true := fun k g hg => hx g (List.mem_of_mem_take hg)
  have key := iter_list (step := s_l21Sums_s4 x) (fun (_ : Unit) k => (((x.take k.toNat).map gcdL).sum, (detL (x.take k.toNat), k))) x (fun _ _ => .inl ()) (fun _ => ((x.map gcdL).sum, detL x)) (fun _ _ => True) (fun k a g hk _ => ⟨?_, fun _ _ => trivial⟩) (fun a _ => ?_) x.length 0 () (by omega) trivial
  · simp only [List.drop_zero, runL_fold (fun (_ : Unit) (_ : List Int) => ())] at key
    have key' : iter (s_l21Sums_s4 x) ((0 : Int), ((0 : Int), (0 : Int))) = some ((x.map gcdL).sum, detL x) := by simpa [detL] using key
    rw [key']; rfl
  · have hlt := len_lt hk
    have hg := hx g (List.mem_of_getElem? hk)
    have hgl : g.length ≤ lim := by
      obtain ⟨a, b, rfl, _⟩ := isPt_iff.1 hg
      show 2 ≤ lim
      decide
    have hd : decide ((k : Int) < (x.length : Int)) = true := by simp; omega
    have hdl := detL_le (x.take k) (htake k) (by simp; omega)
    have hd0 := detL_nonneg (x.take k)
    have hgs := gcdsum_le (htake k)
    have hg6 := gcd6 hg
    have htl : (x.take k).length = k := by simp; omega
    rw [htl] at hdl hgs
    have hts : x.take (k + 1) = x.take k ++ [g] := by
      rw [List.take_add_one, hk]; rfl
    have hw : IntKind.i64.wrap (((x.take k).map gcdL).sum + gcdL g) = ((x.take k).map gcdL).sum + gcdL g := wrap_id (by omega) (by omega)
    simp only [s_l21Sums_s4, Int.toNat_natCast, hd, cond_true, idx_some hk, Option.bind_some, l2All_eq hgl (isPt_sm (by decide) hg), sums_inner hx hl hk (((x.take k).map gcdL).sum, detL (x.take k), (k : Int)) rfl hd0 (by omega), hw,
      wrap_succ (k := k) (Nat.le_trans (Nat.le_of_lt hlt) (Nat.le_trans hl (by decide)))]
    have e1 : ((k : Int) + 1).toNat = k + 1 := by omega
    simp only [e1, hts, List.map_append, List.map_cons, List.map_nil, List.sum_append, List.sum_cons, List.sum_nil, detL_snoc, Int.add_zero]
  · simp [s_l21Sums_s4]
/-! The support function of sums. -/
def hg (g a : Pt) : Int := if 0 ≤ dt a g then dt a g else 0
def hs (P : List Pt) (a : Pt) : Int := (P.map fun g => hg g a).sum
theorem zs_sup (P : List Pt) (a : Pt) : ∀ k, k ≤ P.length → (∀ z ∈ zs P k, dt a z ≤ hs (P.take k) a) ∧ ∃ z ∈ zs P k, dt a z = hs (P.take k) a
  | 0, _ => by
    have e : zs P 0 = [(0, 0)] := rfl
    have e2 : hs (P.take 0) a = 0 := rfl
    have e3 : dt a (0, 0) = 0 := by unfold dt; simp
    rw [e, e2]
    refine ⟨fun z hz => ?_, (0, 0), by simp, e3⟩
    rw [List.mem_singleton] at hz
    subst hz
    omega
  | k + 1, hk => by
    obtain ⟨h1, z, h2, h3⟩ := zs_sup P a k (by omega)
    have e : hs (P.take (k + 1)) a = hs (P.take k) a + hg (at_ P k) a := by
      unfold hs
      rw [List.take_add_one, at_some (show k < P.length by omega)]
      simp
    rw [e, zs_succ]
    have hge : 0 ≤ hg (at_ P k) a ∧ dt a (at_ P k) ≤ hg (at_ P k) a := by unfold hg; split <;> omega
    refine ⟨fun y hy => ?_, ?_⟩
    · rcases List.mem_append.1 hy with hy | hy
      · have := h1 y hy; omega
      · obtain ⟨x, hx, rfl⟩ := List.mem_map.1 hy
        have := h1 x hx
        rw [dt_add]; omega
    · by_cases hp : 0 ≤ dt a (at_ P k)
      · refine ⟨addP z (at_ P k), List.mem_append_right _ (List.mem_map.2 ⟨z, h2, rfl⟩), ?_⟩
        rw [dt_add, h3]
        unfold hg
        rw [if_pos hp]
      · refine ⟨z, List.mem_append_left _ h2, ?_⟩
        rw [h3]
        unfold hg
        rw [if_neg hp]; omega
theorem sup_zono {P : List Pt} (h3 : 3 ≤ (Hull.hull (Hull.sorted (zs P P.length))).length) : sup (Hull.hull (Hull.sorted (zs P P.length))) = hs P := by
  funext a
  obtain ⟨h1, z, h2, _, h4⟩ := sup_hullL h3 a
  obtain ⟨k1, y, k2, k3⟩ := zs_sup P a P.length (Nat.le_refl _)
  rw [List.take_length] at k1 k3
  have := h1 y k2
  have := k1 z h2
  omega
/-! One vector's part. -/
theorem S2_two {F : Pt → Int} {d e : Pt} {v w : Int} (hd : InB d) (he : InB e) (hne : d ≠ e) (hv : F d = v) (hw : F e = w) (h0 : ∀ x, x ≠ d → x ≠ e → F x = 0) : S2 F = v + w := by
  classical
  have : ∀ x, F x = (if x = d then v else 0) + (if x = e then w else 0) := fun x => by
    by_cases h1 : x = d
    · subst h1; rw [if_pos rfl, if_neg hne, hv]; omega
    · by_cases h2 : x = e
      · subst h2; rw [if_neg h1, if_pos rfl, hw]; omega
      · rw [if_neg h1, if_neg h2, h0 x h1 h2]; rfl
  rw [S2_congr this, S2_add, S2_single hd (if_pos rfl) fun x hx => if_neg hx, S2_single he (if_pos rfl) fun x hx => if_neg hx]
theorem Lf_hg {g e : Pt} (hb : Bd 1000 g) (hp : Prim e) : Lf (hg g) e = if dt e g = 0 then gcdP (0, 0) g else 0 := by
  have hc := comp_one hp
  have hK := dt_bd (c := comp e) (M := 1000) (by omega) hb
  have hN : far e = 2 * ((((comp e).1.natAbs + (comp e).2.natAbs : Nat) : Int) * 1000) + 1 := by unfold far; omega
  have l1 : dt (far e * e.1 + (comp e).1, far e * e.2 + (comp e).2) g = far e * dt e g + dt (comp e) g := by unfold dt; grind
  have l2 : dt (far e * e.1 - (comp e).1, far e * e.2 - (comp e).2) g = far e * dt e g - dt (comp e) g := by unfold dt; grind
  generalize ((((comp e).1.natAbs + (comp e).2.natAbs : Nat) : Int) * 1000) = K at hK hN
  have h0 : 0 ≤ K := by omega
  unfold Lf hg
  rw [l1, l2]
  by_cases hz : dt e g = 0
  · rw [if_pos hz, hz, Int.mul_zero]
    have hgl := (gcd_lev hc (0, 0) g).1 (by rw [hz]; unfold dt; simp)
    have z0 : dt (comp e) (0, 0) = 0 := by unfold dt; simp
    rw [z0] at hgl
    rw [hgl, if_pos (show (0 : Int) ≤ 0 by omega)]
    split <;> split <;> omega
  · rw [if_neg hz]
    rcases Int.lt_or_le 0 (dt e g) with h | h
    · have hm : far e * 1 ≤ far e * dt e g := Int.mul_le_mul_of_nonneg_left (by omega) (by omega)
      rw [if_pos (by omega), if_pos (by omega), if_pos (by omega)]
      omega
    · have hm : far e * dt e g ≤ far e * -1 := Int.mul_le_mul_of_nonneg_left (by omega) (by omega)
      rw [if_neg (by omega), if_neg (by omega), if_neg (by omega), Int.mul_zero]
      omega
theorem gcd_zero (g : Pt) : gcdP (0, 0) g = (Int.gcd g.1 g.2 : Nat) := by unfold gcdP; simp
/-- The sum over the sides of one vector. -/
theorem XX_hg {g : Pt} (hb : Bd 400 g) (hg0 : g ≠ (0, 0)) : ∃ d : Pt, g.1 = gcdP (0, 0) g * -d.2 ∧ g.2 = gcdP (0, 0) g * d.1 ∧ ∀ u : Pt → Int, XX u (hg g) = gcdP (0, 0) g * (u d + u (ngp d)) := by
  classical
  obtain ⟨d, hp, e1, e2, b1, b2⟩ := prim_of hg0
  rw [← gcd_zero] at e1 e2
  refine ⟨d, e1, e2, fun u => ?_⟩
  have hd0 : d ≠ ngp d := fun h => by
    obtain ⟨c, hc⟩ := hp
    have h1 := congrArg Prod.fst h
    have h2 := congrArg Prod.snd h
    simp only [ngp] at h1 h2
    have z1 : d.1 = 0 := by omega
    have z2 : d.2 = 0 := by omega
    rw [z1, z2] at hc
    simp at hc
  have hpn : Prim (ngp d) := by
    obtain ⟨c, hc⟩ := hp
    exact ⟨(-c.1, -c.2), by show -d.1 * -c.2 - -d.2 * -c.1 = 1; rw [← hc]; grind⟩
  have hdg : dt d g = 0 := by unfold dt; rw [e1, e2]; grind
  have hng : dt (ngp d) g = 0 := by rw [dt_ngp]; omega
  have hb' : Bd 1000 g := hb.mono (by decide)
  unfold Bd at hb
  have i1 : InB d := by unfold InB RR; omega
  have i2 : InB (ngp d) := by unfold InB RR ngp; simp only; omega
  have g0 : gcdP (0, 0) g ≠ 0 := fun h0 => by
    rw [h0, Int.zero_mul] at e1 e2
    exact hg0 (Prod.ext e1 e2)
  unfold XX
  have := S2_two (F := fun e => if Prim e then u e * Lf (hg g) e else 0) (v := u d * gcdP (0, 0) g) (w := u (ngp d) * gcdP (0, 0) g) i1 i2 hd0
    (by rw [if_pos hp, Lf_hg hb' hp, if_pos hdg]) (by rw [if_pos hpn, Lf_hg hb' hpn, if_pos hng]) (fun e n1 n2 => by
      by_cases he : Prim e
      · rw [if_pos he, Lf_hg hb' he]
        by_cases hz : dt e g = 0
        · exfalso
          obtain ⟨c, hc⟩ := hp
          obtain ⟨c', hc'⟩ := he
          have z : e.2 * d.1 - e.1 * d.2 = 0 := by
            have : gcdP (0, 0) g * (e.2 * d.1 - e.1 * d.2) = 0 := by
              unfold dt at hz
              rw [e1, e2] at hz
              grind
            rcases Int.mul_eq_zero.1 this with z | z
            · exact absurd z g0
            · exact z
          have m1 : e.1 = d.1 * (e.1 * c.2 - e.2 * c.1) := by
            have : d.1 * (e.1 * c.2 - e.2 * c.1) = e.1 * (d.1 * c.2 - d.2 * c.1) - c.1 * (e.2 * d.1 - e.1 * d.2) := by grind
            rw [this, hc, z]; omega
          have m2 : e.2 = d.2 * (e.1 * c.2 - e.2 * c.1) := by
            have : d.2 * (e.1 * c.2 - e.2 * c.1) = e.2 * (d.1 * c.2 - d.2 * c.1) - c.2 * (e.2 * d.1 - e.1 * d.2) := by grind
            rw [this, hc, z]; omega
          generalize hm : e.1 * c.2 - e.2 * c.1 = m at m1 m2
          have hu : m * (d.1 * c'.2 - d.2 * c'.1) = 1 := by
            have : m * (d.1 * c'.2 - d.2 * c'.1) = e.1 * c'.2 - e.2 * c'.1 := by rw [m1, m2]; grind
            rw [this, hc']
          have hm2 : m = 1 ∨ m = -1 := by
            have h1 := congrArg Int.natAbs hu
            rw [Int.natAbs_mul] at h1
            have := Nat.eq_one_of_mul_eq_one_right h1
            omega
          rcases hm2 with hm1 | hm1
          · rw [hm1, Int.mul_one] at m1 m2
            exact n1 (Prod.ext m1 m2)
          · rw [hm1] at m1 m2
            exact n2 (Prod.ext (by rw [m1]; show d.1 * -1 = -d.1; omega) (by rw [m2]; show d.2 * -1 = -d.2; omega))
        · rw [if_neg hz, Int.mul_zero]
      · rw [if_neg he])
  rw [this]
  grind
/-- A sum of all vectors. -/
theorem XX_hs (u : Pt → Int) : ∀ (P : List Pt), XX u (hs P) = (P.map fun g => XX u (hg g)).sum
  | [] => by
    have : hs [] = fun _ => 0 := rfl
    unfold XX
    rw [this]
    refine S2_zero fun e => ?_
    split
    · unfold Lf; simp
    · rfl
  | g :: P => by
    have : hs (g :: P) = fun a => hg g a + hs P a := by funext a; simp [hs]
    rw [this, XX_add, XX_hs u P]
    simp
theorem sum_map_mul (c : Int) (f : Pt → Int) : ∀ P : List Pt, c * (P.map f).sum = (P.map fun g => c * f g).sum
  | [] => by simp
  | g :: P => by simp only [List.map_cons, List.sum_cons]; rw [← sum_map_mul c f P, Int.mul_add]
theorem sum_map_add (f h : Pt → Int) : ∀ P : List Pt, (P.map f).sum + (P.map h).sum = (P.map fun g => f g + h g).sum
  | [] => by simp
  | g :: P => by simp only [List.map_cons, List.sum_cons]; rw [← sum_map_add f h P]; omega
theorem hs_bnd {P : List Pt} (hb : ∀ g ∈ P, Bd 400 g ∧ g ≠ (0, 0)) : XX (fun _ => 1) (hs P) = 2 * (P.map fun g => gcdP (0, 0) g).sum := by
  rw [XX_hs, sum_map_mul]
  refine congrArg List.sum (List.map_congr_left fun g hg' => ?_)
  obtain ⟨d, _, _, h⟩ := XX_hg (hb g hg').1 (hb g hg').2
  rw [h]
  omega
theorem hs_area {P : List Pt} (hb : ∀ g ∈ P, Bd 400 g ∧ g ≠ (0, 0)) : XX (hs P) (hs P) = (P.map fun g => (P.map fun h => ((crsP g h).natAbs : Int)).sum).sum := by
  rw [XX_hs]
  refine congrArg List.sum (List.map_congr_left fun g hg' => ?_)
  obtain ⟨d, e1, e2, h⟩ := XX_hg (hb g hg').1 (hb g hg').2
  rw [h]
  unfold hs
  rw [sum_map_add, sum_map_mul]
  refine congrArg List.sum (List.map_congr_left fun x _ => ?_)
  have hh : hg x d + hg x (ngp d) = ((dt d x).natAbs : Int) := by
    unfold hg
    rw [dt_ngp]
    split <;> split <;> omega
  rw [hh]
  have hc : crsP g x = gcdP (0, 0) g * -(dt d x) := by
    unfold crsP dt
    have : g.1 * x.2 - g.2 * x.1 = (gcdP (0, 0) g * -d.2) * x.2 - (gcdP (0, 0) g * d.1) * x.1 := by rw [← e1, ← e2]
    rw [this]
    grind
  have g0 : 0 ≤ gcdP (0, 0) g := by unfold gcdP; omega
  rw [hc, Int.natAbs_mul, Int.natAbs_neg, Int.natCast_mul, Int.natAbs_of_nonneg g0]
/-- All pairs are twice the pairs in order. -/
theorem pairs_two : ∀ P : List Pt, (P.map fun g => (P.map fun h => ((crsP g h).natAbs : Int)).sum).sum = 2 * detL (P.map em)
  | [] => rfl
  | g :: P => by
    have hz : ((crsP g g).natAbs : Int) = 0 := by unfold crsP; rw [Int.mul_comm g.1 g.2, Int.sub_self]; rfl
    have hsym : ∀ h : Pt, ((crsP h g).natAbs : Int) = ((crsP g h).natAbs : Int) := fun h => by
      have : crsP h g = -crsP g h := by unfold crsP; grind
      rw [this, Int.natAbs_neg]
    have hD : detR (em g) (P.map em) = (P.map fun h => ((crsP g h).natAbs : Int)).sum := by
      unfold detR
      rw [List.map_map]
      rfl
    have ih := pairs_two P
    have e1 : ((P.map fun h => ((g :: P).map fun x => ((crsP h x).natAbs : Int)).sum)).sum = (P.map fun h => ((crsP g h).natAbs : Int)).sum + (P.map fun h => (P.map fun x => ((crsP h x).natAbs : Int)).sum).sum := by
      rw [sum_map_add]
      refine congrArg List.sum (List.map_congr_left fun h _ => ?_)
      simp only [List.map_cons, List.sum_cons, hsym]
    simp only [List.map_cons, List.sum_cons, hz]
    simp only [List.map_cons, List.sum_cons] at e1
    rw [e1, ih]
    show _ = 2 * (detR (em g) (P.map em) + detL (P.map em))
    rw [hD]
    omega
/-! Symmetry. -/
def tr (t p : Pt) : Pt := (p.1 + t.1, p.2 + t.2)
theorem tn_tr (t a b c : Pt) : tn (tr t a) (tr t b) (tr t c) = tn a b c := by simp only [tn, tr]; grind
theorem lx_tr (t a b : Pt) : lx (tr t a) (tr t b) ↔ lx a b := by simp only [lx, tr]; omega
theorem pops_tr (t x : Pt) : (s : List Pt) → Hull.pops (tr t x) (s.map (tr t)) = (Hull.pops x s).map (tr t)
  | [] => rfl
  | [y] => rfl
  | y :: u :: r => by
    simp only [List.map_cons, Hull.pops, tn_tr]
    split
    · exact pops_tr t x (u :: r)
    · rfl
theorem chain_tr (t : Pt) (l : List Pt) : Hull.chain (l.map (tr t)) = (Hull.chain l).map (tr t) := by
  have : ∀ (l s : List Pt), (l.map (tr t)).foldl Hull.push (s.map (tr t)) = (l.foldl Hull.push s).map (tr t) := by
    intro l
    induction l with
    | nil => intro s; rfl
    | cons x l ih =>
      intro s
      simp only [List.map_cons, List.foldl_cons]
      rw [← ih]
      congr 1
      unfold Hull.push
      rw [pops_tr]; rfl
  exact this l []
theorem hull_tr (t : Pt) (l : List Pt) : Hull.hull (l.map (tr t)) = (Hull.hull l).map (tr t) := by
  unfold Hull.hull
  rw [← List.map_reverse, chain_tr, chain_tr, ← List.map_reverse, ← List.map_reverse, ← List.map_dropLast, ← List.map_dropLast, List.map_append]
theorem sorted_tr (t : Pt) (l : List Pt) : Hull.sorted (l.map (tr t)) = (Hull.sorted l).map (tr t) := by
  obtain ⟨h1, h2⟩ := Hull.sorted_spec l
  obtain ⟨k1, k2⟩ := Hull.sorted_spec (l.map (tr t))
  refine Hull.asc_unique _ _ k1 ?_ fun y => ?_
  · unfold Asc
    rw [List.pairwise_map]
    exact h1.imp fun h => (lx_tr t _ _).2 h
  · rw [k2, List.mem_map, List.mem_map]
    constructor
    · rintro ⟨q, hq, rfl⟩; exact ⟨q, (h2 q).2 hq, rfl⟩
    · rintro ⟨q, hq, rfl⟩; exact ⟨q, (h2 q).1 hq, rfl⟩
/-- A hull of a symmetric list is symmetric. -/
theorem hull_sym {L : List Pt} {t : Pt} (hm : ∀ z, z ∈ L → tr t (ng z) ∈ L) (h3 : 3 ≤ (Hull.hull (Hull.sorted L)).length) : Hull.hull (Hull.sorted L) = (Hull.hull (Hull.sorted ((Hull.hull (Hull.sorted L)).map ng))).map (tr t) := by
  have e0 : Hull.hull (Hull.sorted L) = (Hull.hull (Hull.sorted (L.map ng))).map (tr t) := by
    rw [← hull_tr, ← sorted_tr]
    congr 1
    refine sorted_same fun q => ?_
    rw [List.mem_map]
    constructor
    · intro hq
      refine ⟨ng (tr t (ng q)), List.mem_map_of_mem (hm q hq), ?_⟩
      simp only [tr, ng]
      exact Prod.ext (by simp only; omega) (by simp only; omega)
    · rintro ⟨x, hx, rfl⟩
      obtain ⟨y, hy, rfl⟩ := List.mem_map.1 hx
      exact hm y hy
  have hp : Pol (Hull.hull (Hull.sorted (L.map ng))) := Hull.pol_hull (Hull.sorted_spec _).1 (by rw [hull_ng_len]; exact h3)
  have e1 : Hull.hull (Hull.sorted ((Hull.hull (Hull.sorted L)).map ng)) = Hull.hull (Hull.sorted (L.map ng)) := by
    obtain ⟨s1, s2⟩ := Hull.sorted_spec ((Hull.hull (Hull.sorted L)).map ng)
    exact Hull.hull_pol hp s1 fun y => by rw [s2, hull_ng_mem]
  rw [e1]
  exact e0
/-- The sums of some of the vectors are symmetric. -/
def tot (P : List Pt) : Nat → Pt
  | 0 => (0, 0)
  | k + 1 => addP (tot P k) (at_ P k)
theorem zs_sym (P : List Pt) : ∀ k z, z ∈ zs P k → tr (tot P k) (ng z) ∈ zs P k
  | 0, z, h => by
    have e : zs P 0 = [(0, 0)] := rfl
    rw [e, List.mem_singleton] at h
    subst h
    rw [e]
    simp [tr, ng, tot]
  | k + 1, z, h => by
    rw [zs_succ] at h ⊢
    rcases List.mem_append.1 h with h | h
    · refine List.mem_append_right _ (List.mem_map.2 ⟨_, zs_sym P k z h, ?_⟩)
      simp only [tr, ng, tot, addP]
      exact Prod.ext (by simp only; omega) (by simp only; omega)
    · obtain ⟨x, hx, rfl⟩ := List.mem_map.1 h
      refine List.mem_append_left _ ?_
      have := zs_sym P k x hx
      have e : tr (tot P (k + 1)) (ng (addP x (at_ P k))) = tr (tot P k) (ng x) := by
        simp only [tr, ng, tot, addP]
        exact Prod.ext (by simp only; omega) (by simp only; omega)
      rw [e]
      exact this
end Go.Proofs.Ytilggmmanhinbaa
