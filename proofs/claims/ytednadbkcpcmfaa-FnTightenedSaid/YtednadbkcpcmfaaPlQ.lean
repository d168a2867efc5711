/-
  The plane: turns, chains of points in order, convex polygons. Plain, no condition.
-/
import Derived.Test.YtednadbkcpcmfaaPl4
namespace Go.Proofs.Ytednadbkcpcmfaa
set_option linter.unusedVariables false
namespace Hull
abbrev Pt := Int × Int
def tn (a b c : Pt) : Int := (b.1 - a.1) * (c.2 - a.2) - (b.2 - a.2) * (c.1 - a.1)
def lx (a b : Pt) : Prop := a.1 < b.1 ∨ (a.1 = b.1 ∧ a.2 < b.2)
instance (a b : Pt) : Decidable (lx a b) := by unfold lx; infer_instance
def pos (x y : Int) : Prop := 0 < x ∨ (x = 0 ∧ 0 < y)
theorem tr0 {a b c d e f : Int} (hu : pos a b) (hv : pos c d) (hw : pos e f) (h1 : 0 ≤ a * d - b * c) (h2 : 0 ≤ c * f - d * e) : 0 ≤ a * f - b * e := by
  have key : (a * f - b * e) * c = (c * f - d * e) * a + (a * d - b * c) * e := by grind
  have ha : 0 ≤ a := by unfold pos at hu; omega
  have he : 0 ≤ e := by unfold pos at hw; omega
  rcases hv with hc | ⟨rfl, hd⟩
  · have : 0 ≤ (a * f - b * e) * c := by rw [key]; exact Int.add_nonneg (Int.mul_nonneg h2 ha) (Int.mul_nonneg h1 he)
    exact Int.nonneg_of_mul_nonneg_left this hc
  · have : d * e ≤ 0 := by omega
    have he0 : e = 0 := by
      rcases Int.lt_or_eq_of_le he with h | h
      · have := Int.mul_pos hd h; omega
      · exact h.symm
    subst he0
    have hf : 0 < f := by unfold pos at hw; omega
    have := Int.mul_nonneg ha (Int.le_of_lt hf)
    omega
theorem tr1 {a b c d e f : Int} (hu : pos a b) (hv : pos c d) (hw : pos e f) (h1 : 0 < a * d - b * c) (h2 : 0 ≤ c * f - d * e) : 0 < a * f - b * e := by
  have key : (a * f - b * e) * c = (c * f - d * e) * a + (a * d - b * c) * e := by grind
  have ha : 0 ≤ a := by unfold pos at hu; omega
  have he : 0 ≤ e := by unfold pos at hw; omega
  rcases hv with hc | ⟨rfl, hd⟩
  · rcases Int.lt_or_eq_of_le he with h | h
    · have : 0 < (a * f - b * e) * c := by rw [key]; exact Int.add_pos_of_nonneg_of_pos (Int.mul_nonneg h2 ha) (Int.mul_pos h1 h)
      exact Int.pos_of_mul_pos_left this hc
    · subst h
      have hf : 0 < f := by unfold pos at hw; omega
      have ha' : 0 < a := by
        rcases hu with h | ⟨rfl, hb⟩
        · exact h
        · have := Int.mul_pos hb hc; omega
      have := Int.mul_pos ha' hf
      omega
  · have hde : d * e ≤ 0 := by omega
    have he0 : e = 0 := by
      rcases Int.lt_or_eq_of_le he with h | h
      · have := Int.mul_pos hd h; omega
      · exact h.symm
    subst he0
    have hf : 0 < f := by unfold pos at hw; omega
    have ha' : 0 < a := by
      rcases Int.lt_or_eq_of_le ha with h | h
      · exact h
      · subst h; omega
    have := Int.mul_pos ha' hf
    omega
theorem lx_pos {a b : Pt} (h : lx a b) : pos (b.1 - a.1) (b.2 - a.2) := by unfold lx at h; unfold pos; omega
theorem lx_trans {a b c : Pt} (h : lx a b) (k : lx b c) : lx a c := by unfold lx at *; omega
theorem lx_irr {a : Pt} (h : lx a a) : False := by unfold lx at h; omega
theorem lx_asym {a b : Pt} (h : lx a b) (k : lx b a) : False := by unfold lx at *; omega
theorem lx_tri (a b : Pt) : lx a b ∨ a = b ∨ lx b a := by
  rcases a with ⟨a1, a2⟩; rcases b with ⟨b1, b2⟩
  simp only [lx, Prod.mk.injEq]; omega
theorem tn_cyc (a b c : Pt) : tn b c a = tn a b c := by unfold tn; grind
theorem tn_swap (a b c : Pt) : tn a c b = - tn a b c := by unfold tn; grind
@[simp] theorem tn_aa (a b : Pt) : tn a b a = 0 := by unfold tn; grind
@[simp] theorem tn_bb (a b : Pt) : tn a b b = 0 := by unfold tn; grind
theorem tn_e (a b c : Pt) : tn a b c = (b.1 - a.1) * (c.2 - b.2) - (b.2 - a.2) * (c.1 - b.1) := by unfold tn; grind
/-- a < b < c < d: three of them turn as the neighbors do. -/
theorem tn_abd {a b c d : Pt} (h1 : lx a b) (h2 : lx b c) (h3 : lx b d) (t1 : 0 < tn a b c) (t2 : 0 ≤ tn b c d) : 0 < tn a b d := by
  rw [tn_e] at t1 ⊢
  exact tr1 (lx_pos h1) (lx_pos h2) (lx_pos h3) t1 t2
theorem tn_acd {a b c d : Pt} (h1 : lx a b) (h2 : lx b c) (h3 : lx c d) (t1 : 0 < tn a b c) (t2 : 0 < tn b c d) : 0 < tn a c d := by
  have t3 : 0 < tn a b d := tn_abd h1 h2 (lx_trans h2 h3) t1 (Int.le_of_lt t2)
  have e : tn a c d = tn a b d - tn a b c + tn b c d := by unfold tn; grind
  have k : 0 < (b.1 - a.1) * (d.2 - c.2) - (b.2 - a.2) * (d.1 - c.1) := by
    rw [tn_e] at t1 t2
    exact tr1 (lx_pos h1) (lx_pos h2) (lx_pos h3) t1 (Int.le_of_lt t2)
  have : (b.1 - a.1) * (d.2 - c.2) - (b.2 - a.2) * (d.1 - c.1) = tn a b d - tn a b c := by unfold tn; grind
  omega
def Asc (l : List Pt) : Prop := l.Pairwise lx
def Cvx (l : List Pt) : Prop := ∀ p a b c q, l = p ++ a :: b :: c :: q → 0 < tn a b c
def Lft (l : List Pt) (y : Pt) : Prop := ∀ p a b q, l = p ++ a :: b :: q → 0 ≤ tn a b y
def Tri (l : List Pt) : Prop := ∀ a b c, [a, b, c].Sublist l → 0 < tn a b c
theorem Cvx.tail {a : Pt} {l : List Pt} (h : Cvx (a :: l)) : Cvx l := fun p x y z q e => h (a :: p) x y z q (by rw [e]; rfl)
theorem Lft.tail {a y : Pt} {l : List Pt} (h : Lft (a :: l) y) : Lft l y := fun p x z q e => h (a :: p) x z q (by rw [e]; rfl)
theorem Cvx.front {l m : List Pt} (h : Cvx (l ++ m)) : Cvx l := fun p x y z q e => h p x y z (q ++ m) (by rw [e]; simp)
theorem Lft.front {y : Pt} {l m : List Pt} (h : Lft (l ++ m) y) : Lft l y := fun p x z q e => h p x z (q ++ m) (by rw [e]; simp)
theorem Asc.mem_lt {a b : Pt} {l : List Pt} (h : Asc (a :: l)) (hb : b ∈ l) : lx a b := (List.pairwise_cons.1 h).1 b hb
theorem Asc.tail {a : Pt} {l : List Pt} (h : Asc (a :: l)) : Asc l := (List.pairwise_cons.1 h).2
theorem tri_of : (l : List Pt) → Asc l → Cvx l → Tri l
  | [], _, _ => fun a b c h => by simp at h
  | [x], _, _ => fun a b c h => by have := h.length_le; simp at this
  | [x, y], _, _ => fun a b c h => by have := h.length_le; simp at this
  | x :: y :: z :: r, ha, hc => by
    have ih := tri_of (y :: z :: r) ha.tail hc.tail
    intro a b c h
    have hxyz := hc [] x y z r rfl
    have hxy : lx x y := ha.mem_lt (by simp)
    have hyz : lx y z := ha.tail.mem_lt (by simp)
    -- x, y and whatever stands behind
    have k1 : ∀ w, w ∈ z :: r → 0 < tn x y w := fun w hw => by
      rcases List.mem_cons.1 hw with rfl | hw
      · exact hxyz
      · exact tn_abd hxy hyz (ha.tail.mem_lt (by simp [hw])) hxyz (Int.le_of_lt (ih y z w (by
          have : [w].Sublist r := List.singleton_sublist.2 hw
          exact (this.cons_cons z).cons_cons y)))
    cases h with
    | cons _ h => exact ih a b c h
    | cons_cons _ h =>
      cases h with
      | cons_cons _ h =>
        exact k1 c (List.singleton_sublist.1 h)
      | cons _ h =>
        -- b, c behind y
        have hb : b ∈ z :: r := h.subset (by simp)
        have hcm : c ∈ z :: r := h.subset (by simp)
        have hbc : lx b c := by
          have := (ha.tail.tail).sublist h
          exact (List.pairwise_cons.1 this).1 c (by simp)
        exact tn_acd hxy (ha.tail.mem_lt hb) hbc (k1 b hb) (ih y b c (h.cons_cons y))
theorem Tri.lft {l : List Pt} (h : Tri l) {y : Pt} (hy : y ∈ l) : Lft l y := by
  intro p a b q e
  subst e
  simp only [List.mem_append, List.mem_cons] at hy
  rcases hy with hy | rfl | rfl | hy
  · have := h y a b (List.Sublist.append (l₁ := [y]) (List.singleton_sublist.2 hy) (((List.nil_sublist q).cons_cons b).cons_cons a))
    have e2 : tn a b y = tn y a b := tn_cyc y a b
    omega
  · simp
  · simp
  · exact Int.le_of_lt (h a b y ((((List.singleton_sublist.2 hy).cons_cons b).cons_cons a).trans (List.sublist_append_right p _)))
theorem uniq : (L M : List Pt) → Asc L → Asc M → Cvx L → Cvx M → L.head? = M.head? → L.getLast? = M.getLast? → (∀ y ∈ M, Lft L y) → (∀ y ∈ L, Lft M y) → L = M
  | [], M, _, _, _, _, hh, _, _, _ => by cases M with
    | nil => rfl
    | cons _ _ => simp at hh
  | [a], M, _, hM, _, _, hh, hl, _, _ => by
    match M, hM, hh, hl with
    | [b], _, hh, _ => simpa using hh
    | b :: c :: r, hM, hh, hl =>
      exfalso
      simp only [List.head?_cons, Option.some.injEq] at hh
      subst hh
      rw [List.getLast?_cons_cons, List.getLast?_singleton] at hl
      have := List.mem_of_getLast? hl.symm
      exact lx_irr (hM.mem_lt this)
  | a :: b :: r, M, hL, hM, cL, cM, hh, hl, h1, h2 => by
    match M, hM, cM, hh, hl, h1, h2 with
    | [], _, _, hh, _, _, _ => simp at hh
    | [x], _, _, hh, hl, _, _ =>
      exfalso
      simp only [List.head?_cons, Option.some.injEq] at hh
      subst hh
      rw [List.getLast?_cons_cons, List.getLast?_singleton] at hl
      exact lx_irr (hL.mem_lt (List.mem_of_getLast? hl))
    | x :: b' :: r', hM, cM, hh, hl, h1, h2 =>
      simp only [List.head?_cons, Option.some.injEq] at hh
      subst hh
      have e1 : 0 ≤ tn a b b' := h1 b' (by simp) [] a b r rfl
      have e2 : 0 ≤ tn a b' b := h2 b (by simp) [] a b' r' rfl
      rw [tn_swap] at e2
      have e0 : tn a b b' = 0 := by omega
      rw [List.getLast?_cons_cons, List.getLast?_cons_cons] at hl
      have key : ∀ (b b' : Pt) (r r' : List Pt), Asc (a :: b :: r) → Asc (a :: b' :: r') → Cvx (a :: b :: r) → (b :: r).getLast? = (b' :: r').getLast? → Lft (a :: b :: r) b' → tn a b b' = 0 → ¬ lx b b' := by
        intro b b' r r' hL hM cL hl h1 e0 hbb
        cases r with
        | nil =>
          rw [List.getLast?_singleton] at hl
          have := List.mem_of_getLast? hl.symm
          rcases List.mem_cons.1 this with rfl | h
          · exact lx_irr hbb
          · exact lx_asym hbb (hM.tail.mem_lt h)
        | cons c r2 =>
          have t1 := cL [] a b c r2 rfl
          have t2 := h1 [a] b c r2 rfl
          have := tn_abd (hL.mem_lt (by simp)) (hL.tail.mem_lt (by simp)) hbb t1 t2
          omega
      rcases lx_tri b b' with h | rfl | h
      · exact absurd h (key b b' r r' hL hM cL hl (h1 b' (by simp)) e0)
      · rw [uniq (b :: r) (b :: r') hL.tail hM.tail cL.tail cM.tail rfl hl (fun y hy => (h1 y (List.mem_cons_of_mem _ hy)).tail) (fun y hy => (h2 y (List.mem_cons_of_mem _ hy)).tail)]
      · exact absurd h (key b' b r' r hM hL cM hl.symm (h2 b (by simp)) (by rw [tn_swap]; omega))
/-! The chain. -/
/-- Pops, the top first. -/
def pops (x : Pt) : List Pt → List Pt
  | t :: u :: r => if tn u t x ≤ 0 then pops x (u :: r) else t :: u :: r
  | s => s
def push (s : List Pt) (x : Pt) : List Pt := x :: pops x s
theorem pops_suffix (x : Pt) : (s : List Pt) → ∃ p, s = p ++ pops x s
  | [] => ⟨[], rfl⟩
  | [t] => ⟨[], rfl⟩
  | t :: u :: r => by
    unfold pops
    split
    · obtain ⟨p, hp⟩ := pops_suffix x (u :: r)
      exact ⟨t :: p, by rw [List.cons_append, ← hp]⟩
    · exact ⟨[], rfl⟩
structure Inv (S : List Pt) (Y : Pt → Prop) : Prop where
  ne : S ≠ []
  asc : Asc S.reverse
  cvx : Cvx S.reverse
  lft : ∀ y, Y y → Lft S.reverse y
  top : ∀ t r, S = t :: r → ∀ y, Y y → y = t ∨ lx y t
  bot : ∀ t r, S = r ++ [t] → ∀ y, Y y → y = t ∨ lx t y
  sub : ∀ y ∈ S, Y y
theorem pops_spec {x : Pt} {Y : Pt → Prop} (hx : ∀ y, Y y → lx y x) : (S : List Pt) → S ≠ [] → Asc S.reverse → (∀ y ∈ S, Y y) → (∀ y, Y y → Lft S.reverse y) → (∀ t r, S = t :: r → ∀ y, Y y → lx t y → 0 ≤ tn t x y) →
    ∃ t r, pops x S = t :: r ∧ (∀ y, Y y → lx t y → 0 ≤ tn t x y) ∧ ∀ u r', r = u :: r' → 0 < tn u t x
  | [], h, _, _, _, _ => absurd rfl h
  | [t], _, _, _, _, hp => ⟨t, [], rfl, hp t [] rfl, fun u r' h => by simp at h⟩
  | t :: u :: r, _, ha, hs, hl, hp => by
    unfold pops
    split
    · rename_i hle
      have e : (t :: u :: r).reverse = (u :: r).reverse ++ [t] := by simp
      have ha' : Asc (u :: r).reverse := by rw [e] at ha; exact (List.pairwise_append.1 ha).1
      refine pops_spec hx (u :: r) (by simp) ha' (fun y hy => hs y (List.mem_cons_of_mem _ hy)) (fun y hy => by have := hl y hy; rw [e] at this; exact this.front) (fun t' r' he y hy hty => ?_)
      simp only [List.cons.injEq] at he
      obtain ⟨rfl, rfl⟩ := he
      have k1 : 0 ≤ tn u t y := hl y hy r.reverse u t [] (by simp)
      have hut : lx u t := by
        rw [e] at ha
        exact (List.pairwise_append.1 ha).2.2 u (by simp) t (by simp)
      have hux : lx u x := hx u (hs u (by simp))
      have k2 : 0 ≤ tn u x t := by rw [tn_swap]; omega
      unfold tn at k1 k2 ⊢
      exact tr0 (lx_pos hux) (lx_pos hut) (lx_pos hty) k2 k1
    · rename_i hgt
      refine ⟨t, u :: r, rfl, hp t _ rfl, fun u' r' h => ?_⟩
      simp only [List.cons.injEq] at h
      obtain ⟨rfl, rfl⟩ := h
      omega
theorem Cvx.snoc {l : List Pt} {x : Pt} (h : Cvx l) (hx : ∀ p u t, l = p ++ [u, t] → 0 < tn u t x) : Cvx (l ++ [x]) := by
  intro p a b c q e
  rcases List.eq_nil_or_concat q with rfl | ⟨q', z, rfl⟩
  · have e' : l ++ [x] = (p ++ [a, b]) ++ [c] := by rw [e]; simp
    obtain ⟨h1, h2⟩ := List.append_inj' e' rfl
    simp only [List.cons.injEq, and_true] at h2
    subst h2
    exact hx p a b h1
  · have e' : l ++ [x] = (p ++ a :: b :: c :: q') ++ [z] := by rw [e]; simp
    obtain ⟨h1, _⟩ := List.append_inj' e' rfl
    exact h p a b c q' h1
theorem Lft.snoc {l : List Pt} {x y : Pt} (h : Lft l y) (hx : ∀ p t, l = p ++ [t] → 0 ≤ tn t x y) : Lft (l ++ [x]) y := by
  intro p a b q e
  rcases List.eq_nil_or_concat q with rfl | ⟨q', z, rfl⟩
  · have e' : l ++ [x] = (p ++ [a]) ++ [b] := by rw [e]; simp
    obtain ⟨h1, h2⟩ := List.append_inj' e' rfl
    simp only [List.cons.injEq, and_true] at h2
    subst h2
    exact hx p a h1
  · have e' : l ++ [x] = (p ++ a :: b :: q') ++ [z] := by rw [e]; simp
    obtain ⟨h1, _⟩ := List.append_inj' e' rfl
    exact h p a b q' h1
theorem Asc.snoc {l : List Pt} {x : Pt} (h : Asc l) (hx : ∀ y ∈ l, lx y x) : Asc (l ++ [x]) :=
  List.pairwise_append.2 ⟨h, by simp, fun y hy z hz => by simp only [List.mem_singleton] at hz; subst hz; exact hx y hy⟩
theorem Inv.push {S : List Pt} {Y : Pt → Prop} {x : Pt} (h : Inv S Y) (hx : ∀ y, Y y → lx y x) : Inv (push S x) (fun y => Y y ∨ y = x) := by
  obtain ⟨p, hp⟩ := pops_suffix x S
  obtain ⟨t, r, h1, h2, h3⟩ := pops_spec hx S h.ne h.asc h.sub h.lft (fun t r e y hy hty => by
    rcases h.top t r e y hy with rfl | h'
    · exact (lx_irr hty).elim
    · exact (lx_asym hty h').elim)
  have hT : S = p ++ t :: r := by rw [← h1]; exact hp
  have er : S.reverse = (t :: r).reverse ++ p.reverse := by rw [hT]; simp
  have asc : Asc (t :: r).reverse := by have := h.asc; rw [er] at this; exact (List.pairwise_append.1 this).1
  have cvx : Cvx (t :: r).reverse := by have := h.cvx; rw [er] at this; exact this.front
  have lft : ∀ y, Y y → Lft (t :: r).reverse y := fun y hy => by have := h.lft y hy; rw [er] at this; exact this.front
  have sub : ∀ y ∈ t :: r, Y y := fun y hy => h.sub y (by rw [hT]; exact List.mem_append_right _ hy)
  have hpush : Hull.push S x = x :: t :: r := by unfold Hull.push; rw [h1]
  have erx : (x :: t :: r).reverse = (t :: r).reverse ++ [x] := by simp
  have ascx : Asc (x :: t :: r).reverse := by
    rw [erx]; exact asc.snoc fun y hy => hx y (sub y (List.mem_reverse.1 hy))
  have cvxx : Cvx (x :: t :: r).reverse := by
    rw [erx]
    refine cvx.snoc fun p' u t' e => ?_
    have e2 : t :: r = t' :: u :: p'.reverse := by
      have := congrArg List.reverse e
      simpa using this
    simp only [List.cons.injEq] at e2
    obtain ⟨rfl, h4⟩ := e2
    exact h3 u _ h4
  have tri := tri_of _ ascx cvxx
  have hlast : ∀ b q, t :: r = q ++ [b] → ∀ y, Y y → y = b ∨ lx b y := fun b q e => h.bot b (p ++ q) (by rw [hT, e]; simp)
  refine ⟨by rw [hpush]; simp, by rw [hpush]; exact ascx, by rw [hpush]; exact cvxx, fun y hy => ?_, fun t' r' e y hy => ?_, fun b q e y hy => ?_, fun y hy => ?_⟩
  · rw [hpush]
    rcases hy with hy | rfl
    · rw [erx]
      refine (lft y hy).snoc fun p' t' e => ?_
      have e2 : t :: r = t' :: p'.reverse := by
        have := congrArg List.reverse e
        simpa using this
      simp only [List.cons.injEq] at e2
      obtain ⟨rfl, h4⟩ := e2
      rcases lx_tri t y with hty | rfl | hyt
      · exact h2 y hy hty
      · simp
      · cases r with
        | nil =>
          rcases hlast t [] rfl y hy with rfl | h5
          · exact (lx_irr hyt).elim
          · exact (lx_asym hyt h5).elim
        | cons u r' =>
          have k1 := h3 u r' rfl
          have k2 : 0 ≤ tn u t y := lft y hy r'.reverse u t [] (by simp)
          have hut : lx u t := asc |> fun a => by
            have e : (t :: u :: r').reverse = r'.reverse ++ [u, t] := by simp
            rw [e] at a
            have := (List.pairwise_append.1 a).2.1
            exact (List.pairwise_cons.1 this).1 t (by simp)
          have htx : lx t x := hx t (sub t (by simp))
          -- z = t - y, e = t - u, v = x - t
          have q1 : 0 ≤ (t.1 - y.1) * (t.2 - u.2) - (t.2 - y.2) * (t.1 - u.1) := by
            have : (t.1 - y.1) * (t.2 - u.2) - (t.2 - y.2) * (t.1 - u.1) = tn u t y := by unfold tn; grind
            omega
          have q2 : 0 ≤ (t.1 - u.1) * (x.2 - t.2) - (t.2 - u.2) * (x.1 - t.1) := by rw [tn_e] at k1; omega
          have q3 := tr0 (lx_pos hyt) (lx_pos hut) (lx_pos htx) q1 q2
          have : (t.1 - y.1) * (x.2 - t.2) - (t.2 - y.2) * (x.1 - t.1) = tn t x y := by unfold tn; grind
          omega
    · exact tri.lft (by simp)
  · rw [hpush] at e
    simp only [List.cons.injEq] at e
    obtain ⟨rfl, _⟩ := e
    rcases hy with hy | rfl
    · exact .inr (hx y hy)
    · exact .inl rfl
  · rw [hpush] at e
    cases q with
    | nil => simp at e
    | cons x' q =>
      simp only [List.cons_append, List.cons.injEq] at e
      obtain ⟨rfl, e⟩ := e
      rcases hy with hy | rfl
      · exact hlast b q e y hy
      · right
        have : b ∈ t :: r := by rw [e]; simp
        exact hx b (sub b this)
  · rw [hpush] at hy
    rcases List.mem_cons.1 hy with rfl | hy
    · exact .inr rfl
    · exact .inl (sub y hy)
theorem Inv.one (x : Pt) : Inv [x] (fun y => y = x) := by
  refine ⟨by simp, by simp [Asc], fun p a b c q e => ?_, fun y _ p a b q e => ?_, fun t r e y hy => ?_, fun t r e y hy => ?_, fun y hy => by simpa using hy⟩
  · have := congrArg List.length e; simp at this; omega
  · have := congrArg List.length e; simp at this; omega
  · simp only [List.cons.injEq] at e; exact .inl (hy.trans e.1)
  · left
    have h2 := congrArg List.getLast? e
    simp at h2
    exact hy.trans h2
/-! Both sides. -/
def ng (p : Pt) : Pt := (-p.1, -p.2)
@[simp] theorem ng_ng (p : Pt) : ng (ng p) = p := by simp [ng]
@[simp] theorem tn_ng (a b c : Pt) : tn (ng a) (ng b) (ng c) = tn a b c := by simp only [tn, ng]; grind
@[simp] theorem lx_ng (a b : Pt) : lx (ng a) (ng b) ↔ lx b a := by simp only [lx, ng]; omega
@[simp] theorem map_ng_ng (l : List Pt) : (l.map ng).map ng = l := by
  rw [List.map_map, show ng ∘ ng = id from funext fun p => by simp [Function.comp]]; simp
theorem Cvx.ng {l : List Pt} (h : Cvx l) : Cvx (l.map ng) := by
  intro p a b c q e
  obtain ⟨p', t, rfl, rfl, e2⟩ := List.map_eq_append_iff.1 e
  obtain ⟨a', t', rfl, rfl, e3⟩ := List.map_eq_cons_iff.1 e2
  obtain ⟨b', t2, rfl, rfl, e4⟩ := List.map_eq_cons_iff.1 e3
  obtain ⟨c', t3, rfl, rfl, _⟩ := List.map_eq_cons_iff.1 e4
  rw [tn_ng]
  exact h p' a' b' c' t3 rfl
theorem Lft.ng {l : List Pt} {y : Pt} (h : Lft l y) : Lft (l.map ng) (ng y) := by
  intro p a b q e
  obtain ⟨p', t, rfl, rfl, e2⟩ := List.map_eq_append_iff.1 e
  obtain ⟨a', t', rfl, rfl, e3⟩ := List.map_eq_cons_iff.1 e2
  obtain ⟨b', t2, rfl, rfl, e4⟩ := List.map_eq_cons_iff.1 e3
  rw [tn_ng]
  exact h p' a' b' t2 rfl
/-- What the program asks of a polygon. -/
structure Pol (p : List Pt) : Prop where
  len : 3 ≤ p.length
  cyc : ∀ a b r, p = a :: b :: r → Cvx (a :: b :: r ++ [a, b])
  min : ∀ a r, p = a :: r → ∀ y ∈ r, lx a y
  star : ∀ a r q x y t, p = a :: r → r = q ++ x :: y :: t → 0 < tn a x y
/-! What the chains give is a polygon. -/
theorem Cvx.join {l u : List Pt} {z : Pt} (h1 : Cvx (l ++ [z])) (h2 : Cvx (z :: u)) (hj : ∀ p x y q, l = p ++ [x] → u = y :: q → 0 < tn x z y) : Cvx (l ++ z :: u) := by
  intro p a b c q e
  rcases List.append_eq_append_iff.1 e with ⟨t, e1, e2⟩ | ⟨t, e1, e2⟩
  · -- p = l ++ t
    subst e1
    exact h2 t a b c q e2
  · -- l = p ++ t
    subst e1
    match t, e2 with
    | [], e2 =>
      simp only [List.nil_append] at e2
      exact h2 [] a b c q e2.symm
    | [x], e2 =>
      simp only [List.cons_append, List.nil_append, List.cons.injEq] at e2
      obtain ⟨e7, e8, e9⟩ := e2
      subst e7; subst e8
      exact hj p a c q rfl e9.symm
    | [x, y], e2 =>
      simp only [List.cons_append, List.nil_append, List.cons.injEq] at e2
      obtain ⟨e6, e7, e8, e9⟩ := e2
      subst e6; subst e7; subst e8
      exact h1 p a b c [] (by simp)
    | x :: y :: w :: t, e2 =>
      simp only [List.cons_append, List.cons.injEq] at e2
      obtain ⟨e6, e7, e8, e9⟩ := e2
      subst e6; subst e7; subst e8
      exact h1 p a b c (t ++ [z]) (by simp)
structure Low (s L : List Pt) (a z : Pt) : Prop where
  head : L.head? = some a
  last : L.getLast? = some z
  asc : Asc L
  cvx : Cvx L
  lft : ∀ y ∈ s, Lft L y
  sub : ∀ y ∈ L, y ∈ s
  amin : ∀ y ∈ s, y = a ∨ lx a y
  zmax : ∀ y ∈ s, y = z ∨ lx y z
theorem shape {L : List Pt} {a z : Pt} (h1 : L.head? = some a) (h2 : L.getLast? = some z) (hne : a ≠ z) : ∃ l, L = a :: l ++ [z] := by
  cases L with
  | nil => simp at h1
  | cons b r =>
    simp only [List.head?_cons, Option.some.injEq] at h1
    subst h1
    rcases List.eq_nil_or_concat r with rfl | ⟨l, w, rfl⟩
    · simp at h2; exact absurd h2 hne
    · rw [List.concat_eq_append] at h2 ⊢
      rw [List.getLast?_cons, List.getLast?_concat] at h2
      simp at h2
      subst h2
      exact ⟨l, rfl⟩
/-! Points put in order. -/
def ins (v : Pt) : List Pt → List Pt
  | [] => [v]
  | x :: r => if lx v x then v :: x :: r else if v = x then x :: r else x :: ins v r
end Hull
end Go.Proofs.Ytednadbkcpcmfaa
