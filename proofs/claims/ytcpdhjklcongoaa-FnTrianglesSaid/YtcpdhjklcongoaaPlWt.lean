/-
  Plain: sums around a polygon; its corners lie in it; a polygon of width one has no inner point. No condition.
-/
import Derived.Test.YtcpdhjklcongoaaPlJ
namespace Go.Proofs.Ytcpdhjklcongoaa
open Go Go.Proofs.Ytcpdhjklcongoaa.Eng
set_option linter.unusedVariables false
set_option linter.unusedSimpArgs false
open Hull (Pt Pol tn lx pos at_ at_some at_of at_mem Asc Dsc Cvx Lft)
/-! Corners are distinct. -/
theorem star_next {P : List Pt} (h : Pol P) {k : Nat} (h0 : 1 ≤ k) (h1 : k + 1 < P.length) : 0 < tn (at_ P 0) (at_ P k) (at_ P (k + 1)) := by
  have hc := (Hull.pol_chk h.len).1 h k (by omega)
  unfold Hull.chk at hc
  simp only [Bool.and_eq_true, Bool.or_eq_true, decide_eq_true_eq, beq_iff_eq] at hc
  rcases hc.2 with h | ⟨_, h | h⟩
  · omega
  · omega
  · exact h
theorem star_lx {P : List Pt} (h : Pol P) {k : Nat} (h0 : 1 ≤ k) (h1 : k < P.length) : lx (at_ P 0) (at_ P k) := by
  have hc := (Hull.pol_chk h.len).1 h k h1
  unfold Hull.chk at hc
  simp only [Bool.and_eq_true, Bool.or_eq_true, decide_eq_true_eq, beq_iff_eq] at hc
  rcases hc.2 with h | ⟨h, _⟩
  · omega
  · exact h
theorem star_far {P : List Pt} (h : Pol P) {i : Nat} (h0 : 1 ≤ i) : ∀ (d : Nat), i + d + 1 < P.length → 0 < tn (at_ P 0) (at_ P i) (at_ P (i + d + 1))
  | 0, hd => star_next h h0 (by omega)
  | d + 1, hd => by
    have ih := star_far h h0 d (by omega)
    have hn := star_next h (k := i + d + 1) (by omega) (by omega)
    have p1 := Hull.lx_pos (star_lx h h0 (by omega))
    have p2 := Hull.lx_pos (star_lx h (k := i + d + 1) (by omega) (by omega))
    have p3 := Hull.lx_pos (star_lx h (k := i + (d + 1) + 1) (by omega) (by omega))
    unfold tn at ih hn ⊢
    exact Hull.tr1 p1 p2 p3 ih (Int.le_of_lt hn)
theorem pol_inj {P : List Pt} (h : Pol P) {i j : Nat} (hi : i < P.length) (hj : j < P.length) (he : at_ P i = at_ P j) : i = j := by
  have key : ∀ {i j : Nat}, i < j → j < P.length → at_ P i ≠ at_ P j := fun {i j} hij hj he => by
    rcases Nat.eq_zero_or_pos i with rfl | h0
    · have := star_lx h (k := j) (by omega) hj
      rw [← he] at this
      exact Hull.lx_irr this
    · obtain ⟨d, rfl⟩ : ∃ d, j = i + d + 1 := ⟨j - i - 1, by omega⟩
      have := star_far h h0 d hj
      rw [← he] at this
      unfold tn at this
      have e : ∀ x y : Int, x * y - y * x = 0 := fun x y => by rw [Int.mul_comm x y]; omega
      rw [e] at this
      omega
  rcases Nat.lt_trichotomy i j with h | h | h
  · exact absurd he (key h hj)
  · exact h
  · exact absurd he.symm (key h hi)
/-! Every point of a hull's list lies in the hull. -/
theorem lft_join {l1 l2 : List Pt} {z y : Pt} (h1 : Lft (l1 ++ [z]) y) (h2 : Lft (z :: l2) y) : Lft (l1 ++ z :: l2) y := by
  intro p a b q e
  rcases List.append_eq_append_iff.1 e with ⟨t, e1, e2⟩ | ⟨t, e1, e2⟩
  · exact h2 t a b q (by rw [e2])
  · cases t with
    | nil => simp only [List.nil_append] at e2; exact h2 [] a b q (by rw [← e2]; rfl)
    | cons x t =>
      cases t with
      | nil =>
        simp only [List.cons_append, List.nil_append, List.cons.injEq] at e2
        obtain ⟨rfl, rfl, _⟩ := e2
        exact h1 p _ _ [] (by rw [e1]; simp)
      | cons w t =>
        simp only [List.cons_append, List.cons.injEq] at e2
        obtain ⟨rfl, rfl, _⟩ := e2
        exact h1 p a b (t ++ [z]) (by rw [e1]; simp)
theorem hull_shape {s : List Pt} (hs : Asc s) (hne : s ≠ []) : (∃ a, ∀ w ∈ s, w = a) ∨ ∃ a z l u, a ≠ z ∧ Hull.hull s = a :: (l ++ z :: u) ∧ (∀ w ∈ s, Lft (a :: l ++ [z]) w) ∧ ∀ w ∈ s, Lft (z :: u ++ [a]) w := by
  obtain ⟨a, z, lo⟩ := Hull.low_of hs hne
  obtain ⟨z', a', hi⟩ := Hull.low_of (s := s.reverse.map Hull.ng) (Hull.asc_ng.2 (Hull.dsc_rev.2 hs)) (by simpa using hne)
  have mem_ng : ∀ y, y ∈ s → Hull.ng y ∈ s.reverse.map Hull.ng := fun y hy => List.mem_map_of_mem (List.mem_reverse.2 hy)
  have has : a ∈ s := lo.sub a (List.mem_of_head? lo.head)
  have hzs : z ∈ s := lo.sub z (List.mem_of_getLast? lo.last)
  have ez : z' = Hull.ng z := by
    have h1 := Hull.Low.ng_mem (hi.sub z' (List.mem_of_head? hi.head))
    rcases hi.amin (Hull.ng z) (mem_ng z hzs) with h | h
    · exact h.symm
    · rcases lo.zmax _ h1 with h' | h'
      · rw [← h', Hull.ng_ng]
      · rw [← Hull.lx_ng, Hull.ng_ng] at h'; exact (Hull.lx_asym h h').elim
  have ea : a' = Hull.ng a := by
    have h1 := Hull.Low.ng_mem (hi.sub a' (List.mem_of_getLast? hi.last))
    rcases hi.zmax (Hull.ng a) (mem_ng a has) with h | h
    · exact h.symm
    · rcases lo.amin _ h1 with h' | h'
      · rw [← h', Hull.ng_ng]
      · rw [← Hull.lx_ng, Hull.ng_ng] at h'; exact (Hull.lx_asym h h').elim
  subst ez; subst ea
  have eH : (Hull.chain s.reverse).reverse = ((Hull.chain (s.reverse.map Hull.ng)).reverse).map Hull.ng := by
    rw [Hull.chain_ng, ← List.map_reverse, Hull.map_ng_ng]
  by_cases haz : a = z
  · refine .inl ⟨a, fun w hw => ?_⟩
    rcases lo.amin w hw with h | h
    · exact h
    · rcases lo.zmax w hw with h' | h'
      · rw [h', haz]
      · rw [← haz] at h'
        exact (Hull.lx_asym h h').elim
  obtain ⟨l, el⟩ := Hull.shape lo.head lo.last haz
  obtain ⟨u', eu⟩ := Hull.shape hi.head hi.last (fun h => haz (Hull.ng_inj h).symm)
  rw [el] at lo
  rw [eu] at hi
  let u := u'.map Hull.ng
  have eu' : u' = u.map Hull.ng := (Hull.map_ng_ng u').symm
  have eU : (Hull.chain s.reverse).reverse = z :: u ++ [a] := by rw [eH, eu]; simp [u]
  have eUn : Hull.ng z :: u' ++ [Hull.ng a] = (z :: u ++ [a]).map Hull.ng := by rw [eu']; simp only [List.map_append, List.map_cons, List.map_nil, List.cons_append]
  have ehull : Hull.hull s = a :: (l ++ z :: u) := by
    unfold Hull.hull
    rw [el, eU, List.dropLast_concat, List.dropLast_concat]
    rfl
  have lU : ∀ w ∈ s, Lft (z :: u ++ [a]) w := fun w hw => by
    have := (hi.lft (Hull.ng w) (mem_ng w hw)).ng
    rw [eUn, Hull.map_ng_ng, Hull.ng_ng] at this; exact this
  exact .inr ⟨a, z, l, u, haz, ehull, fun w hw => lo.lft w hw, lU⟩
theorem hull_lft {s : List Pt} (hs : Asc s) (h3 : 3 ≤ (Hull.hull s).length) : ∃ a r, Hull.hull s = a :: r ∧ ∀ w ∈ s, Lft (a :: r ++ [a]) w := by
  have hne : s ≠ [] := by rintro rfl; simp [Hull.hull, Hull.chain] at h3
  rcases hull_shape hs hne with ⟨a, h⟩ | ⟨a, z, l, u, haz, e, h1, h2⟩
  · exfalso
    match s, hs, hne, h, h3 with
    | [x], _, _, _, h3 => simp [Hull.hull, Hull.chain, Hull.push, Hull.pops] at h3
    | x :: y :: r, hs, _, h, _ =>
      have := Hull.Asc.mem_lt hs (show y ∈ y :: r by simp)
      rw [h x (by simp), h y (by simp)] at this
      exact Hull.lx_irr this
  · refine ⟨a, l ++ z :: u, e, fun w hw => ?_⟩
    have := lft_join (l1 := a :: l) (l2 := u ++ [a]) (h1 w hw) (h2 w hw)
    simpa using this
theorem lft_inP {P : List Pt} {a : Pt} {r : List Pt} (e : P = a :: r) {w : Pt} (h : Lft (a :: r ++ [a]) w) : inP P w := by
  intro k hk
  unfold sd
  have ha : at_ P 0 = a := by rw [e]; rfl
  have g : ∀ j, j ≤ P.length → (P ++ [a])[j]? = some (at_ P (j % P.length)) := fun j hj => by
    rcases Nat.lt_or_ge j P.length with h1 | h1
    · rw [List.getElem?_append_left h1, Nat.mod_eq_of_lt h1, at_some h1]
    · have : j = P.length := by omega
      subst this
      rw [List.getElem?_append_right (Nat.le_refl _), Nat.sub_self, Nat.mod_self, ha]; rfl
  have g1 := g k (by omega)
  rw [Nat.mod_eq_of_lt hk] at g1
  have := Hull.drop2 g1 (g (k + 1) (by omega))
  rw [e] at this
  rw [e]
  exact h _ _ _ _ this
theorem hull_in {s : List Pt} (hs : Asc s) (h3 : 3 ≤ (Hull.hull s).length) {w : Pt} (hw : w ∈ s) : inP (Hull.hull s) w := by
  obtain ⟨a, r, e, h⟩ := hull_lft hs h3
  exact lft_inP e (h w hw)
theorem mem_in {P : List Pt} (h : Pol P) {q : Pt} (hq : q ∈ P) : inP P q := by
  obtain ⟨hs, hm⟩ := Hull.sorted_spec P
  have e := Hull.hull_pol h hs hm
  have := hull_in hs (by rw [e]; exact h.len) ((hm q).2 hq)
  rw [e] at this
  exact this
/-! Sums around. -/
def sumN : Nat → (Nat → Int) → Int
  | 0, _ => 0
  | n + 1, f => sumN n f + f n
theorem sumN_congr {f g : Nat → Int} : ∀ (n : Nat), (∀ k, k < n → f k = g k) → sumN n f = sumN n g
  | 0, _ => rfl
  | n + 1, h => by unfold sumN; rw [sumN_congr n fun k hk => h k (by omega), h n (by omega)]
/-- The next corner. -/
def nx (P : List Pt) (k : Nat) : Pt := at_ P ((k + 1) % P.length)
def crsP (a b : Pt) : Int := a.1 * b.2 - a.2 * b.1
def areaS (P : List Pt) : Int := sumN P.length fun k => crsP (at_ P k) (nx P k)
def gcdP (a b : Pt) : Int := (Int.gcd (b.1 - a.1) (b.2 - a.2) : Nat)
def bndS (P : List Pt) : Int := sumN P.length fun k => gcdP (at_ P k) (nx P k)
end Go.Proofs.Ytcpdhjklcongoaa
