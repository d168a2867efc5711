/-
  Triangles filled with empty triangles: how many edges. Plain, no condition.
-/
import Derived.Test.YtcpdhjklcongoaaPlTf
namespace Go.Proofs.Ytcpdhjklcongoaa
open Go Go.Proofs.Ytcpdhjklcongoaa.Eng
open Hull (Pt tn lx at_ at_some at_mem Pol)
set_option linter.unusedVariables false
set_option linter.unusedSimpArgs false
theorem segU_mem {u : Pt} {e : Pt × Pt} : (g : Nat) → {A : Pt} → e ∈ segU A u g → ∃ k, e = (stp A u k, stp A u (k + 1))
  | 0, A, h => by simp [segU] at h
  | g + 1, A, h => by
    simp only [segU, List.mem_cons] at h
    rcases h with rfl | h
    · exact ⟨0, by rw [stp_zero]⟩
    · obtain ⟨k, rfl⟩ := segU_mem g h
      exact ⟨1 + k, by rw [stp_stp, stp_stp]; rfl⟩
theorem seg_tn {A B : Pt} {e : Pt × Pt} (h : e ∈ seg A B) : ∃ g : Int, 0 < g ∧ ∀ z, g * tn e.1 e.2 z = tn A B z := by
  have hne : A ≠ B := fun h' => by subst h'; rw [seg_same] at h; simp at h
  obtain ⟨u, g, hu, hB, _, hg, _⟩ := seg_step A B hne
  rw [hB, seg_of hu] at h
  obtain ⟨k, rfl⟩ := segU_mem g h
  refine ⟨g, by omega, fun z => ?_⟩
  rw [hB]
  unfold stp tn
  simp only
  rw [show ((k + 1 : Nat) : Int) = (k : Int) + 1 from by omega]
  generalize (k : Int) = m
  generalize (g : Int) = n
  grind
def rim (P : List Pt) : List (Pt × Pt) := (List.range P.length).flatMap fun k => seg (at_ P k) (nx P k)
theorem rim_mem {P : List Pt} {e : Pt × Pt} (h : e ∈ rim P) : ∃ k, k < P.length ∧ e ∈ seg (at_ P k) (nx P k) := by
  obtain ⟨k, hk, he⟩ := List.mem_flatMap.1 h
  exact ⟨k, List.mem_range.1 hk, he⟩
theorem rim_one {P : List Pt} (hP : Pol P) {e : Pt × Pt} (h : e ∈ rim P) : fl e ∉ rim P := fun h2 => by
  have h3 := hP.len
  obtain ⟨i, hi, he⟩ := rim_mem h
  obtain ⟨j, hj, hf⟩ := rim_mem h2
  obtain ⟨g, hg, t⟩ := seg_tn he
  obtain ⟨g', hg', t'⟩ := seg_tn hf
  have hc := (Hull.pol_chk h3).1 hP i hi
  unfold Hull.chk at hc
  simp only [Bool.and_eq_true, decide_eq_true_eq] at hc
  have hz := at_mem (P := P) (k := (i + 2) % P.length) (Nat.mod_lt _ (by omega))
  have a1 := mem_in hP hz i hi
  have a2 := mem_in hP hz j hj
  unfold sd at a1 a2
  have e1 := t (at_ P ((i + 2) % P.length))
  have e2 := t' (at_ P ((i + 2) % P.length))
  unfold nx at e1 e2
  have hr : tn (fl e).1 (fl e).2 (at_ P ((i + 2) % P.length)) = - tn e.1 e.2 (at_ P ((i + 2) % P.length)) := tn_rev _ _ _
  rw [hr] at e2
  have p1 : 0 < tn e.1 e.2 (at_ P ((i + 2) % P.length)) := by
    rcases Int.lt_or_le 0 (tn e.1 e.2 (at_ P ((i + 2) % P.length))) with h | h
    · exact h
    · have := Int.mul_nonpos_of_nonneg_of_nonpos (Int.le_of_lt hg) h; omega
  have := Int.mul_pos hg' p1
  rw [Int.mul_neg] at e2
  omega
theorem flat_sum {α : Type} (f : Nat → List α) (c : List α → Int) (h0 : c [] = 0) (ha : ∀ a b, c (a ++ b) = c a + c b) : (n : Nat) → c ((List.range n).flatMap f) = sumN n (fun k => c (f k))
  | 0 => h0
  | n + 1 => by
    rw [List.range_succ, List.flatMap_append, ha, flat_sum f c h0 ha n]
    simp only [List.flatMap_cons, List.flatMap_nil, List.append_nil]
    rfl
theorem rim_len (P : List Pt) : ((rim P).length : Int) = bndS P := by
  unfold rim bndS
  rw [flat_sum _ (fun l => ((l.length : Nat) : Int)) rfl (fun a b => by simp only [List.length_append]; omega)]
  exact sumN_congr _ fun k _ => seg_len _ _
theorem rim_net (P : List Pt) (e : Pt × Pt) : ((rim P).count e : Int) - ((rim P).count (fl e) : Int) = sumN P.length (fun k => dl e (at_ P k) (nx P k)) := by
  unfold rim
  exact flat_sum _ (fun l => ((l.count e : Nat) : Int) - ((l.count (fl e) : Nat) : Int)) rfl (fun a b => by simp only [List.count_append]; omega) _
def toE : List Int → Pt × Pt
  | [a, b, c, d] => ((a, b), (c, d))
  | _ => ((0, 0), (0, 0))
theorem toE_key (e : Pt × Pt) : toE (keyE e) = if lx e.2 e.1 then fl e else e := by
  unfold keyE
  split <;> rfl
theorem key_toE (e : Pt × Pt) : keyE e = [(toE (keyE e)).1.1, (toE (keyE e)).1.2, (toE (keyE e)).2.1, (toE (keyE e)).2.2] := by
  unfold keyE
  split <;> rfl
theorem nodup_count {α : Type} [BEq α] [LawfulBEq α] {l : List α} (h : l.Nodup) (a : α) : (a ∈ l → l.count a = 1) ∧ (a ∉ l → l.count a = 0) := by
  refine ⟨fun ha => ?_, fun ha => List.count_eq_zero.2 ha⟩
  have h1 := List.nodup_iff_count.1 h a
  have h2 := List.count_pos_iff.2 ha
  omega
/-- Twice the edges are all sides and the rim. -/
theorem edge_count {P : List Pt} (hP : Pol P) {T : List (Pt × Pt × Pt)} (hT : Good T) (hn : ∀ e, net T e = sumN P.length (fun k => dl e (at_ P k) (nx P k))) {M : List (List Int)} (hM : M.Nodup) (hm : ∀ z, z ∈ M ↔ z ∈ (sides T).map keyE) :
    2 * (M.length : Int) = 3 * (T.length : Int) + bndS P := by
  have hne : ∀ e ∈ sides T, e.1 ≠ e.2 := fun e he h => by
    obtain ⟨t, ht, he'⟩ := List.mem_flatMap.1 he
    obtain ⟨r, hr, _⟩ := side_third he'
    have := hT.pos t ht
    rw [← hr, h] at this
    unfold tn at this
    simp at this
  have hK : ∀ e, e ∈ M.map toE ↔ lx e.1 e.2 ∧ (e ∈ sides T ∨ fl e ∈ sides T) := fun e => by
    constructor
    · intro h
      obtain ⟨z, hz, rfl⟩ := List.mem_map.1 h
      obtain ⟨s, hs, rfl⟩ := List.mem_map.1 ((hm z).1 hz)
      rw [toE_key]
      by_cases hl : lx s.2 s.1
      · rw [if_pos hl]; exact ⟨hl, .inr hs⟩
      · rw [if_neg hl]
        refine ⟨?_, .inl hs⟩
        rcases Hull.lx_tri s.1 s.2 with h | h | h
        · exact h
        · exact absurd h (hne s hs)
        · exact absurd h hl
    · rintro ⟨hl, h | h⟩
      · refine List.mem_map.2 ⟨keyE e, (hm _).2 (List.mem_map.2 ⟨e, h, rfl⟩), ?_⟩
        rw [toE_key, if_neg fun h' => Hull.lx_asym hl h']
      · refine List.mem_map.2 ⟨keyE (fl e), (hm _).2 (List.mem_map.2 ⟨fl e, h, rfl⟩), ?_⟩
        rw [toE_key, if_pos (show lx (fl e).2 (fl e).1 from hl), fl_fl]
  have nK : (M.map toE).Nodup := by
    refine List.pairwise_map.2 (hM.imp_of_mem fun {a b} ha hb hab he => hab ?_)
    obtain ⟨s, _, rfl⟩ := List.mem_map.1 ((hm a).1 ha)
    obtain ⟨s', _, rfl⟩ := List.mem_map.1 ((hm b).1 hb)
    rw [key_toE s, key_toE s', he]
  have perm : ((M.map toE) ++ (M.map toE).map fl).Perm (sides T ++ (rim P).map fl) := by
    refine List.perm_iff_count.2 fun e => ?_
    rw [List.count_append, List.count_append, count_fl, count_fl]
    have n1 := nodup_count nK e
    have n2 := nodup_count nK (fl e)
    have s1 := nodup_count hT.nod e
    have s2 := nodup_count hT.nod (fl e)
    rw [hK] at n1 n2
    rw [fl_fl] at n2
    have hnet := hn e
    rw [← rim_net] at hnet
    unfold net at hnet
    have hz : (rim P).count e = 0 ∨ (rim P).count (fl e) = 0 := by
      by_cases h : e ∈ rim P
      · exact .inr (List.count_eq_zero.2 (rim_one hP h))
      · exact .inl (List.count_eq_zero.2 h)
    rcases Hull.lx_tri e.1 e.2 with hl | hl | hl
    · have hl' : ¬ lx (fl e).1 (fl e).2 := fun h => Hull.lx_asym hl h
      have c2 := n2.2 fun h => hl' h.1
      by_cases m1 : e ∈ sides T
      · have c1 := n1.1 ⟨hl, .inl m1⟩
        have d1 := s1.1 m1
        by_cases m2 : fl e ∈ sides T
        · have d2 := s2.1 m2; omega
        · have d2 := s2.2 m2; omega
      · have d1 := s1.2 m1
        by_cases m2 : fl e ∈ sides T
        · have c1 := n1.1 ⟨hl, .inr m2⟩
          have d2 := s2.1 m2; omega
        · have c1 := n1.2 fun h => h.2.elim m1 m2
          have d2 := s2.2 m2; omega
    · have he : fl e = e := Prod.ext hl.symm hl
      have m1 : e ∉ sides T := fun h => hne e h hl
      have d1 := s1.2 m1
      have c1 := n1.2 fun h => by rw [he] at h; exact h.2.elim m1 m1
      rw [he] at hz ⊢
      omega
    · have hl' : ¬ lx e.1 e.2 := fun h => Hull.lx_asym hl h
      have c1 := n1.2 fun h => hl' h.1
      by_cases m1 : e ∈ sides T
      · have c2 := n2.1 ⟨hl, .inr m1⟩
        have d1 := s1.1 m1
        by_cases m2 : fl e ∈ sides T
        · have d2 := s2.1 m2; omega
        · have d2 := s2.2 m2; omega
      · have d1 := s1.2 m1
        by_cases m2 : fl e ∈ sides T
        · have c2 := n2.1 ⟨hl, .inl m2⟩
          have d2 := s2.1 m2; omega
        · have c2 := n2.2 fun h => h.2.elim m2 m1
          have d2 := s2.2 m2; omega
  have hlen := perm.length_eq
  simp only [List.length_append, List.length_map] at hlen
  have h3 : (sides T).length = 3 * T.length := by
    clear hlen perm nK hK hne hm hM hn hT
    induction T with
    | nil => rfl
    | cons t T ih =>
      have : sides (t :: T) = dsT t ++ sides T := rfl
      rw [this, List.length_append, ih, List.length_cons]
      have : (dsT t).length = 3 := rfl
      omega
  have := rim_len P
  omega
end Go.Proofs.Ytcpdhjklcongoaa
