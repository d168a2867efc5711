/-
  The law FnPure. Plain, no condition.
-/
import Derived.Test.YtmdagdopfgiaiaaPlMi
import Derived.Test.YtmdagdopfgiaiaaPlHp
import Derived.Test.YtmdagdopfgiaiaaPlT
import Derived.Test.YtmdagdopfgiaiaaPlDc
import Derived.Test.YtmdagdopfgiaiaaPlSt
namespace Go.Proofs.Ytmdagdopfgiaiaa
open Go Go.Proofs.Ytmdagdopfgiaiaa.Eng
open Hull (Pt tn lx at_ at_some at_mem Pol)
set_option linter.unusedVariables false
set_option linter.unusedSimpArgs false
/-! What is drawn. -/
theorem pnew1 : s_DrawHullOf_s16_3 = cstep := rfl
theorem pnew2 : s_DrawMirrorPolygon_s16_3 = cstep := rfl
theorem pnew3 : s_DrawSplitCone_s16_3 = cstep := rfl
theorem pullList_ok {s : Cur} (h : CurOk s) {n : Int × Cur × Unit} (hn0 : 0 ≤ n.1) (hn : n.1 ≤ 100) : ∃ (l : List (List Int)) (s' : Cur), iter (s_DrawHullOf_s5 n) (s, ([], 0)) = some (s', l) ∧ CurOk s' ∧ l.length = n.1.toNat ∧ ∀ v ∈ l, v.length = 2 := by
  obtain ⟨y, e, hy⟩ := iter_run (step := s_DrawHullOf_s5 n) (fun t => CurOk t.1 ∧ 0 ≤ t.2.2 ∧ t.2.2 ≤ n.1 ∧ t.2.1.length = t.2.2.toNat ∧ ∀ v ∈ t.2.1, v.length = 2) (fun t => (n.1 - t.2.2).toNat) (fun _ y => CurOk y.1 ∧ y.2.length = n.1.toNat ∧ ∀ v ∈ y.2, v.length = 2) (fun t ht => by
    obtain ⟨c, l, k⟩ := t
    obtain ⟨g1, g2, g3, g4, g5⟩ := ht
    simp only at g1 g2 g3 g4 g5
    unfold s_DrawHullOf_s5
    simp only
    by_cases hk : k < n.1
    · right
      rw [show decide (k < n.1) = true from by simpa using hk, cond_true]
      obtain ⟨v, c', q1, q2, q3, _⟩ := draw_ok g1 (n := 2) (size := 5) (by omega) (by omega) (by omega) (by omega)
      have q1 : s_l2Draw (c.1, c.2.1, c.2.2) 2 5 = some (v, (c', ())) := q1
      have wk : IntKind.i64.wrap (k + 1) = k + 1 := wrap_id (by omega) (by omega)
      rw [q1]
      simp only [Option.bind_some, wk]
      rw [appD_some (by rw [lim_eq]; simp; omega) (by rw [lim_eq]; simp; omega)]
      refine ⟨_, rfl, ⟨q2, by simp only; omega, by simp only; omega, by simp; omega, fun z hz => ?_⟩, by simp only; omega, fun _ hy => hy⟩
      rcases List.mem_append.1 hz with hz | hz
      · exact g5 z hz
      · simp at hz; subst hz; exact q3
    · left
      rw [show decide (k < n.1) = false from by simpa using hk, cond_false]
      exact ⟨_, rfl, g1, by simp only; omega, g5⟩) (s, ([], 0)) ⟨h, by simp, by simp only; omega, by simp, by simp⟩
  exact ⟨y.2, y.1, e, hy.1, hy.2.1, hy.2.2⟩
theorem pullDraw_ok {code : List Int} (hc : code.length ≤ 1048576) : ∃ p, s_DrawHullOf code = some p ∧ p.length ≤ 200 ∧ ∀ v ∈ p, v.length ≤ 3 := by
  unfold s_DrawHullOf
  rw [pnew1]
  obtain ⟨y, e⟩ := new_loop hc (IntKind.i64.wrap (26583 + (code.length : Int)))
  rw [e]
  simp only [Option.bind_some]
  obtain ⟨n, c, a1, a2, a3, a4, a5⟩ := below_ok (s := (code, (0, y))) ⟨by simp, by simp, hc⟩ (n := 9) (by omega)
  have a1 : s_l1Below (code, (0, y)) 9 = some (n, (c, ())) := a1
  have a6 := a5 (by omega)
  obtain ⟨l, d, b1, b2, b3, b4⟩ := pullList_ok (n := (n, (c, ()))) a2 a3 (by simp only; omega)
  have b1 : iter (s_DrawHullOf_s5 (n, (c, ()))) ((c.1, (c.2.1, c.2.2)), ([], 0)) = some (d, l) := b1
  simp only at b3
  simp only [a1, b1, Option.bind_some]
  have b5 : ∀ v ∈ l, v.length ≤ 3 := fun v hv => by rw [b4 v hv]; omega
  by_cases hn : n > 0
  · rw [show decide (n > 0) = true from by simpa using hn, cond_true]
    obtain ⟨t, f, c1, c2⟩ := once_ok b2 (n := 12) (by omega)
    have c1 : s_l1Once (d.1, (d.2.1, d.2.2)) 12 = some (t, (f, ())) := c1
    simp only [c1, Option.bind_some]
    cases t with
    | true =>
      obtain ⟨m, g, e1, e2, e3, e4, e5⟩ := below_ok c2 (n := 2) (by omega)
      have e1 : s_l1Below (f.1, (f.2.1, f.2.2)) 2 = some (m, (g, ())) := e1
      have e6 := e5 (by omega)
      have wm : IntKind.i64.wrap (1 + m) = 1 + m := wrap_id (by omega) (by omega)
      obtain ⟨v, s2, k1, k2, k3, _⟩ := draw_ok e2 (n := 1 + m) (size := 60) (by omega) (by omega) (by omega) (by omega)
      have k1 : s_l2Draw (g.1, (g.2.1, g.2.2)) (1 + m) 60 = some (v, (s2, ())) := k1
      have i0 : inIdx l.length 0 = some () := inIdx_nat (k := 0) (by omega)
      have i1 : inIdx l.length (((0 : Int)).toNat : Int) = some () := inIdx_nat (k := 0) (by omega)
      simp only [e1, wm, k1, i0, i1, Option.bind_some, cond_true]
      exact ⟨_, rfl, by simp; omega, set_lens b5 (by omega)⟩
    | false => exact ⟨_, rfl, by omega, b5⟩
  · rw [show decide (n > 0) = false from by simpa using hn, cond_false]
    exact ⟨_, rfl, by omega, b5⟩
theorem purMirror_ok {code : List Int} (hc : code.length ≤ 1048576) : ∃ p, s_DrawMirrorPolygon code = some p ∧ FitLL p := by
  unfold s_DrawMirrorPolygon
  rw [pnew2]
  obtain ⟨y, e⟩ := new_loop hc (IntKind.i64.wrap (26583 + (code.length : Int)))
  rw [e]
  simp only [Option.bind_some]
  obtain ⟨p, c, a1, a2, _, a4, a5⟩ := l7Bent_ok (s := (code, (0, y))) ⟨by simp, by simp, hc⟩
  have a1 : s_l7Bent (code, (0, y)) = some (p, (c, ())) := a1
  simp only [a1, Option.bind_some]
  exact ⟨p, rfl, fit_small (by omega) fun v hv => by have := a5 v hv; omega⟩
theorem purCone_ok {code : List Int} (hc : code.length ≤ 1048576) : ∃ c : List Int × List Int, s_DrawSplitCone code = some c ∧ c.1.length ≤ 3 ∧ c.2.length ≤ 3 := by
  unfold s_DrawSplitCone
  rw [pnew3]
  obtain ⟨y, e⟩ := new_loop hc (IntKind.i64.wrap (26583 + (code.length : Int)))
  rw [e]
  simp only [Option.bind_some]
  obtain ⟨x, c, a1, a2, a3, a4⟩ := l9Bent_ok (s := (code, (0, y))) ⟨by simp, by simp, hc⟩
  have a1 : s_l9Bent (code, (0, y)) = some (x, (c, ())) := a1
  simp only [a1, Option.bind_some]
  exact ⟨(x.1, x.2), rfl, a3, a4⟩
/-! Texts of polygons. -/
theorem numsT_bd {q : Pt} (hq : Bd 50 q) : (numsT (em q)).length ≤ 100 := by
  have hv : ∀ x ∈ em q, I64 x := fun x hx => by
    unfold Bd at hq
    simp only [em, List.mem_cons, List.not_mem_nil, or_false] at hx
    unfold I64
    rcases hx with rfl | rfl <;> omega
  have := join_bd (sep := [44]) (nums_bd hv)
  rw [joinT_eq] at this
  have e : ((em q).map Lib.itoa).length * (([44] : List UInt8).length + 31) = 64 := rfl
  rw [e] at this
  exact Nat.le_trans this (by omega)
theorem polyText_ok {p : List (List Int)} (hp : FitLL p) : ∃ t, s_PolygonText p = some t := by
  unfold s_PolygonText
  rw [s_IsPolygon_eq hp.lim hp.eachLim]
  simp only [Option.bind_some]
  cases h1 : isPoly p with
  | false => exact ⟨_, rfl⟩
  | true =>
    obtain ⟨P, rfl, hB, g3, g12, hpol⟩ := poly_of h1
    rw [Bool.not_true, cond_false]
    have hl : ∀ q ∈ P, s_l2Text (em q) = some (bs (numsT (em q))) := fun q hq => l2Text_eq (by simp [em]) fun x hx => by
      have := hB q hq
      unfold Bd at this
      simp only [em, List.mem_cons, List.not_mem_nil, or_false] at hx
      unfold I64
      rcases hx with rfl | rfl <;> omega
    have key := iter_up (step := s_PolygonText_s5 (P.map em)) P.length (fun k => (((P.take k).map fun q => bs (numsT (em q))), (k : Int))) (P.map fun q => bs (numsT (em q))) (fun k hk => by
      have hx : P[k]? = some P[k] := List.getElem?_eq_getElem hk
      have hi : idx (P.map em) (k : Int) = some (em P[k]) := by rw [idx_nat, List.getElem?_map, hx]; rfl
      have hd : decide ((k : Int) < ((P.map em).length : Int)) = true := by simp; omega
      unfold s_PolygonText_s5
      simp only [hd, cond_true, hi, Option.bind_some, hl _ (List.getElem_mem hk)]
      rw [appD_some (by rw [lim_eq]; simp; omega) (by rw [lim_eq]; simp; omega), Option.bind_some, wrap_small (by omega) (by omega), take_map_succ _ hx]
      rfl) (by
      unfold s_PolygonText_s5
      simp)
    have e0 : ((((P.take 0).map fun q => bs (numsT (em q))), ((0 : Nat) : Int)) : List ByteArray × Int) = ([], 0) := rfl
    rw [e0] at key
    rw [key]
    have hm : (P.map fun q => bs (numsT (em q))) = (P.map fun q => numsT (em q)).map bs := by rw [List.map_map]; rfl
    have e1 : (⟨#[32]⟩ : ByteArray) = bs [32] := rfl
    simp only [Option.bind_some, hm, e1]
    rw [s_Join_eq (m := 100) (by simp; omega) (fun x hx => by
      obtain ⟨q, hq, rfl⟩ := List.mem_map.1 hx
      exact numsT_bd (hB q hq)) (by simp; omega)]
    exact ⟨_, rfl⟩
/-! What is written over. -/
def WF (y : List (List Int)) : Prop := y.length ≤ 1000000 ∧ ∀ q ∈ y, q.length ≤ 1000000
theorem WF.set {y : List (List Int)} (h : WF y) {i : Nat} {q : List Int} (hq : q.length ≤ 1000000) : WF (y.set i q) :=
  ⟨by rw [List.length_set]; exact h.1, fun z hz => by
    rcases List.mem_or_eq_of_mem_set hz with hz | rfl
    · exact h.2 z hz
    · exact hq⟩
theorem inIdx_int {n : Nat} {i : Int} (h0 : 0 ≤ i) (h1 : i < n) : inIdx n i = some () := by unfold inIdx; rw [if_pos ⟨h0, h1⟩]
theorem wrIn_ok {v : Int} {y : List (List Int)} (hy : WF y) {i : Int} (h0 : 0 ≤ i) (h1 : i < y.length) : ∃ y', iter (wrIn v i) (0, y) = some y' ∧ WF y' ∧ y'.length = y.length := by
  have hlt : i.toNat < y.length := by omega
  obtain ⟨z, e, hz⟩ := iter_run (step := wrIn v i) (fun t => 0 ≤ t.1 ∧ WF t.2 ∧ t.2.length = y.length ∧ ∃ q, t.2[i.toNat]? = some q ∧ q.length = (y[i.toNat]'hlt).length ∧ t.1 ≤ q.length) (fun t => ((y[i.toNat]'hlt).length - t.1).toNat) (fun _ z => WF z ∧ z.length = y.length) (fun t ht => by
    obtain ⟨k, x⟩ := t
    obtain ⟨g1, g2, g3, q, g4, g5, g6⟩ := ht
    simp only at g1 g2 g3 g4 g5 g6
    have hx : i.toNat < x.length := by omega
    have hql : q.length ≤ 1000000 := g2.2 q (List.mem_of_getElem? g4)
    unfold wrIn
    simp only
    rw [inIdx_int h0 (by omega), Option.bind_some, if_pos hx, g4, Option.bind_some]
    by_cases hk : k < q.length
    · right
      rw [show decide (k < (q.length : Int)) = true from by simpa using hk, cond_true]
      simp only [Option.bind_some]
      rw [if_pos hx, inIdx_int g1 hk]
      simp only [Option.bind_some]
      rw [List.getElem?_eq_getElem (show k.toNat < q.length by omega), Option.bind_some, wrap_id (by omega) (by omega)]
      refine ⟨_, rfl, ⟨by simp only; omega, g2.set (by rw [List.length_set]; exact hql), by simp only [List.length_set]; exact g3, q.set k.toNat v, ?_, by rw [List.length_set]; exact g5, by rw [List.length_set]; simp only; omega⟩, by simp only; omega, fun _ h => h⟩
      simp only [List.getElem?_set, if_true, hx]
    · left
      rw [show decide (k < (q.length : Int)) = false from by simpa using hk, cond_false]
      exact ⟨_, rfl, g2, g3⟩) (0, y) ⟨by simp, hy, rfl, y[i.toNat], List.getElem?_eq_getElem hlt, rfl, by simp⟩
  exact ⟨z, e, hz⟩
theorem wrAll_ok {v : Int} {y : List (List Int)} (hy : WF y) : ∃ y', wrAll v y = some y' := by
  obtain ⟨z, e, _⟩ := iter_run (step := wrOut v) (fun t => 0 ≤ t.1 ∧ t.1 ≤ t.2.length ∧ WF t.2 ∧ t.2.length = y.length) (fun t => (y.length - t.1).toNat) (fun _ _ => True) (fun t ht => by
    obtain ⟨k, x⟩ := t
    obtain ⟨g1, g2, g3, g4⟩ := ht
    simp only at g1 g2 g3 g4
    unfold wrOut
    simp only
    by_cases hk : k < x.length
    · right
      obtain ⟨x', w1, w2, w3⟩ := wrIn_ok (v := v) g3 g1 hk
      have := g3.1
      rw [show decide (k < (x.length : Int)) = true from by simpa using hk, cond_true, w1, Option.bind_some, wrap_id (by omega) (by omega)]
      exact ⟨_, rfl, ⟨by simp only; omega, by simp only; omega, w2, by simp only; omega⟩, by simp only; omega, fun _ h => h⟩
    · left
      rw [show decide (k < (x.length : Int)) = false from by simpa using hk, cond_false]
      exact ⟨_, rfl, trivial⟩) (0, y) ⟨by simp, by simp, hy, rfl⟩
  exact ⟨z, e⟩
/-! The law. -/
theorem before_copy {l : List (List Int)} (hl : l.length ≤ 100000) (h : ∀ v ∈ l, v.length ≤ 1000) : iter (w_FnPure_s8 l) ([], 0) = some l := by
  have := iter_up (step := w_FnPure_s8 l) l.length (fun k => (l.take k, (k : Int))) l (fun k hk => by
    have hx : l[k]? = some l[k] := List.getElem?_eq_getElem hk
    have hv := h _ (List.getElem_mem hk)
    unfold w_FnPure_s8
    simp only
    rw [show decide ((k : Int) < (l.length : Int)) = true from by simp; omega, cond_true, idx_some hx]
    simp only [Option.bind_some]
    rw [appD_some (by rw [lim_eq]; simp; omega) (by rw [lim_eq]; simp; omega), Option.bind_some, List.nil_append, appD_some (by rw [lim_eq]; simp; omega) (by rw [lim_eq]; simp; omega), Option.bind_some, wrap_small (by omega) (by omega), List.take_add_one, hx]
    rfl) (by
    unfold w_FnPure_s8
    simp)
  simpa using this
theorem mirror_lens {p : List (List Int)} : (mirS p).1.length ≤ 12 ∧ ∀ v ∈ (mirS p).1, v.length = 2 := by
  unfold mirS
  split
  · exact hullS_fit
  · simp
theorem law_Pure (x : List Int) (hx : TyOk (.list (.int .u8)) x) : w_FnPure x = some true := by
  unfold w_FnPure w_big
  simp only [Option.bind_some]
  by_cases hbig : (x.length : Int) > 1048576
  · rw [show decide ((x.length : Int) > 1048576) = true from by simpa using hbig]; rfl
  rw [show decide ((x.length : Int) > 1048576) = false from by simpa using hbig, cond_false]
  obtain ⟨l, q1, l1, l2⟩ := pullDraw_ok (code := x) (by omega)
  obtain ⟨p, q2, fp⟩ := purMirror_ok (code := x) (by omega)
  obtain ⟨c, q3, c1, c2⟩ := purCone_ok (code := x) (by omega)
  have fl : FitLL l := fit_small (by omega) fun v hv => by have := l2 v hv; omega
  obtain ⟨t, t1⟩ := polyText_ok fp
  have hb := before_copy (l := l) (by omega) fun v hv => by have := l2 v hv; omega
  have h1 := i_HullOf_eq fl.lim fl.eachLim
  have h2 := s_HullOf_eq fl.lim fl.eachLim
  obtain ⟨m1, m2⟩ := mirror_eq fp
  have hlim : ∀ n : Nat, n ≤ 100000 → n ≤ lim := fun n hn => Nat.le_trans hn (by decide)
  obtain ⟨L, s1, s2, s3⟩ := split_chn (c := c) (hlim _ (by omega)) (hlim _ (by omega))
  have hL : ∀ v ∈ L, v.length = 2 := fun v hv => by
    obtain ⟨a, b, e, _⟩ := s3.pv v hv
    rw [e]; rfl
  have hf := hullS_fit (p := l)
  have hg := mirror_lens (p := p)
  obtain ⟨w1, e1⟩ := wrAll_ok (v := 99) (y := (hullS l).1) ⟨by omega, fun v hv => by rw [hf.2 v hv]; omega⟩
  obtain ⟨w2, e2⟩ := wrAll_ok (v := 99) (y := (mirS p).1) ⟨by omega, fun v hv => by rw [hg.2 v hv]; omega⟩
  obtain ⟨w3, e3⟩ := wrAll_ok (v := 99) (y := L) ⟨by have := s3.len; omega, fun v hv => by rw [hL v hv]; omega⟩
  have k1 : w_sameLists l l = some true := sameLists_self fl.lim fl.eachLim
  have k2 : w_sameLists (hullS l).1 (hullS l).1 = some true := sameLists_self (hlim _ (by omega)) fun v hv => by rw [hf.2 v hv]; exact hlim _ (by omega)
  have k3 : w_sameLists (mirS p).1 (mirS p).1 = some true := sameLists_self (hlim _ (by omega)) fun v hv => by rw [hg.2 v hv]; exact hlim _ (by omega)
  have k4 : w_sameLists L L = some true := sameLists_self (hlim _ (by have := s3.len; omega)) fun v hv => by rw [hL v hv]; exact hlim _ (by omega)
  have s1' : s_SplitCone (c.1, c.2) = some L := s1
  have s2' : i_SplitCone (c.1, c.2) = some L := s2
  simp only [q1, q2, q3, t1, hb, h1, h2, m1, m2, s1', s2', e1, e2, e3, k1, k2, k3, k4, Option.bind_some, beq_self_eq_true, cond_true]
end Go.Proofs.Ytmdagdopfgiaiaa
