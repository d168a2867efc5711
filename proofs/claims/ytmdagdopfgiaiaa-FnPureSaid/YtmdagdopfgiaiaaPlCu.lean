/-
  Plain: the cursor of what is drawn. No condition.
-/
import Derived.Test.YtmdagdopfgiaiaaPl4
namespace Go.Proofs.Ytmdagdopfgiaiaa
open Go Go.Proofs.Ytmdagdopfgiaiaa.Eng
set_option linter.unusedVariables false
set_option linter.unusedSimpArgs false
abbrev Cur := List Int × Int × Int
def CurOk (s : Cur) : Prop := 0 ≤ s.2.1 ∧ s.2.1 ≤ s.1.length ∧ s.1.length ≤ 1048576
theorem and255 (a : Int) : 0 ≤ andI .i64 a 255 ∧ andI .i64 a 255 ≤ 255 := by
  unfold andI
  have h : (BitVec.ofInt IntKind.i64.bits a &&& BitVec.ofInt IntKind.i64.bits 255).toNat ≤ 255 := by
    rw [BitVec.toNat_and]
    exact Nat.le_trans Nat.and_le_right (by decide)
  rw [wrap_id (by omega) (by omega)]
  omega
theorem idx_int {α : Type} {xs : List α} {i : Int} (h0 : 0 ≤ i) (h1 : i < xs.length) : ∃ v, idx xs i = some v ∧ v ∈ xs := by
  unfold idx
  rw [if_pos h0]
  have : i.toNat < xs.length := by omega
  exact ⟨_, List.getElem?_eq_getElem this, List.getElem_mem _⟩
theorem byte_ok {s : Cur} (h : CurOk s) : ∃ (x : Int) (s' : Cur), s_l1Byte s = some (x, (s', ())) ∧ CurOk s' ∧ 0 ≤ x ∧ x ≤ 255 := by
  obtain ⟨h0, h1, h2⟩ := h
  unfold s_l1Byte
  simp only [shrI]
  rw [if_neg (by decide), if_neg (by decide)]
  simp only [Option.bind_some]
  by_cases hlt : s.2.1 < s.1.length
  · obtain ⟨v, hv, _⟩ := idx_int h0 hlt
    rw [show decide (s.2.1 < (s.1.length : Int)) = true from by simpa using hlt, cond_true, hv]
    simp only [Option.bind_some]
    have w : IntKind.i64.wrap (s.2.1 + 1) = s.2.1 + 1 := wrap_id (by omega) (by omega)
    refine ⟨_, _, rfl, ⟨?_, ?_, h2⟩, (and255 _).1, (and255 _).2⟩
    · show 0 ≤ IntKind.i64.wrap (s.2.1 + 1); omega
    · show IntKind.i64.wrap (s.2.1 + 1) ≤ s.1.length; omega
  · rw [show decide (s.2.1 < (s.1.length : Int)) = false from by simpa using hlt, cond_false]
    exact ⟨_, _, rfl, ⟨h0, h1, h2⟩, (and255 _).1, (and255 _).2⟩
theorem below_ok {s : Cur} (h : CurOk s) {n : Int} (hn : n ≤ 256) : ∃ (x : Int) (s' : Cur), s_l1Below s n = some (x, (s', ())) ∧ CurOk s' ∧ 0 ≤ x ∧ x ≤ 255 ∧ (0 < n → x < n) := by
  unfold s_l1Below
  by_cases h0 : n ≤ 0
  · rw [show decide (n ≤ 0) = true from by simpa using h0, cond_true]
    exact ⟨0, s, rfl, h, by omega, by omega, fun h => by omega⟩
  · rw [show decide (n ≤ 0) = false from by simpa using h0, cond_false, show decide (n ≤ 256) = true from by simpa using hn, cond_true]
    obtain ⟨x, s', h1, h2, h3, h4⟩ := byte_ok h
    have h1 : s_l1Byte (s.1, s.2.1, s.2.2) = some (x, (s', ())) := h1
    rw [h1]
    simp only [Option.bind_some, remI_some (a := x) (b := n) (by omega)]
    have t1 := tmod_lt (a := x) (b := n) (by omega)
    have t2 := Int.tmod_nonneg n h3
    exact ⟨_, s', rfl, h2, t2, by have := Int.tmod_lt_of_pos x (show 0 < n by omega); omega, fun _ => by omega⟩
theorem once_ok {s : Cur} (h : CurOk s) {n : Int} (hn : n ≤ 256) : ∃ (x : Bool) (s' : Cur), s_l1Once s n = some (x, (s', ())) ∧ CurOk s' := by
  obtain ⟨x, s', h1, h2, _⟩ := below_ok h hn
  have h1 : s_l1Below (s.1, s.2.1, s.2.2) n = some (x, (s', ())) := h1
  unfold s_l1Once
  rw [h1]
  exact ⟨_, s', rfl, h2⟩
theorem pickInt_ok {s : Cur} (h : CurOk s) {l : List Int} (h0 : 0 < l.length) (hl : l.length ≤ 256) : ∃ (x : Int) (s' : Cur), s_l1PickInt s l = some (x, (s', ())) ∧ CurOk s' ∧ x ∈ l := by
  obtain ⟨x, s', h1, h2, h3, _, h4⟩ := below_ok h (n := l.length) (by omega)
  have h1 : s_l1Below (s.1, s.2.1, s.2.2) l.length = some (x, (s', ())) := h1
  obtain ⟨v, hv, hm⟩ := idx_int (xs := l) h3 (h4 (by omega))
  unfold s_l1PickInt
  rw [h1]
  simp only [Option.bind_some, hv]
  exact ⟨v, s', rfl, h2, hm⟩
theorem bit_ok (b : Bool) : ∃ x : Int, s_l1Bit b = some x ∧ 0 ≤ x ∧ x ≤ 1 := by
  cases b
  · exact ⟨0, rfl, by omega, by omega⟩
  · exact ⟨1, rfl, by omega, by omega⟩
theorem draw_ok {s : Cur} (h : CurOk s) {n size : Int} (hn : 0 ≤ n) (hn3 : n ≤ 3) (h0 : 0 ≤ size) (h1 : size ≤ 127) : ∃ (v : List Int) (s' : Cur), s_l2Draw s n size = some (v, (s', ())) ∧ CurOk s' ∧ v.length = n.toNat ∧ ∀ x ∈ v, -127 ≤ x ∧ x ≤ 255 := by
  have w1 : IntKind.i64.wrap (IntKind.i64.wrap (2 * size) + 1) = 2 * size + 1 := by
    rw [wrap_id (x := 2 * size) (by omega) (by omega), wrap_id (by omega) (by omega)]
  obtain ⟨y, e, hy⟩ := iter_run (step := s_l2Draw_s3 n size) (fun t => CurOk t.1 ∧ 0 ≤ t.2.2 ∧ t.2.2 ≤ n ∧ t.2.1.length = t.2.2.toNat ∧ ∀ x ∈ t.2.1, -127 ≤ x ∧ x ≤ 255) (fun t => (n - t.2.2).toNat) (fun _ y => CurOk y.1 ∧ y.2.length = n.toNat ∧ ∀ x ∈ y.2, -127 ≤ x ∧ x ≤ 255) (fun t ht => by
    obtain ⟨c, v, k⟩ := t
    obtain ⟨g1, g2, g3, g4, g5⟩ := ht
    simp only at g1 g2 g3 g4 g5
    unfold s_l2Draw_s3
    simp only
    by_cases hk : k < n
    · right
      rw [show decide (k < n) = true from by simpa using hk, cond_true, w1]
      obtain ⟨x, c', q1, q2, q3, q4, _⟩ := below_ok g1 (n := 2 * size + 1) (by omega)
      have q1 : s_l1Below (c.1, c.2.1, c.2.2) (2 * size + 1) = some (x, (c', ())) := q1
      have wk : IntKind.i64.wrap (k + 1) = k + 1 := wrap_id (by omega) (by omega)
      have wx : IntKind.i64.wrap (x - size) = x - size := wrap_id (by omega) (by omega)
      rw [q1]
      simp only [Option.bind_some, wx, wk]
      rw [appD_some (by rw [lim_eq]; simp; omega) (by rw [lim_eq]; simp; omega)]
      refine ⟨_, rfl, ⟨q2, by simp only; omega, by simp only; omega, by simp; omega, fun z hz => ?_⟩, by simp only; omega, fun _ hy => hy⟩
      rcases List.mem_append.1 hz with hz | hz
      · exact g5 z hz
      · simp at hz; subst hz; omega
    · left
      rw [show decide (k < n) = false from by simpa using hk, cond_false]
      have : k = n := by omega
      subst this
      exact ⟨_, rfl, g1, g4, g5⟩) (s, ([], 0)) ⟨h, by simp, by simpa using hn, by simp, by simp⟩
  unfold s_l2Draw
  have e : iter (s_l2Draw_s3 n size) ((s.1, (s.2.1, s.2.2)), (([] : List Int), (0 : Int))) = some y := e
  rw [e]
  exact ⟨y.2, y.1, rfl, hy.1, hy.2.1, hy.2.2⟩
theorem two_of {v : List Int} (h : v.length = 2) : ∃ a b, v = [a, b] := by
  match v, h with
  | [a, b], _ => exact ⟨a, b, rfl⟩
/-- How the bytes are mixed. -/
noncomputable def cstep (x0 : List Int) (v1 : Int × Int) : Option ((Int × Int) ⊕ (Int)) :=
 cond (decide (v1.2 < (x0.length : Int)))
 (cond (decide (v1.2 < (4000 : Int)))
 ((idx x0 v1.2).bind fun v2 => some (.inl ((andI .i64 (IntKind.i64.wrap ((IntKind.i64.wrap ((IntKind.i64.wrap (v1.1 * (131 : Int))) + (IntKind.i64.wrap v2))) + (7 : Int))) (1073741823 : Int)), (IntKind.i64.wrap (v1.2 + (1 : Int))))))
 (some (.inr v1.1)))
 (some (.inr v1.1))
theorem new_loop {code : List Int} (hc : code.length ≤ 1048576) (h0 : Int) : ∃ y, iter (cstep code) (h0, 0) = some y := by
  obtain ⟨y, e, _⟩ := iter_run (step := cstep code) (fun t => 0 ≤ t.2 ∧ t.2 ≤ 1048576) (fun t => (1048577 - t.2).toNat) (fun _ _ => True) (fun t ht => by
    obtain ⟨x, k⟩ := t
    obtain ⟨g1, g2⟩ := ht
    simp only at g1 g2
    unfold cstep
    simp only
    by_cases hk : k < code.length
    · rw [show decide (k < (code.length : Int)) = true from by simpa using hk, cond_true]
      by_cases hk2 : k < 4000
      · rw [show decide (k < 4000) = true from by simpa using hk2, cond_true]
        obtain ⟨v, hv, _⟩ := idx_int g1 hk
        have wk : IntKind.i64.wrap (k + 1) = k + 1 := wrap_id (by omega) (by omega)
        rw [hv]
        simp only [Option.bind_some, wk]
        exact .inr ⟨_, rfl, ⟨by simp only; omega, by simp only; omega⟩, by simp only; omega, fun _ h => h⟩
      · rw [show decide (k < 4000) = false from by simpa using hk2, cond_false]
        exact .inl ⟨_, rfl, trivial⟩
    · rw [show decide (k < (code.length : Int)) = false from by simpa using hk, cond_false]
      exact .inl ⟨_, rfl, trivial⟩) (h0, 0) ⟨by simp, by simp⟩
  exact ⟨y, e⟩
end Go.Proofs.Ytmdagdopfgiaiaa
