/-
  The law of EmptyTriangles. Plain, no condition.
-/
import Derived.Test.YtlccglonhkcahaaPlEg
namespace Go.Proofs.Ytlccglonhkcahaa
open Go Go.Proofs.Ytlccglonhkcahaa.Eng
set_option linter.unusedVariables false
set_option linter.unusedSimpArgs false

def c3 (x : List (List Int)) : Nat := (x.map List.length).sum
def ms3 (n : Int) (xs : List (List (List Int))) : List (List (List Int)) := mkL msL c3 n xs

theorem d_markIntSSS_ms {xs : List (List (List Int))} (hl : xs.length ≤ 2097152) (he : ∀ x ∈ xs, x.length ≤ 2097152) (ht : totC c3 xs ≤ 2097152) {n : Int} (h0 : 0 ≤ n) (h1 : n ≤ 274877906944) :
    d_markIntSSS xs n = some (ms3 n xs, n + totC c3 xs) := by
  have := markL_eq (step := d_markIntSSS_s) msL c3 xs n (fun k m ys x hx hy hyl hm hle => by
    have hk := (List.getElem?_eq_some_iff.1 hx).1
    have hxl := sum_mem (List.mem_map.2 ⟨x, List.mem_of_getElem? hx, rfl⟩ : c3 x ∈ xs.map c3)
    have hxl2 : c3 x ≤ totC c3 xs := hxl
    unfold d_markIntSSS_s
    simp only
    rw [show decide ((k : Int) < (ys.length : Int)) = true from by simp; omega, cond_true, inIdx_nat (by omega)]
    simp only [Option.bind_some, Int.toNat_natCast]
    rw [if_pos ⟨by omega, by decide⟩, hy]
    simp only [Option.bind_some]
    have hc : (x.map List.length).sum = c3 x := rfl
    have hu : updAt i_d_markIntSS (.list (.list (.int .i64))) x 0 m = some (msL m x, m + (c3 x : Nat)) := updAt_list i_d_markIntSS x m (d_markIntSS_ms (xs := x) (he x (List.mem_of_getElem? hx)) (by omega) (by omega) (by omega))
    rw [hu]
    simp only [Option.bind_some]
    rw [wrap_id (x := (k : Int) + 1) (by omega) (by omega)]
    rfl) (fun m ys hyl => by
    unfold d_markIntSSS_s
    simp only
    rw [show decide ((xs.length : Int) < (ys.length : Int)) = false from by simp; omega, cond_false])
  unfold d_markIntSSS
  rw [this]
  rfl

theorem w_heldIntSSS_ms {xs : List (List (List Int))} (hl : xs.length ≤ 2097152) (he : ∀ x ∈ xs, x.length ≤ 2097152) (ht : totC c3 xs ≤ 2097152) {n : Int} (h0 : 0 ≤ n) (h1 : n ≤ 274877906944) :
    w_heldIntSSS (ms3 n xs) n = some (n + totC c3 xs) := by
  have hml : (ms3 n xs).length = xs.length := mkL_len _ _ _ _
  have := heldL_eq (step := w_heldIntSSS_s2 (ms3 n xs)) msL c3 xs n (fun k m x hx hy hm hle => by
    have hk := (List.getElem?_eq_some_iff.1 hx).1
    have hxl := sum_mem (List.mem_map.2 ⟨x, List.mem_of_getElem? hx, rfl⟩ : c3 x ∈ xs.map c3)
    have hxl2 : c3 x ≤ totC c3 xs := hxl
    have hc : (x.map List.length).sum = c3 x := rfl
    unfold w_heldIntSSS_s2
    simp only
    rw [show decide ((k : Int) < ((ms3 n xs).length : Int)) = true from by simp; omega, cond_true, idx_some (xs := ms3 n xs) hy]
    simp only [Option.bind_some]
    rw [w_heldIntSS_ms (he x (List.mem_of_getElem? hx)) (by omega) (by omega) (by omega), hc]
    simp only [Option.bind_some]
    rw [show decide (m + ((c3 x : Nat) : Int) < 0) = false from by simp; omega, cond_false, wrap_id (x := (k : Int) + 1) (by omega) (by omega)]
    rfl) (fun m => by
    unfold w_heldIntSSS_s2
    simp only
    rw [hml, show decide ((xs.length : Int) < (xs.length : Int)) = false from by simp, cond_false])
  unfold w_heldIntSSS
  rw [this]
  rfl

theorem eqIntSSS_eq {xs ys : List (List (List Int))} (hl : xs.length ≤ lim) (hx : ∀ x ∈ xs, x.length ≤ lim ∧ ∀ v ∈ x, v.length ≤ lim) : w_eqIntSSS xs ys = some (xs == ys) := by
  unfold w_eqIntSSS
  rw [cond_ite]
  by_cases h : xs.length = ys.length
  · rw [if_neg (by simp [h]), iter_eqs xs ys (fun a b => a == b) h (fun k x y hkx hky => ?_) (by simp [w_eqIntSSS_s4])]
    · rw [eqL_beq]
      cases xs == ys <;> rfl
    · have hlt := len_lt hkx
      have hd : decide ((k : Int) < (xs.length : Int)) = true := by simp; omega
      have hh := hx x (List.mem_of_getElem? hkx)
      simp only [w_eqIntSSS_s4, hd, cond_true, idx_some hkx, idx_some hky, Option.bind_some, eqIntSS_eq hh.1 hh.2, wrap_succ (Nat.le_trans (Nat.le_of_lt hlt) hl)]
      cases x == y <;> rfl
  · rw [if_pos (by simp; omega)]
    congr 1
    exact (beq_eq_false_iff_ne.2 fun e => h (by rw [e])).symm

theorem c3_six {t : List (List Int)} (h3 : t.length = 3) (h2 : ∀ v ∈ t, v.length = 2) : c3 t = 6 := by
  match t, h3 with
  | [a, b, c], _ =>
    have ha := h2 a (by simp)
    have hb := h2 b (by simp)
    have hc := h2 c (by simp)
    simp [c3, ha, hb, hc]

theorem tot_six : (r : List (List (List Int))) → (∀ t ∈ r, t.length = 3 ∧ ∀ v ∈ t, v.length = 2) → totC c3 r = 6 * r.length
  | [], _ => rfl
  | t :: r, h => by
    have ih := tot_six r fun q hq => h q (List.mem_cons_of_mem _ hq)
    have h0 := h t List.mem_cons_self
    have := c3_six h0.1 h0.2
    unfold totC at *
    simp only [List.map_cons, List.sum_cons, List.length_cons]
    omega

theorem law_EmptyTriangles (x : List (List Int)) (hx : TyOk (.list (.list (.int .i64))) x) : w_FnExactEmptyTriangles x = some true := by
  obtain ⟨a1, a2, _⟩ := ok_LL hx
  unfold w_FnExactEmptyTriangles
  rw [szIntSS_eq a1 a2 (by omega) (by omega)]
  simp only [Option.bind_some]
  by_cases hc : (1048576 : Int) < totL x
  · rw [if_pos hc]; rfl
  · rw [if_neg hc]
    have hf := fitLL_of hc (Int.le_refl _)
    have hd : decide ((1048576 : Int) - totL x < 0) = false := by simp; omega
    obtain ⟨r, h1, _, h2, f1, f2⟩ := empty_eq hf
    have ht : (x.map List.length).sum ≤ 1048576 := by unfold totL at hc; omega
    have m1 := d_markIntSS_ms (xs := x) (by have := hf.len; omega) (by omega) (n := 1) (by omega) (by omega)
    have tr := tot_six r f2
    have hr : ∀ t ∈ r, t.length ≤ 2097152 := fun t ht => by have := (f2 t ht).1; omega
    have m3 := d_markIntSSS_ms (xs := r) (by omega) hr (by omega) (n := 1) (by omega) (by omega)
    have m4 := w_heldIntSSS_ms (xs := r) (by omega) hr (by omega) (n := 1) (by omega) (by omega)
    have hk : decide (1 + (((x.map List.length).sum : Nat) : Int) < 0) = false := by simp; omega
    have hk2 : decide (1 + ((totC c3 r : Nat) : Int) < 0) = false := by simp; omega
    have e1 : w_eqIntSSS r r = some true := by
      rw [eqIntSSS_eq (by rw [lim_eq]; omega) (fun t ht => ⟨by have := (f2 t ht).1; rw [lim_eq]; omega, fun v hv => by have := (f2 t ht).2 v hv; rw [lim_eq]; omega⟩)]; simp
    simp only [hd, cond_false, hf.to, Option.bind_some, h1, h2, eqIntSS_eq hf.lim hf.eachLim, e1, beq_self_eq_true, Bool.not_true, m1, hk, m3, m4, hk2, bne_self_eq_false]

end Go.Proofs.Ytlccglonhkcahaa
