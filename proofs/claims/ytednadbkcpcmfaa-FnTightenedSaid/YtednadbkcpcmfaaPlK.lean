/-
  Plain: vectors added and scaled. No condition.
-/
import Derived.Test.YtednadbkcpcmfaaPlM
namespace Go.Proofs.Ytednadbkcpcmfaa
open Go Go.Proofs.Ytednadbkcpcmfaa.Eng
set_option linter.unusedVariables false
set_option linter.unusedSimpArgs false
section
variable {α : Type} (zs : List α)
theorem mix2_len (f g : α → Int) {k : Nat} (h : k ≤ zs.length) : ((zs.take k).map g ++ (zs.drop k).map f).length = zs.length := by simp; omega
theorem mix2_get (f g : α → Int) {k : Nat} {z : α} (h : zs[k]? = some z) : ((zs.take k).map g ++ (zs.drop k).map f)[k]? = some (f z) := by
  have hlt := len_lt h
  have hl : ((zs.take k).map g).length = k := by simp; omega
  rw [List.getElem?_append_right (by omega), hl, Nat.sub_self, List.getElem?_map, List.getElem?_drop, Nat.add_zero, h]
  rfl
theorem mix2_set (f g : α → Int) {k : Nat} {z : α} (h : zs[k]? = some z) : ((zs.take k).map g ++ (zs.drop k).map f).set k (g z) = (zs.take (k + 1)).map g ++ (zs.drop (k + 1)).map f := by
  have hlt := len_lt h
  have hl : ((zs.take k).map g).length = k := by simp; omega
  rw [List.set_append_right _ _ (by omega), hl, Nat.sub_self, List.drop_eq_getElem_cons hlt, List.map_cons, List.set_cons_zero, take_map_succ g h, List.append_assoc]
  rfl
theorem less_eq (f g : α → Int) {c : Int} (hl : zs.length ≤ 4194304) (hf : ∀ z ∈ zs, Tn (f z)) (hg : ∀ z ∈ zs, Tn (g z)) (hc : Tn c) :
    i_less (zs.map f) c (zs.map g) = some ((), (zs.map (fun z => f z - c * g z), ())) := by
  have hlim : zs.length ≤ lim := Nat.le_trans hl (by decide)
  have := iter_up (step := i_less_s1 (zs.map f) c (zs.map g)) zs.length (fun k => ((zs.take k).map (fun z => f z - c * g z) ++ (zs.drop k).map f, (k : Int))) (zs.map (fun z => f z - c * g z)) (fun k hk => ?_) ?_
  · simp only [List.take_zero, List.map_nil, List.drop_zero, List.nil_append] at this
    simp only [i_less, show ((0 : Nat) : Int) = 0 from rfl] at this ⊢
    rw [this]; rfl
  · have hz : zs[k]? = some zs[k] := List.getElem?_eq_getElem hk
    have hm := List.getElem_mem hk
    have hgk : (zs.map g)[k]? = some (g zs[k]) := by rw [List.getElem?_map, hz]; rfl
    have hd : decide ((k : Int) < ((zs.map f).length : Nat)) = true := by simp; omega
    have hin := inIdx_nat hk
    have hp := mul_tn hc (hg _ hm)
    have hf1 := hf _ hm
    unfold Tn at hf1
    have hw : IntKind.i64.wrap (f zs[k] - IntKind.i64.wrap (c * g zs[k])) = f zs[k] - c * g zs[k] := by
      rw [wrap_mul hc (hg _ hm), wrap_id (by omega) (by omega)]
    simp only [i_less_s1, hd, cond_true, mix2_len zs f _ (Nat.le_of_lt hk), Int.toNat_natCast, hin, Option.bind_some, idx_some (mix2_get zs f _ hz), idx_some hgk, hw, mix2_set zs f (fun z => f z - c * g z) hz, wrap_succ (Nat.le_trans (Nat.le_of_lt hk) hlim)]
    rfl
  · have hd : decide ((zs.length : Int) < ((zs.map f).length : Nat)) = false := by simp
    simp only [i_less_s1, hd, cond_false, List.take_length, List.drop_length, List.map_nil, List.append_nil]
theorem l2Scale_eq {xs : List Int} {c : Int} (hl : xs.length ≤ 4194304) (hx : ∀ x ∈ xs, Tn x) (hc : Tn c) : s_l2Scale xs c = some (xs.map (fun x => x * c)) := by
  have hlim : xs.length ≤ lim := Nat.le_trans hl (by decide)
  have := iter_up (step := s_l2Scale_s3 xs c) xs.length (fun k => ((xs.take k).map (fun x => x * c), (k : Int))) (xs.map (fun x => x * c)) (fun k hk => ?_) ?_
  · simp only [List.take_zero, List.map_nil, show ((0 : Nat) : Int) = 0 from rfl] at this
    simp only [s_l2Scale, this, Option.bind_some]
  · have hz : xs[k]? = some xs[k] := List.getElem?_eq_getElem hk
    have hd : decide ((k : Int) < (xs.length : Nat)) = true := by simp; omega
    have happ : appD 8 ((xs.take k).map (fun x => x * c)) [xs[k] * c] = some ((xs.take (k + 1)).map (fun x => x * c)) := by
      rw [appD_some (by rw [lim_eq]; simp; omega) (by rw [lim_eq]; simp; omega), take_map_succ _ hz]
    simp only [s_l2Scale_s3, hd, cond_true, idx_some hz, Option.bind_some, wrap_mul (hx _ (List.getElem_mem hk)) hc, happ, wrap_succ (Nat.le_trans (Nat.le_of_lt hk) hlim)]
    rfl
  · have hd : decide ((xs.length : Int) < (xs.length : Nat)) = false := by simp
    simp only [s_l2Scale_s3, hd, cond_false, List.take_length]
theorem l2Add_eq (f g : α → Int) (hl : zs.length ≤ 4194304) (hf : ∀ z ∈ zs, Tn (f z)) (hg : ∀ z ∈ zs, Tn (g z)) : s_l2Add (zs.map f) (zs.map g) = some (zs.map (fun z => f z + g z)) := by
  have hlim : zs.length ≤ lim := Nat.le_trans hl (by decide)
  have := iter_up (step := s_l2Add_s3 (zs.map f) (zs.map g)) zs.length (fun k => ((zs.take k).map (fun z => f z + g z), (k : Int))) (zs.map (fun z => f z + g z)) (fun k hk => ?_) ?_
  · simp only [List.take_zero, List.map_nil, show ((0 : Nat) : Int) = 0 from rfl] at this
    simp only [s_l2Add, this, Option.bind_some]
  · have hz : zs[k]? = some zs[k] := List.getElem?_eq_getElem hk
    have hm := List.getElem_mem hk
    have hfk : (zs.map f)[k]? = some (f zs[k]) := by rw [List.getElem?_map, hz]; rfl
    have hgk : (zs.map g)[k]? = some (g zs[k]) := by rw [List.getElem?_map, hz]; rfl
    have hd : decide ((k : Int) < ((zs.map f).length : Nat)) = true := by simp; omega
    have h1 := hf _ hm
    have h2 := hg _ hm
    unfold Tn at h1 h2
    have hw : IntKind.i64.wrap (f zs[k] + g zs[k]) = f zs[k] + g zs[k] := wrap_id (by omega) (by omega)
    have happ : appD 8 ((zs.take k).map (fun z => f z + g z)) [f zs[k] + g zs[k]] = some ((zs.take (k + 1)).map (fun z => f z + g z)) := by
      rw [appD_some (by rw [lim_eq]; simp; omega) (by rw [lim_eq]; simp; omega), take_map_succ _ hz]
    simp only [s_l2Add_s3, hd, cond_true, idx_some hfk, idx_some hgk, Option.bind_some, hw, happ, wrap_succ (Nat.le_trans (Nat.le_of_lt hk) hlim)]
    rfl
  · have hd : decide ((zs.length : Int) < ((zs.map f).length : Nat)) = false := by simp
    simp only [s_l2Add_s3, hd, cond_false, List.take_length]
end
end Go.Proofs.Ytednadbkcpcmfaa
