/-
  Plain: texts read by the reference: cut at a byte, numerals, vectors, polygons. No condition.
-/
import Derived.Test.YtgbkkmidloeciaaGreatPlSb
import Derived.Test.YtgbkkmidloeciaaGreatPlW
namespace Go.Proofs.YtgbkkmidloeciaaGreat
open Go Go.Proofs.YtgbkkmidloeciaaGreat.Eng
set_option linter.unusedVariables false
set_option linter.unusedSimpArgs false
/-- The pieces; 'cur' is what the first one has so far. -/
def cut1 (c : UInt8) : List UInt8 → List UInt8 → List (List UInt8)
  | cur, [] => [cur]
  | cur, b :: l => if b = c then cur :: cut1 c [] l else cut1 c (cur ++ [b]) l
theorem cut1_len (c : UInt8) : ∀ (l cur : List UInt8), (cut1 c cur l).length ≤ l.length + 1
  | [], cur => by simp [cut1]
  | b :: l, cur => by
    rw [cut1]
    split
    · have := cut1_len c l []; simp; omega
    · have := cut1_len c l (cur ++ [b]); simp; omega
theorem cut1_each (c : UInt8) : ∀ (l cur : List UInt8), ∀ w ∈ cut1 c cur l, w.length ≤ cur.length + l.length
  | [], cur, w, hw => by
    simp only [cut1, List.mem_singleton] at hw
    subst hw; simp
  | b :: l, cur, w, hw => by
    rw [cut1] at hw
    split at hw
    · rcases List.mem_cons.1 hw with rfl | hw
      · simp
      · have := cut1_each c l [] w hw; simp at this ⊢; omega
    · have := cut1_each c l (cur ++ [b]) w hw
      simp at this ⊢; omega
theorem extract_bs (l : List UInt8) (a b : Nat) : (bs l).extract a b = bs ((l.take b).drop a) := by
  apply ByteArray.ext
  rw [ByteArray.data_extract]
  apply Array.ext'
  simp only [bs, Array.toList_extract]
  simp [List.extract_eq_take_drop, List.drop_take]
theorem subs_bs {l : List UInt8} {a b : Nat} (h1 : a ≤ b) (h2 : b ≤ l.length) : subs (bs l) (a : Int) (b : Int) = some (bs ((l.take b).drop a)) := by
  unfold subs
  rw [if_pos ⟨by omega, by omega, by rw [bs_size]; omega⟩, Int.toNat_natCast, Int.toNat_natCast, extract_bs]
theorem split_loop {l : List UInt8} (hl : l.length ≤ 1048576) {c : Int} {cb : UInt8} (hc : c = (cb.toNat : Int)) : ∀ (n k st : Nat) (acc : List (List UInt8)), n = l.length - k → st ≤ k → k ≤ l.length → acc.length ≤ k →
    iter (s_SplitByte_s4 (bs l) c) (acc.map bs, ((st : Int), (k : Int))) = some ((acc ++ cut1 cb ((l.take k).drop st) (l.drop k)).map bs)
  | 0, k, st, acc, hn, h1, h2, h3 => by
    have hk : k = l.length := by omega
    subst hk
    have s1 : s_SplitByte_s4 (bs l) c (acc.map bs, ((st : Int), (l.length : Int))) = some (.inl ((acc ++ [(l.take l.length).drop st]).map bs, (((l.length + 1 : Nat) : Int), ((l.length + 1 : Nat) : Int)))) := by
      simp only [s_SplitByte_s4, bs_size]
      rw [show decide ((l.length : Int) ≤ (l.length : Int)) = true from by simp, cond_true, show ((l.length : Int) == (l.length : Int)) = true from by simp, cond_true, subs_bs h1 (Nat.le_refl _)]
      simp only [Option.bind_some]
      rw [appD_some (by rw [lim_eq]; simp; omega) (by rw [lim_eq]; simp; omega)]
      simp only [Option.bind_some]
      rw [wrap_small (by omega) (by omega)]
      simp
    rw [iter_next s1]
    rw [iter_end (y := (acc ++ [(l.take l.length).drop st]).map bs) (by
      simp only [s_SplitByte_s4, bs_size]
      rw [show decide (((l.length + 1 : Nat) : Int) ≤ (l.length : Int)) = false from by simp; omega, cond_false])]
    simp [cut1]
  | n + 1, k, st, acc, hn, h1, h2, h3 => by
    have hk : k < l.length := by omega
    have hg : l[k]? = some l[k] := List.getElem?_eq_getElem hk
    have hd : l.drop k = l[k] :: l.drop (k + 1) := List.drop_eq_getElem_cons hk
    have ht : (l.take k).drop st ++ [l[k]] = (l.take (k + 1)).drop st := by
      rw [List.take_add_one, hg, List.drop_append_of_le_length (by simp; omega)]; rfl
    rw [hd, cut1]
    by_cases hb : l[k] = cb
    · have s1 : s_SplitByte_s4 (bs l) c (acc.map bs, ((st : Int), (k : Int))) = some (.inl ((acc ++ [(l.take k).drop st]).map bs, (((k + 1 : Nat) : Int), ((k + 1 : Nat) : Int)))) := by
        simp only [s_SplitByte_s4, bs_size, bs_data]
        rw [show decide ((k : Int) ≤ (l.length : Int)) = true from by simp; omega, cond_true, show ((k : Int) == (l.length : Int)) = false from by simp; omega, cond_false, idx_some hg]
        simp only [Option.bind_some]
        rw [hb, hc, show ((cb.toNat : Int) == (cb.toNat : Int)) = true from by simp, cond_true, subs_bs h1 h2]
        simp only [Option.bind_some]
        rw [appD_some (by rw [lim_eq]; simp; omega) (by rw [lim_eq]; simp; omega)]
        simp only [Option.bind_some]
        rw [wrap_small (by omega) (by omega)]
        simp
      rw [iter_next s1, if_pos hb, split_loop hl hc n (k + 1) (k + 1) _ (by omega) (Nat.le_refl _) (by omega) (by simp; omega)]
      have : (l.take (k + 1)).drop (k + 1) = [] := List.drop_eq_nil_of_le (by simp; omega)
      rw [this, List.append_assoc]; rfl
    · have s1 : s_SplitByte_s4 (bs l) c (acc.map bs, ((st : Int), (k : Int))) = some (.inl (acc.map bs, ((st : Int), ((k + 1 : Nat) : Int)))) := by
        simp only [s_SplitByte_s4, bs_size, bs_data]
        rw [show decide ((k : Int) ≤ (l.length : Int)) = true from by simp; omega, cond_true, show ((k : Int) == (l.length : Int)) = false from by simp; omega, cond_false, idx_some hg]
        simp only [Option.bind_some]
        have hne : ((l[k].toNat : Int) == c) = false := by
          rw [hc]
          have : l[k].toNat ≠ cb.toNat := fun e => hb (UInt8.toNat_inj.1 e)
          rw [beq_eq_false_iff_ne]
          omega
        rw [hne, cond_false, wrap_small (by omega) (by omega)]
        simp
      rw [iter_next s1, if_neg hb, split_loop hl hc n (k + 1) st _ (by omega) (by omega) (by omega) (by omega), ht]
theorem s_split_eq {l : List UInt8} (hl : l.length ≤ 1048576) {c : Int} {cb : UInt8} (hc : c = (cb.toNat : Int)) : s_SplitByte (bs l) c = some ((cut1 cb [] l).map bs) := by
  unfold s_SplitByte
  have := split_loop hl hc l.length 0 0 [] (by omega) (Nat.le_refl _) (by omega) (by simp)
  simp only [List.map_nil, List.nil_append, List.take_zero, List.drop_nil, List.drop_zero] at this
  rw [show (([] : List ByteArray), ((0 : Int), (0 : Int))) = (([] : List ByteArray), (((0 : Nat) : Int), ((0 : Nat) : Int))) from rfl, this]
  rfl
def rdD : Int → List UInt8 → Option Int
  | v, [] => some v
  | v, b :: l => if b.toNat < 48 ∨ 57 < b.toNat then none else rdD (10 * v + ((b.toNat : Int) - 48)) l
theorem read_loop {l : List UInt8} (hl : l.length ≤ 12) : ∀ (n k : Nat) (v : Int), n = l.length - k → k ≤ l.length → 0 ≤ v → v < 10 ^ k →
    iter (s_l1Read_s9 (bs l)) (v, (k : Int)) = some (match rdD v (l.drop k) with | some r => .inl r | none => .inr (0, false))
  | 0, k, v, hn, h2, h0, h1 => by
    have hk : k = l.length := by omega
    subst hk
    rw [iter_end (y := .inl v) (by
      simp only [s_l1Read_s9, bs_size]
      rw [show decide ((l.length : Int) < (l.length : Int)) = false from by simp, cond_false])]
    simp [rdD]
  | n + 1, k, v, hn, h2, h0, h1 => by
    have hk : k < l.length := by omega
    have hg : l[k]? = some l[k] := List.getElem?_eq_getElem hk
    have hd : l.drop k = l[k] :: l.drop (k + 1) := List.drop_eq_getElem_cons hk
    have hp : (10 : Int) ^ k ≤ 10 ^ 11 := by
      have := Nat.pow_le_pow_right (show 0 < 10 by decide) (show k ≤ 11 by omega)
      exact_mod_cast this
    have hp' : (10 : Int) ^ (k + 1) = 10 * 10 ^ k := by rw [Int.pow_succ]; omega
    have h11 : (10 : Int) ^ 11 = 100000000000 := by decide
    rw [hd]
    unfold rdD
    have hlt : decide ((k : Int) < (l.length : Int)) = true := by simp; omega
    by_cases c1 : l[k].toNat < 48
    · rw [if_pos (.inl c1)]
      refine iter_end ?_
      simp only [s_l1Read_s9, bs_size, bs_data]
      rw [hlt, cond_true, idx_some hg]
      simp only [Option.bind_some]
      rw [show decide ((l[k].toNat : Int) < 48) = true from by simp; omega, cond_true]
    · by_cases c2 : 57 < l[k].toNat
      · rw [if_pos (.inr c2)]
        refine iter_end ?_
        simp only [s_l1Read_s9, bs_size, bs_data]
        rw [hlt, cond_true, idx_some hg]
        simp only [Option.bind_some]
        rw [show decide ((l[k].toNat : Int) < 48) = false from by simp; omega, cond_false, show decide ((l[k].toNat : Int) > 57) = true from by simp; omega, cond_true]
      · rw [if_neg (by omega)]
        have s1 : s_l1Read_s9 (bs l) (v, (k : Int)) = some (.inl (10 * v + ((l[k].toNat : Int) - 48), ((k + 1 : Nat) : Int))) := by
          simp only [s_l1Read_s9, bs_size, bs_data]
          rw [hlt, cond_true, idx_some hg]
          simp only [Option.bind_some]
          rw [show decide ((l[k].toNat : Int) < 48) = false from by simp; omega, cond_false, show decide ((l[k].toNat : Int) > 57) = false from by simp; omega, cond_false]
          have hu : IntKind.u8.wrap ((l[k].toNat : Int) - 48) = (l[k].toNat : Int) - 48 := by rw [IntKind.wrap_u8]; omega
          rw [hu, wrap_small (x := 10 * v) (by omega) (by omega), wrap_small (x := (l[k].toNat : Int) - 48) (by omega) (by omega), wrap_small (x := 10 * v + ((l[k].toNat : Int) - 48)) (by omega) (by omega), wrap_small (x := (k : Int) + 1) (by omega) (by omega)]
          rfl
        rw [iter_next s1, read_loop hl n (k + 1) _ (by omega) (by omega) (by omega) (by omega)]
theorem read_all {l : List UInt8} (hl : l.length ≤ 12) : iter (s_l1Read_s9 (bs l)) (0, 0) = some (match rdD 0 l with | some r => .inl r | none => .inr (0, false)) := by
  have := read_loop hl l.length 0 0 (by omega) (by omega) (by omega) (by decide)
  exact this
theorem rdD_bd : ∀ (l : List UInt8) (k : Nat) (v r : Int), 0 ≤ v → v < 10 ^ k → rdD v l = some r → 0 ≤ r ∧ r < 10 ^ (k + l.length)
  | [], k, v, r, h0, h1, h => by simp only [rdD, Option.some.injEq] at h; subst h; exact ⟨h0, h1⟩
  | b :: l, k, v, r, h0, h1, h => by
    simp only [rdD] at h
    split at h
    · cases h
    · have hp' : (10 : Int) ^ (k + 1) = 10 * 10 ^ k := by rw [Int.pow_succ]; omega
      have := rdD_bd l (k + 1) _ r (by omega) (by omega) h
      rw [show k + (b :: l).length = k + 1 + l.length by simp; omega]
      exact this
/-- What is read before it is compared. -/
def rdS : List UInt8 → Option Int
  | [] => none
  | b :: l => if b.toNat = 45 then (if 1 ≤ l.length ∧ l.length ≤ 12 then (rdD 0 l).map fun v => -v else none) else if (b :: l).length ≤ 12 then rdD 0 (b :: l) else none
theorem rdS_cons (b : UInt8) (l : List UInt8) : rdS (b :: l) = if b.toNat = 45 then (if 1 ≤ l.length ∧ l.length ≤ 12 then (rdD 0 l).map fun v => -v else none) else if (b :: l).length ≤ 12 then rdD 0 (b :: l) else none := rfl
def readR (l : List UInt8) : Int × Bool :=
  match rdS l with
  | some v => if Lib.itoa v = l then (v, true) else (0, false)
  | none => (0, false)
theorem rdS_bd {l : List UInt8} {v : Int} (h : rdS l = some v) : -999999999999 ≤ v ∧ v ≤ 999999999999 := by
  have key : ∀ (l : List UInt8) (r : Int), l.length ≤ 12 → rdD 0 l = some r → 0 ≤ r ∧ r ≤ 999999999999 := fun l r hl h => by
    have h1 := rdD_bd l 0 0 r (by omega) (by decide) h
    have hp : (10 : Int) ^ (0 + l.length) ≤ 10 ^ 12 := by
      have := Nat.pow_le_pow_right (show 0 < 10 by decide) (show 0 + l.length ≤ 12 by omega)
      exact_mod_cast this
    have h12 : (10 : Int) ^ 12 = 1000000000000 := by decide
    omega
  cases l with
  | nil => simp [rdS] at h
  | cons b l =>
    simp only [rdS] at h
    split at h
    · split at h
      · rename_i hl
        obtain ⟨r, hr, rfl⟩ := Option.map_eq_some_iff.1 h
        have := key l r hl.2 hr
        omega
      · cases h
    · split at h
      · rename_i hl
        have := key _ v hl h
        omega
      · cases h
theorem s_read_eq (l : List UInt8) (hl : l.length ≤ 1048576) : s_l1Read (bs l) 12 = some (readR l) := by
  have e1 : s_l1Read_s9b15 = s_l1Read_s9 := rfl
  have e2 : s_l1Read_s9b24 = s_l1Read_s9 := rfl
  have fin : ∀ (r v : Int), -999999999999 ≤ v ∧ v ≤ 999999999999 → ((s_FormatInt v).bind fun v10 => cond (!(v10.toList == (bs l).toList)) (some ((0 : Int), false)) (some (v, true))) = some (if Lib.itoa v = l then (v, true) else (0, false)) := fun r v hv => by
    rw [s_FormatInt_eq (by omega) (by omega)]
    simp only [Option.bind_some, toList_bs]
    by_cases h : Lib.itoa v = l
    · rw [if_pos h, show (Lib.itoa v == l) = true from by simpa using h]; rfl
    · rw [if_neg h, show (Lib.itoa v == l) = false from by simpa using h]; rfl
  unfold s_l1Read readR
  rw [e1, e2]
  cases l with
  | nil => rfl
  | cons b l =>
    simp only [bs_size, bs_data]
    rw [show decide (((b :: l).length : Int) > 0) = true from by simp only [List.length_cons, decide_eq_true_eq]; omega, cond_true, show idx (b :: l) 0 = some b from rfl]
    simp only [Option.bind_some]
    by_cases hb : b.toNat = 45
    · rw [show ((b.toNat : Int) == 45) = true from by simp; omega]
      simp only [cond_true]
      have hsub : subs (bs (b :: l)) 1 ((b :: l).length : Int) = some (bs l) := by
        have := subs_bs (l := b :: l) (a := 1) (b := (b :: l).length) (by simp) (Nat.le_refl _)
        rw [List.take_length] at this
        exact this
      rw [hsub]
      simp only [Option.bind_some, bs_size]
      rw [rdS_cons, if_pos hb]
      by_cases c1 : l.length < 1
      · rw [show decide ((l.length : Int) < 1) = true from by simp; omega, cond_true, if_neg (by omega)]
      · rw [show decide ((l.length : Int) < 1) = false from by simp; omega, cond_false]
        by_cases c2 : 12 < l.length
        · rw [show decide ((l.length : Int) > 12) = true from by simp; omega, cond_true, if_neg (by omega)]
        · rw [show decide ((l.length : Int) > 12) = false from by simp; omega, cond_false, read_all (by omega), if_pos ⟨by omega, by omega⟩]
          simp only [Option.bind_some]
          cases hr : rdD 0 l with
          | none => rfl
          | some v =>
            have hbd := rdS_bd (l := b :: l) (v := -v) (by simp only [rdS]; rw [if_pos hb, if_pos ⟨by omega, by omega⟩, hr]; rfl)
            simp only [Option.map_some]
            rw [wrap_small (x := 0 - v) (by omega) (by omega), show (0 : Int) - v = -v by omega]
            exact fin 0 (-v) hbd
    · rw [show ((b.toNat : Int) == 45) = false from by simp; omega]
      simp only [cond_false]
      rw [rdS_cons, if_neg hb]
      rw [show decide (((b :: l).length : Int) < 1) = false from by simp; omega, cond_false]
      by_cases c2 : 12 < (b :: l).length
      · rw [show decide (((b :: l).length : Int) > 12) = true from by simp only [List.length_cons] at c2 ⊢; simp; omega, cond_true, if_neg (by omega)]
      · rw [show decide (((b :: l).length : Int) > 12) = false from by simp only [List.length_cons] at c2 ⊢; simp; omega, cond_false, read_all (by omega), if_pos (by omega)]
        simp only [Option.bind_some]
        cases hr : rdD 0 (b :: l) with
        | none => rfl
        | some v =>
          have hbd := rdS_bd (l := b :: l) (v := v) (by simp only [rdS]; rw [if_neg hb, if_pos (by omega), hr])
          exact fin 0 v hbd
theorem s_parseInt_eq {l : List UInt8} (hl : l.length ≤ 1048576) : s_ParseInt (bs l) = some (readR l) := by
  unfold s_ParseInt
  rw [s_read_eq l hl]; rfl
def numsR : List (List UInt8) → Option (List Int)
  | [] => some []
  | w :: l => if (readR w).2 then (numsR l).map ((readR w).1 :: ·) else none
def vecStep (PI : ByteArray → Option (Int × Bool)) (v1 : List ByteArray) (v2 : List Int × Int) : Option ((List Int × Int) ⊕ ((List Int) ⊕ (List Int × Bool))) :=
 cond (decide (v2.2 < (v1.length : Int)))
 ((idx v1 v2.2).bind fun v3 => (PI v3).bind fun v4 => cond (!v4.2)
 (some (.inr (.inr (([] : List Int), false))))
 ((appD 8 v2.1 ([v4.1] : List Int)).bind fun v5 => some (.inl (v5, (IntKind.i64.wrap (v2.2 + (1 : Int)))))))
 (some (.inr (.inl v2.1)))
theorem vec_loop {PI : ByteArray → Option (Int × Bool)} {ws : List (List UInt8)} (hw : ws.length ≤ 1048577) (hP : ∀ w ∈ ws, PI (bs w) = some (readR w)) : ∀ (n k : Nat) (acc : List Int), n = ws.length - k → k ≤ ws.length → acc.length ≤ k →
    iter (vecStep PI (ws.map bs)) (acc, (k : Int)) = some (match numsR (ws.drop k) with | some v => .inl (acc ++ v) | none => .inr ([], false))
  | 0, k, acc, hn, h1, h2 => by
    have hk : k = ws.length := by omega
    subst hk
    rw [iter_end (y := .inl acc) (by
      simp only [vecStep, List.length_map]
      rw [show decide ((ws.length : Int) < (ws.length : Int)) = false from by simp, cond_false])]
    simp [numsR]
  | n + 1, k, acc, hn, h1, h2 => by
    have hk : k < ws.length := by omega
    have hg : (ws.map bs)[k]? = some (bs ws[k]) := by rw [List.getElem?_map, List.getElem?_eq_getElem hk]; rfl
    have hd : ws.drop k = ws[k] :: ws.drop (k + 1) := List.drop_eq_getElem_cons hk
    have hlt : decide ((k : Int) < ((ws.map bs).length : Int)) = true := by simp; omega
    rw [hd]
    unfold numsR
    cases hr : (readR ws[k]).2 with
    | false =>
      refine iter_end ?_
      unfold vecStep
      simp only
      rw [hlt, cond_true, idx_some hg]
      simp only [Option.bind_some]
      rw [hP _ (List.getElem_mem hk)]
      simp only [Option.bind_some, hr]
      rfl
    | true =>
      have s1 : vecStep PI (ws.map bs) (acc, (k : Int)) = some (.inl (acc ++ [(readR ws[k]).1], ((k + 1 : Nat) : Int))) := by
        unfold vecStep
        simp only
        rw [hlt, cond_true, idx_some hg]
        simp only [Option.bind_some]
        rw [hP _ (List.getElem_mem hk)]
        simp only [Option.bind_some, hr, Bool.not_true, cond_false]
        rw [appD_some (by rw [lim_eq]; simp; omega) (by rw [lim_eq]; simp; omega), wrap_small (by omega) (by omega)]
        rfl
      rw [iter_next s1, vec_loop hw hP n (k + 1) _ (by omega) (by omega) (by simp; omega)]
      cases numsR (ws.drop (k + 1)) with
      | none => rfl
      | some v => simp
theorem numsR_len : ∀ (ws : List (List UInt8)) (v : List Int), numsR ws = some v → v.length = ws.length
  | [], v, h => by simp only [numsR, Option.some.injEq] at h; subst h; rfl
  | w :: l, v, h => by
    simp only [numsR] at h
    split at h
    · obtain ⟨v', h', rfl⟩ := Option.map_eq_some_iff.1 h
      simp [numsR_len l v' h']
    · cases h
def vecR (l : List UInt8) : List Int × Bool :=
  match numsR (cut1 44 [] l) with
  | some v => if vecB v then (v, true) else ([], false)
  | none => ([], false)
theorem s_parseVector_eq {l : List UInt8} (hl : l.length ≤ 1048576) : s_ParseVector (bs l) = some (vecR l) := by
  have e1 := s_split_eq hl (c := 44) (cb := 44) (by rfl)
  have hw := cut1_len 44 l []
  have hP : ∀ w ∈ cut1 44 [] l, s_ParseInt (bs w) = some (readR w) := fun w hw => s_parseInt_eq (by have := cut1_each 44 l [] w hw; simp at this; omega)
  have l1 := vec_loop (PI := s_ParseInt) (ws := cut1 44 [] l) (by omega) hP _ 0 [] rfl (by omega) (by simp)
  have f1 : s_ParseVector_s4 = vecStep s_ParseInt := rfl
  unfold s_ParseVector vecR
  rw [e1, f1]
  simp only [Option.bind_some]
  rw [show (([] : List Int), (0 : Int)) = (([] : List Int), ((0 : Nat) : Int)) from rfl, l1]
  simp only [Option.bind_some, List.drop_zero, List.nil_append]
  cases hn : numsR (cut1 44 [] l) with
  | none => rfl
  | some v =>
    have hv : v.length ≤ lim := by
      have := numsR_len _ _ hn
      rw [lim_eq]; omega
    simp only [s_IsVector_eq hv, Option.bind_some]
    cases vecB v <;> rfl
def polR : List (List UInt8) → Option (List (List Int))
  | [] => some []
  | w :: l => if (vecR w).2 then (polR l).map ((vecR w).1 :: ·) else none
theorem s_pol_loop {ws : List (List UInt8)} (hw : ws.length ≤ 1048577) (hP : ∀ w ∈ ws, s_ParseVector (bs w) = some (vecR w)) : ∀ (n k : Nat) (acc : List (List Int)), n = ws.length - k → k ≤ ws.length → acc.length ≤ k → k ≤ 12 →
    iter (s_ParsePolygon_s4 (ws.map bs)) (acc, (k : Int)) = some (match polR (ws.drop k) with | some v => if ws.length ≤ 12 then .inl (acc ++ v) else .inr ([], false) | none => .inr ([], false))
  | 0, k, acc, hn, h1, h2, h3 => by
    have hk : k = ws.length := by omega
    subst hk
    rw [iter_end (y := .inl acc) (by
      simp only [s_ParsePolygon_s4, List.length_map]
      rw [show decide ((ws.length : Int) < (ws.length : Int)) = false from by simp, cond_false])]
    simp [polR, h3]
  | n + 1, k, acc, hn, h1, h2, h3 => by
    have hk : k < ws.length := by omega
    have hg : (ws.map bs)[k]? = some (bs ws[k]) := by rw [List.getElem?_map, List.getElem?_eq_getElem hk]; rfl
    have hd : ws.drop k = ws[k] :: ws.drop (k + 1) := List.drop_eq_getElem_cons hk
    have hlt : decide ((k : Int) < ((ws.map bs).length : Int)) = true := by simp; omega
    rw [hd]
    unfold polR
    cases hr : (vecR ws[k]).2 with
    | false =>
      refine iter_end ?_
      unfold s_ParsePolygon_s4
      simp only
      rw [hlt, cond_true, idx_some hg]
      simp only [Option.bind_some]
      rw [hP _ (List.getElem_mem hk)]
      simp only [Option.bind_some, hr]
      rfl
    | true =>
      by_cases h12 : k = 12
      · have s1 : s_ParsePolygon_s4 (ws.map bs) (acc, (k : Int)) = some (.inr (.inr ([], false))) := by
          unfold s_ParsePolygon_s4
          simp only
          rw [hlt, cond_true, idx_some hg]
          simp only [Option.bind_some]
          rw [hP _ (List.getElem_mem hk)]
          simp only [Option.bind_some, hr, Bool.not_true, cond_false]
          rw [show decide ((k : Int) ≥ 12) = true from by simp; omega, cond_true]
        rw [iter_end s1]
        simp only [if_true]
        cases polR (ws.drop (k + 1)) with
        | none => rfl
        | some v =>
          simp only [Option.map_some]
          rw [if_neg (by omega)]
      · have s1 : s_ParsePolygon_s4 (ws.map bs) (acc, (k : Int)) = some (.inl (acc ++ [(vecR ws[k]).1], ((k + 1 : Nat) : Int))) := by
          unfold s_ParsePolygon_s4
          simp only
          rw [hlt, cond_true, idx_some hg]
          simp only [Option.bind_some]
          rw [hP _ (List.getElem_mem hk)]
          simp only [Option.bind_some, hr, Bool.not_true, cond_false]
          rw [show decide ((k : Int) ≥ 12) = false from by simp; omega, cond_false, appD_some (by rw [lim_eq]; simp; omega) (by rw [lim_eq]; simp; omega), wrap_small (by omega) (by omega)]
          rfl
        rw [iter_next s1, s_pol_loop hw hP n (k + 1) _ (by omega) (by omega) (by simp; omega) (by omega)]
        cases polR (ws.drop (k + 1)) with
        | none => rfl
        | some v => simp
theorem polR_len : ∀ (ws : List (List UInt8)) (v : List (List Int)), polR ws = some v → v.length = ws.length ∧ ∀ x ∈ v, x.length ≤ 3
  | [], v, h => by simp only [polR, Option.some.injEq] at h; subst h; exact ⟨rfl, fun x hx => by cases hx⟩
  | w :: l, v, h => by
    simp only [polR] at h
    split at h
    · rename_i hw
      obtain ⟨v', h', rfl⟩ := Option.map_eq_some_iff.1 h
      obtain ⟨k1, k2⟩ := polR_len l v' h'
      refine ⟨by simp [k1], fun x hx => ?_⟩
      rcases List.mem_cons.1 hx with rfl | hx
      · unfold vecR at hw ⊢
        split at hw
        · rename_i v hv
          split at hw
          · rename_i hb
            rw [if_pos hb]
            unfold vecB inR at hb
            simp at hb
            simp
            omega
          · cases hw
        · cases hw
      · exact k2 x hx
    · cases h
def polyR (l : List UInt8) : List (List Int) × Bool :=
  match polR (cut1 32 [] l) with
  | some v => if isPoly v then (v, true) else ([], false)
  | none => ([], false)
theorem isPoly_le {p : List (List Int)} (h : isPoly p = true) : p.length ≤ 12 := by
  obtain ⟨P, rfl, _, _, h12, _⟩ := poly_of h
  simpa using h12
theorem s_parsePolygon_eq {l : List UInt8} (hl : l.length ≤ 1048576) : s_ParsePolygon (bs l) = some (polyR l) := by
  have e1 := s_split_eq hl (c := 32) (cb := 32) (by rfl)
  have hw := cut1_len 32 l []
  have hP : ∀ w ∈ cut1 32 [] l, s_ParseVector (bs w) = some (vecR w) := fun w hw => s_parseVector_eq (by have := cut1_each 32 l [] w hw; simp at this; omega)
  have l1 := s_pol_loop (ws := cut1 32 [] l) (by omega) hP _ 0 [] rfl (by omega) (by simp) (by omega)
  unfold s_ParsePolygon polyR
  rw [e1]
  simp only [Option.bind_some]
  rw [show (([] : List (List Int)), (0 : Int)) = (([] : List (List Int)), ((0 : Nat) : Int)) from rfl, l1]
  simp only [Option.bind_some, List.drop_zero, List.nil_append]
  cases hn : polR (cut1 32 [] l) with
  | none => rfl
  | some v =>
    obtain ⟨k1, k2⟩ := polR_len _ _ hn
    have h1 : v.length ≤ lim := by rw [lim_eq]; omega
    have h2 : ∀ x ∈ v, x.length ≤ lim := fun x hx => by have := k2 x hx; rw [lim_eq]; omega
    dsimp only
    by_cases h12 : (cut1 32 [] l).length ≤ 12
    · rw [if_pos h12]
      simp only [s_IsPolygon_eq h1 h2, Option.bind_some]
      cases isPoly v <;> rfl
    · rw [if_neg h12]
      have : isPoly v = false := by
        cases h : isPoly v with
        | false => rfl
        | true => have := isPoly_le h; omega
      rw [this]
      rfl
theorem polyR_fit (l : List UInt8) : FitLL (polyR l).1 ∧ ((polyR l).2 = true → isPoly (polyR l).1 = true) ∧ ((polyR l).2 = false → (polyR l).1 = []) := by
  unfold polyR
  split
  · rename_i v hv
    cases h : isPoly v with
    | false => exact ⟨⟨by simp, fun y hy => by cases hy⟩, fun h => (by cases h), fun _ => rfl⟩
    | true =>
      refine ⟨⟨?_, fun y hy => ?_⟩, fun _ => h, fun h => by cases h⟩
      · have := isPoly_le h
        show v.length ≤ _
        omega
      · have := (polR_len _ _ hv).2 y hy
        omega
  · exact ⟨⟨by simp, fun y hy => by cases hy⟩, fun h => (by cases h), fun _ => rfl⟩
end Go.Proofs.YtgbkkmidloeciaaGreat
