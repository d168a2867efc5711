/-
  Plain: strings as lists of bytes, numerals. No condition.
-/
import Derived.Test.YtmdagdopfgiaiaaPl4
import Derived.Lib.ItoaNum
namespace Go.Proofs.Ytmdagdopfgiaiaa
open Go Go.Proofs.Ytmdagdopfgiaiaa.Eng
set_option linter.unusedVariables false
set_option linter.unusedSimpArgs false
def bs (l : List UInt8) : ByteArray := ⟨l.toArray⟩
theorem bs_data (l : List UInt8) : (bs l).data.toList = l := by simp [bs]
theorem bs_size (l : List UInt8) : (bs l).size = l.length := by simp [bs, ByteArray.size]
theorem bs_app (a b : List UInt8) : bs a ++ bs b = bs (a ++ b) := by
  apply ByteArray.ext
  simp [bs]
theorem catS_bs {a b : List UInt8} (h : a.length + b.length ≤ 1048576000) : catS (bs a) (bs b) = some (bs (a ++ b)) := by
  unfold catS
  rw [bs_size, bs_size, if_pos (Nat.le_trans h (by decide)), bs_app]
theorem strI_one {x : Int} {b : UInt8} (h : UInt8.ofNat x.toNat = b) : strI [x] = bs [b] := by
  subst h; rfl
theorem dig_wrap {d : Nat} (h : d < 10) : IntKind.u8.wrap (IntKind.i64.wrap ((48 : Int) + (d : Int))) = ((48 + d : Nat) : Int) := by
  rw [wrap_id (by omega) (by omega), IntKind.wrap_u8]
  omega
theorem dec_step {u : Nat} (h : u ≠ 0) : Lib.decDigits u = (if u / 10 = 0 then [] else Lib.decDigits (u / 10)) ++ [UInt8.ofNat (48 + u % 10)] := by
  by_cases h9 : u < 10
  · rw [Lib.decDigits, dif_pos h9, if_pos (by omega), Nat.mod_eq_of_lt h9]; rfl
  · rw [Lib.decDigits, dif_neg h9, if_neg (by omega)]
theorem format_loop : ∀ (m : Nat) (n : Int) (acc : List UInt8), n.natAbs ≤ m → -9223372036854775808 ≤ n → n ≤ 9223372036854775807 → (n ≠ 0 → acc.length + Lib.nDigits n.natAbs ≤ 1000) →
    iter s_FormatInt_s5 (n, bs acc) = some (bs ((if n.natAbs = 0 then [] else Lib.decDigits n.natAbs) ++ acc)) := by
  intro m
  induction m with
  | zero =>
    intro n acc h h0 h1 h2
    have : n = 0 := by omega
    subst this
    exact iter_end (by simp [s_FormatInt_s5])
  | succ m ih =>
    intro n acc h h0 h1 h2
    by_cases hn : n = 0
    · subst hn
      exact iter_end (by simp [s_FormatInt_s5])
    have hu : n.natAbs ≠ 0 := by omega
    have hq : (n.tdiv 10).natAbs = n.natAbs / 10 := by rw [Int.natAbs_tdiv]; rfl
    have hqr : -9223372036854775808 ≤ n.tdiv 10 ∧ n.tdiv 10 ≤ 9223372036854775807 := by omega
    have hd : n.natAbs % 10 < 10 := Nat.mod_lt _ (by decide)
    have hm : n.tmod 10 = (if n < 0 then -((n.natAbs % 10 : Nat) : Int) else ((n.natAbs % 10 : Nat) : Int)) := by
      have := Int.mul_tdiv_add_tmod n 10
      split
      · have h3 : (n.tmod 10).natAbs = n.natAbs % 10 := Int.natAbs_tmod n 10
        have h4 : n.tmod 10 ≤ 0 := by
          have := Int.tmod_nonneg 10 (show 0 ≤ -n by omega)
          rw [Int.neg_tmod] at this; omega
        omega
      · have h3 : (n.tmod 10).natAbs = n.natAbs % 10 := Int.natAbs_tmod n 10
        have h4 : 0 ≤ n.tmod 10 := Int.tmod_nonneg 10 (by omega)
        omega
    have hs : strI [IntKind.u8.wrap (IntKind.i64.wrap ((48 : Int) + ((n.natAbs % 10 : Nat) : Int)))] = bs [UInt8.ofNat (48 + n.natAbs % 10)] := strI_one (by rw [dig_wrap hd, Int.toNat_natCast])
    have hnd : Lib.nDigits n.natAbs = (if n.natAbs / 10 = 0 then 1 else Lib.nDigits (n.natAbs / 10) + 1) := by
      by_cases h9 : n.natAbs < 10
      · rw [Lib.nDigits_small h9, if_pos (by omega)]
      · rw [Lib.nDigits_big h9, if_neg (by omega)]
    have hpos := Lib.nDigits_pos (n.natAbs / 10)
    have hl : (1 : Nat) + acc.length ≤ 1048576000 := by
      have := Lib.nDigits_pos n.natAbs
      have := h2 hn
      omega
    have hc : catS (strI [IntKind.u8.wrap (IntKind.i64.wrap ((48 : Int) + ((n.natAbs % 10 : Nat) : Int)))]) (bs acc) = some (bs ([UInt8.ofNat (48 + n.natAbs % 10)] ++ acc)) := by
      rw [hs]; exact catS_bs (by simpa using hl)
    have step : s_FormatInt_s5 (n, bs acc) = some (.inl (n.tdiv 10, bs ([UInt8.ofNat (48 + n.natAbs % 10)] ++ acc))) := by
      have hne : (n != 0) = true := by simpa using hn
      have hr : remI .i64 n 10 = some (n.tmod 10) := remI_some (by decide)
      have hqq : quoI .i64 n 10 = some (n.tdiv 10) := by
        unfold quoI
        rw [if_neg (by decide), wrap_id hqr.1 hqr.2]
      simp only [s_FormatInt_s5, hne, cond_true, hr, Option.bind_some, hqq]
      by_cases hlt : n.tmod 10 < 0
      · rw [show decide (n.tmod 10 < 0) = true from by simpa using hlt, cond_true]
        have hneg : n < 0 := by
          rcases Int.lt_or_le n 0 with h | h
          · exact h
          · rw [if_neg (by omega)] at hm; omega
        rw [if_pos hneg] at hm
        have e : IntKind.i64.wrap (0 - n.tmod 10) = ((n.natAbs % 10 : Nat) : Int) := by rw [wrap_id (by omega) (by omega)]; omega
        rw [e, hc]; rfl
      · rw [show decide (n.tmod 10 < 0) = false from by simpa using hlt, cond_false]
        have e : n.tmod 10 = ((n.natAbs % 10 : Nat) : Int) := by
          split at hm <;> omega
        rw [e, hc]; rfl
    rw [iter_next step, ih _ _ (by omega) hqr.1 hqr.2 (fun hne => by
      have h2 := h2 hn
      rw [hq]
      rw [hnd, if_neg (by omega)] at h2
      simp only [List.length_append, List.length_cons, List.length_nil]
      omega), hq, if_neg hu, dec_step hu, List.append_assoc]
theorem nd_le {n : Int} (h0 : -9223372036854775808 ≤ n) (h1 : n ≤ 9223372036854775807) : Lib.nDigits n.natAbs ≤ 30 := by
  by_cases h : n.natAbs = 0
  · rw [h, Lib.nDigits_small (by decide)]; decide
  · obtain ⟨h3, h4⟩ := Lib.numDigits_eq n.natAbs (by omega) (by omega)
    rw [← h3]
    split <;> omega
theorem s_FormatInt_eq {n : Int} (h0 : -9223372036854775808 ≤ n) (h1 : n ≤ 9223372036854775807) : s_FormatInt n = some (bs (Lib.itoa n)) := by
  unfold s_FormatInt
  by_cases hn : n = 0
  · subst hn
    have : Lib.itoa 0 = [48] := by
      unfold Lib.itoa
      rw [if_neg (by decide), Lib.decDigits]
      rfl
    rw [this]; rfl
  have hb : (n == 0) = false := by simpa using hn
  have hl := nd_le h0 h1
  have := format_loop n.natAbs n [] (Nat.le_refl _) h0 h1 (fun _ => by simp; omega)
  have e0 : (bs [] : ByteArray) = ⟨#[]⟩ := rfl
  rw [if_neg (show n.natAbs ≠ 0 by omega), List.append_nil, e0] at this
  simp only [hb, cond_false, this, Option.bind_some]
  unfold Lib.itoa
  by_cases hneg : n < 0
  · rw [show decide (n < 0) = true from by simpa using hneg, cond_true, if_pos hneg]
    have e1 : (⟨#[45]⟩ : ByteArray) = bs [45] := rfl
    rw [e1, catS_bs (by rw [Lib.decDigits_length]; simp; omega)]
    rfl
  · rw [show decide (n < 0) = false from by simpa using hneg, cond_false, if_neg hneg, show n.toNat = n.natAbs by omega]
theorem itoa_len30 {n : Int} (h0 : -9223372036854775808 ≤ n) (h1 : n ≤ 9223372036854775807) : (Lib.itoa n).length ≤ 31 := by
  have := nd_le h0 h1
  unfold Lib.itoa
  split
  · rw [List.length_cons, Lib.decDigits_length]; omega
  · rw [show n.toNat = n.natAbs by omega, Lib.decDigits_length]; omega
theorem bytesI_bs (l : List UInt8) : bytesI (bs l) = l.map fun b => (b.toNat : Int) := by
  unfold bytesI
  rw [bs_data]
theorem strI_map (l : List UInt8) : strI (l.map fun b => (b.toNat : Int)) = bs l := by
  unfold strI bs
  congr 2
  rw [List.map_map]
  have : ((fun n : Int => UInt8.ofNat n.toNat) ∘ fun b : UInt8 => (b.toNat : Int)) = id := by
    funext b
    simp
  rw [this, List.map_id]
end Go.Proofs.Ytmdagdopfgiaiaa
