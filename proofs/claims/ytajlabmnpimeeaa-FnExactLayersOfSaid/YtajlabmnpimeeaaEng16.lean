/-
  The engine, part 16. Parts of slices and strings; conversions. No condition.
-/
import Derived.Test.YtajlabmnpimeeaaEng15
namespace Go.Proofs.Ytajlabmnpimeeaa.Eng
open Go
set_option linter.unusedVariables false
set_option linter.unusedSimpArgs false

section
variable {ρ : Type} {C : Ctx} {E : En} {G : Gh} {σ : Sg} {a : Act} {w : World}

def OptI (x : Option Value) (d n : Int) : Prop := (x = none ∧ n = d) ∨ ∃ kd, x = some (.int kd n)

theorem intOptK_some {x : Option Operand} {d : Int} {k : Int → Option ρ} {r : ρ} (h : RelG E G σ a w) (hk : intOptK σ x d k = some r) :
    ∃ n, k n = some r ∧ OptI (x.map a.eval) d n := by
  unfold intOptK at hk
  split at hk
  · exact ⟨d, hk, .inl ⟨rfl, rfl⟩⟩
  · rename_i x
    split at hk
    · rename_i nn kd n hg
      have := h.get x
      rw [hg] at this
      exact ⟨n, hk, .inr ⟨kd, by rw [Option.map_some, datInt this]⟩⟩
    · simp at hk

theorem run_bounds {P : Program} {isSlice : Bool} {len cap : Nat} {lo hi : Option Value} {l h : Int} (hlo : OptI lo 0 l) (hhi : OptI hi len h) (h0 : 0 ≤ l) (h1 : l ≤ h) (h2 : h ≤ len) (h3 : len ≤ cap) :
    (Instr.sliceBounds isSlice len cap lo hi none).run P w = .ok (l.toNat, h.toNat, cap) w := by
  have hh : (0 : Int) ≤ h ∧ h ≤ (cap : Int) := ⟨by omega, by omega⟩
  have hl : (0 : Int) ≤ l ∧ l ≤ ((h.toNat : Nat) : Int) := ⟨h0, by omega⟩
  rcases hlo with ⟨rfl, rfl⟩ | ⟨kl, rfl⟩ <;> rcases hhi with ⟨rfl, rfl⟩ | ⟨kh, rfl⟩
  · simp [Instr.sliceBounds]
  · simp [Instr.sliceBounds, Instr.sliceBound, asIntOf, hh]
  · have hl' : (0 : Int) ≤ l ∧ l ≤ ((len : Nat) : Int) := ⟨h0, by omega⟩
    simp [Instr.sliceBounds, Instr.sliceBound, asIntOf, hl']
  · simp [Instr.sliceBounds, Instr.sliceBound, asIntOf, hh, hl]
    omega

theorem subl_some {α β : Type} {xs : List α} {l h : Int} {k : List α → Option β} {r : β} (hk : (subl xs l h).bind k = some r) :
    0 ≤ l ∧ l ≤ h ∧ h ≤ xs.length ∧ k ((xs.take h.toNat).drop l.toNat) = some r := by
  unfold subl at hk
  split at hk
  · rename_i hc; exact ⟨hc.1, hc.2.1, hc.2.2, hk⟩
  · simp at hk

theorem subs_some {β : Type} {xs : ByteArray} {l h : Int} {k : ByteArray → Option β} {r : β} (hk : (subs xs l h).bind k = some r) :
    0 ≤ l ∧ l ≤ h ∧ h ≤ xs.size ∧ k (xs.extract l.toNat h.toNat) = some r := by
  unfold subs at hk
  split at hk
  · rename_i hc; exact ⟨hc.1, hc.2.1, hc.2.2, hk⟩
  · simp at hk

theorem run_sliceAt {t e : TypeId} {n len cap : Nat} {p : Option Addr} {lo hi : Option Value} {l h : Int} (he : elT C t = some e) (hs : szT C e = some n) (hlo : OptI lo 0 l) (hhi : OptI hi len h) (h0 : 0 ≤ l) (h1 : l ≤ h) (h2 : h ≤ len) (h3 : len ≤ cap) :
    (Instr.sliceAt t (.slice p len cap) lo hi none).run C.P w = .ok (.slice (if cap = l.toNat then p else p.map (·.add (l.toNat * n))) (h.toNat - l.toNat) (cap - l.toNat)) w := by
  have hu := elT_some he
  simp [Instr.sliceAt, Instr.slice, run_underlying hu, run_bounds hlo hhi h0 h1 h2 h3, run_sizeOf hs]

theorem slice_rd {I : Nat → Prop} {t e : TypeId} {ty : Ty} {xs : List ty.den} {lo hi : Option Value} {l h : Int} {v : Value} (hv : RdV I w (.list ty) xs v) (he : elT C t = some e) (hs : szT C e = some ty.wid)
    (hlo : OptI lo 0 l) (hhi : OptI hi xs.length h) (h0 : 0 ≤ l) (h1 : l ≤ h) (h2 : h ≤ xs.length) :
    ∃ u, (Instr.sliceAt t v lo hi none).run C.P w = .ok u w ∧ RdV I w (.list ty) ((xs.take h.toNat).drop l.toNat) u := by
  obtain ⟨p, c, rfl, h3, h4, h5, h6⟩ := RdV_list hv
  refine ⟨_, run_sliceAt he hs hlo hhi h0 h1 h2 h3, ⟨[_], ?_, rfl⟩⟩
  have hlen : ((xs.take h.toNat).drop l.toNat).length = h.toNat - l.toNat := by rw [List.length_drop, List.length_take]; omega
  simp only [RdC]
  refine ⟨_, _, _, rfl, hlen.symm, by omega, by omega, by omega, fun hne => ?_⟩
  have hpos : 0 < h.toNat - l.toNat := by rw [← hlen]; exact List.length_pos_iff.2 hne
  have hx : xs ≠ [] := by intro hx; subst hx; simp at hne
  obtain ⟨b, o, rfl, hb, hel⟩ := h6 hx
  have hc : c ≠ l.toNat := by omega
  refine ⟨b, o + l.toNat * ty.wid, by simp [hc, add_none], hb, fun i y hi => ?_⟩
  have hi' : xs[l.toNat + i]? = some y := by
    rw [List.getElem?_drop] at hi
    rw [List.getElem?_take] at hi
    split at hi
    · exact hi
    · simp at hi
  obtain ⟨ys, hy1, hy2, hy3⟩ := hel _ y hi'
  refine ⟨ys, hy1, fun j hj => ?_, hy3⟩
  rw [← hy2 j hj]
  congr 2
  rw [Nat.add_mul]; omega

/-- The front part of a slice of the call's own. -/
theorem front_core (h : RelG E G σ a w) {id : Nat} {dp : Bool} {e t e' : TypeId} {ty : Ty} {xs : List ty.den} {hi : Option Value} {m : Int} (ho : σ.ob id = some (.own false dp e' ty xs))
    (he : elT C t = some e) (hs : szT C e = some ty.wid) (hhi : OptI hi xs.length m) (h1 : 0 ≤ m) (h2 : m ≤ xs.length) :
    ∃ u, (Instr.sliceAt t (G id).1 none hi none).run C.P w = .ok u w ∧ ∃ G', RelG E G' (addHp (setHp σ id none) (.own false dp e' ty (xs.take m.toNat))) a w ∧ GA E σ (addHp (setHp σ id none) (.own false dp e' ty (xs.take m.toNat))) G G' w w ∧
      VL (Imm E G' (addHp (setHp σ id none) (.own false dp e' ty (xs.take m.toNat))) w) (addHp (setHp σ id none) (.own false dp e' ty (xs.take m.toNat))).hp.length G' w (.ref σ.hp.length) u := by
  have hor := h.obs id _ ho
  simp only [OR] at hor
  obtain ⟨hl, cells, bss, how, hbs, hd1, hd2, hchk⟩ := hor.chk
  have hlt := Sg.ob_lt ho
  obtain ⟨m, rfl⟩ := Int.eq_ofNat_of_zero_le h1
  simp only [Int.toNat_natCast] at *
  have hm : m ≤ xs.length := by omega
  have hmem : ∀ b, b ∈ (bss.take m).flatten → b ∈ bss.flatten := fun b hb => by
    obtain ⟨q, hq, hbq⟩ := List.mem_flatten.1 hb
    exact List.mem_flatten.2 ⟨q, List.mem_of_mem_take hq, hbq⟩
  have hsub : ∀ b, b ∈ (G id).1.ownBlock.toList ++ (bss.take m).flatten → b ∈ (G id).2 := fun b hb => by
    rw [hbs]
    rcases List.mem_append.1 hb with hb | hb
    · exact List.mem_append_left _ hb
    · exact List.mem_append_right _ (hmem b hb)
  have hnd : ((G id).1.ownBlock.toList ++ (bss.take m).flatten).Nodup := by
    have := h.nodup id _ ho rfl
    rw [hbs, List.nodup_append] at this
    rw [List.nodup_append]
    refine ⟨this.1, this.2.1.sublist ?_, fun b hb c hc => this.2.2 b hb c (hmem c hc)⟩
    have e : bss.flatten = (bss.take m).flatten ++ (bss.drop m).flatten := by rw [← List.flatten_append, List.take_append_drop]
    rw [e]; exact List.sublist_append_left _ _
  -- the value
  obtain ⟨u, hrun, hu, hown⟩ : ∃ u, (Instr.sliceAt t (G id).1 none hi none).run C.P w = .ok u w ∧ u.ownBlock = (G id).1.ownBlock ∧ w.ownsRow 0 e' ty.wid u m (cells.take (m * ty.wid)) := by
    have hcl : (cells.take (m * ty.wid)).length = m * ty.wid := by
      rw [List.length_take, hchk.1]
      have := Nat.mul_le_mul_right ty.wid hm
      omega
    rcases how.2 with ⟨hv, hn⟩ | ⟨g, cap, cur, hv, hg, hh, hnc, hcm, hcs, htake⟩
    · have hm0 : m = 0 := by omega
      have hr := run_sliceAt (C := C) (w := w) (p := none) (len := 0) (cap := 0) (l := 0) he hs (.inl ⟨rfl, rfl⟩) (by rw [← hn]; exact hhi) (by omega) (by omega) (by omega) (Nat.le_refl 0)
      rw [← hv] at hr
      exact ⟨_, hr, by simp [hv, Value.ownBlock], hcl, .inl ⟨by simp [hm0], hm0⟩⟩
    · have hr := run_sliceAt (C := C) (w := w) (p := some ⟨g, 0, none⟩) (len := xs.length) (cap := cap) (l := 0) he hs (.inl ⟨rfl, rfl⟩) hhi (by omega) (by omega) (by omega) hnc
      rw [← hv] at hr
      have e1 : (Value.slice (if cap = (0 : Int).toNat then some ⟨g, 0, none⟩ else (some (⟨g, 0, none⟩ : Addr)).map (·.add ((0 : Int).toNat * ty.wid))) ((m : Int).toNat - (0 : Int).toNat) (cap - (0 : Int).toNat)) = .slice (some ⟨g, 0, none⟩) m cap := by
        simp [add_none]
      rw [e1] at hr
      refine ⟨_, hr, by simp [hv, Value.ownBlock], hcl, .inr ⟨g, cap, cur, rfl, hg, hh, by omega, hcm, hcs, ?_⟩⟩
      rw [← htake, List.take_take]
      congr 1
      have := Nat.mul_le_mul_right ty.wid hm
      omega
  refine ⟨u, hrun, ?_⟩
  obtain ⟨G', hrel, hG', hke⟩ := h.chg (σ' := addHp (setHp σ id none) (.own false dp e' ty (xs.take m))) [id] σ.hp.length (.own false dp e' ty (xs.take m)) u ((G id).1.ownBlock.toList ++ (bss.take m).flatten)
    (w' := w) (fun j => by
      rw [ob_addHp, ob_setHp, setHp_len]
      by_cases hj : j = σ.hp.length
      · simp [hj]
      · by_cases hj' : j = id <;> simp [hj, hj', hlt]) rfl (by simp) (.inl rfl) rfl rfl rfl rfl (Nat.le_refl _) (fun _ _ _ => rfl) hnd
    (fun b hb => .inr ⟨(h.range id _ ho rfl b (hsub b hb)).1, id, by simp, _, ho, rfl, hsub b hb⟩)
    (fun b hb => .inr ⟨id, by simp, _, ho, rfl, by
      rw [hbs]
      cases hv : (G id).1.ownBlock with
      | some g => rw [hv] at hb; simpa using hb
      | none =>
        rcases how.2 with ⟨_, hn⟩ | ⟨g, cap, cur, hv', _⟩
        · have : bss = [] := by
            cases dp with
            | true => exact List.eq_nil_of_length_eq_zero (by rw [hd1 rfl, hn])
            | false => exact hd2 rfl
          subst this
          rw [hv] at hb; simp at hb
        · rw [hv'] at hv; simp [Value.ownBlock] at hv⟩)
    (fun I G' kk hG' => by
      simp only [OR, hG']
      refine OwnV.mk (cells := cells.take (m * ty.wid)) (bss := bss.take m) (by rw [List.length_take]; omega) (by rw [List.length_take, Nat.min_eq_left hm]; exact hown) (by rw [hu]) (fun hdp => by rw [List.length_take, List.length_take, hd1 hdp]) (fun hdp => by simp [hd2 hdp]) ⟨?_, fun i y hi => ?_⟩
      · rw [List.length_take, List.length_take, hchk.1, Nat.min_eq_left hm]
        have := Nat.mul_le_mul_right ty.wid hm
        omega
      · rw [List.getElem?_take] at hi
        split at hi
        · rename_i him
          obtain ⟨ys, hy1, hy2, hy3⟩ := hchk.2 i y hi
          refine ⟨ys, hy1, fun j hj => ?_, ?_⟩
          · rw [← hy2 j hj, List.getElem?_take, if_pos (chunk_lt him hj)]
          · cases dp with
            | true =>
              simp only [if_true] at hy3 ⊢
              rw [List.getElem?_take, if_pos him]
              exact hy3
            | false =>
              simp only [Bool.false_eq_true, if_false] at hy3 ⊢
              exact hy3.mono kk.imm kk.heap ty
        · simp at hi)
  refine ⟨G', hrel, hke, by simp [addHp], by rw [← hG'], ?_⟩
  rcases hown.2 with ⟨hv', _⟩ | ⟨g, cap, cur, hv', _⟩ <;> (rw [hv']; rfl)

theorem sliceK_some {t : TypeId} {x : A} {lo hi : Option Operand} {k : A → Sg → Option ρ} {r : ρ} {v : Value} {vw : Bool} (h : RelG E G σ a w) (hk : sliceK C σ t x lo hi vw k = some r)
    (hv : VA (Imm E G σ w) σ.hp.length G w x v) :
    ∃ u, (Instr.sliceAt t v (lo.map a.eval) (hi.map a.eval) none).run C.P w = .ok u w ∧ OpOut C E G σ a w k r (.ok (.value u) w) := by
  unfold sliceK at hk
  split at hk
  · split at hk
    · rename_i ht
      obtain ⟨rfl, hsl⟩ := datStr hv
      obtain ⟨l, hk, hlo⟩ := intOptK_some h hk
      obtain ⟨m, hk, hhi⟩ := intOptK_some h hk
      obtain ⟨h0, h1, h2, hk⟩ := subs_some hk
      refine ⟨_, ?_, OpOut.val h hk ⟨RdV_str.2 ⟨rfl, ?_⟩, fun _ => trivial⟩⟩
      · simp [Instr.sliceAt, Instr.slice, run_underlying ht, run_bounds hlo hhi h0 h1 h2 (Nat.le_refl _)]
      · simp; omega
    · simp at hk
  · split at hk
    · rename_i e he
      split at hk
      · rename_i hs
        obtain ⟨l, hk, hlo⟩ := intOptK_some h hk
        obtain ⟨m, hk, hhi⟩ := intOptK_some h hk
        obtain ⟨h0, h1, h2, hk⟩ := subl_some hk
        obtain ⟨u, hrun, hu⟩ := slice_rd hv.1 he hs hlo hhi h0 h1 h2
        exact ⟨u, hrun, OpOut.val h hk ⟨hu, fun hn => by simp at hn⟩⟩
      · simp at hk
    · simp at hk
  · rename_i id
    obtain ⟨hid, rfl, _⟩ := hv
    split at hk
    · rename_i e ro dp e' ty xs he ho
      split at hk
      · rename_i hs
        split at hk
        · split at hk
          · simp at hk
          · rename_i hro
            have hro : ro = false := by simpa using hro
            subst hro
            obtain ⟨m, hk, hhi⟩ := intOptK_some h hk
            obtain ⟨h0, h1, h2, hk⟩ := subl_some hk
            simp only [Int.toNat_zero, List.drop_zero] at hk
            obtain ⟨u, hrun, G', hrel, hga, hvl⟩ := front_core h ho he hs hhi h1 h2
            exact ⟨u, hrun, _, _, hk, (Kp.set _ ho rfl).trans (Kp.add _ _), G', hrel, hga, hvl⟩
        · obtain ⟨l, hk, hlo⟩ := intOptK_some h hk
          obtain ⟨m, hk, hhi⟩ := intOptK_some h hk
          obtain ⟨h0, h1, h2, hk7⟩ := subl_some hk
          clear hk
          split at hk7
          · rename_i hvw
            simp only [Bool.and_eq_true, Bool.not_eq_true'] at hvw
            obtain ⟨_, rfl⟩ := hvw
            obtain ⟨cells, how, _, _⟩ := h.shallow ho
            rcases how.2 with ⟨hv', hn⟩ | ⟨g, cap, cur, hv', hg, hh, hnc, hcm, hcs, htake⟩
            · have hr := run_sliceAt (C := C) (w := w) (p := none) (len := 0) (cap := 0) (l := l) (h := m) he hs hlo (by rw [← hn]; exact hhi) h0 h1 (by rw [hn] at h2; exact h2) (Nat.le_refl 0)
              rw [← hv'] at hr
              exact ⟨_, hr, OpOut.val h hk7 ⟨hid, none, 0, 0, hv', rfl⟩⟩
            · have hr := run_sliceAt (C := C) (w := w) (p := some ⟨g, 0, none⟩) (len := xs.length) (cap := cap) (l := l) (h := m) he hs hlo hhi h0 h1 h2 hnc
              rw [← hv'] at hr
              exact ⟨_, hr, OpOut.val h hk7 ⟨hid, _, _, _, hv', rfl⟩⟩
          have hk := hk7
          have hf := h.freeze id _ ho
          have hor := hf.obs id (.own true dp e' ty xs) (by rw [ob_setHp, if_pos ⟨rfl, Sg.ob_lt ho⟩]; rfl)
          simp only [OR] at hor
          obtain ⟨u, hrun, hu⟩ := slice_rd hor he hs hlo hhi h0 h1 h2
          refine ⟨u, hrun, _, _, hk, ?_, G, ?_, ?_, ?_⟩
          · rw [ho]; exact Kp.freeze ho
          · rw [ho]; exact hf
          · have hkf := keepFreeze (E := E) (G := G) (σ := σ) (w := w) (.ref id)
            simp only [Eng.freezeL, ho] at hkf
            rw [ho]; exact hkf
          · rw [ho]; exact ⟨hu, fun hn => by simp at hn⟩
      · simp at hk
    · simp at hk
  · simp at hk

theorem strI_foldl : (xs : List Int) → (s : ByteArray) → xs.foldl (fun r n => r.push (UInt8.ofNat n.toNat)) s = ⟨(s.data.toList ++ xs.map fun n => UInt8.ofNat n.toNat).toArray⟩
  | [], s => by simp
  | x :: xs, s => by
    rw [List.foldl_cons, strI_foldl xs]
    simp [ByteArray.push]

theorem convertK_some {src dst : TypeId} {x : A} {k : A → Option ρ} {r : ρ} {v : Value} (h : RelG E G σ a w) (hk : convertK C σ src dst x k = some r)
    (hv : VA (Imm E G σ w) σ.hp.length G w x v) :
    ∃ y u, k y = some r ∧ (convert src dst v).run C.P w = .ok u w ∧ VA (Imm E G σ w) σ.hp.length G w y u := by
  unfold convertK at hk
  split at hk
  · rename_i hd
    have := datInt hv; subst this
    split at hk
    · rename_i hs
      exact ⟨_, _, hk, by simp [convert, run_underlying hs, run_underlying hd, Conv.intToInt], intVA⟩
    · simp at hk
  · rename_i x hd
    split at hk
    · rename_i e he
      split at hk
      · rename_i hu
        obtain ⟨xs, hk, hrd, _, _⟩ := rdL_some h hk hv
        obtain ⟨p, c, rfl, h3, h4, h5, h6⟩ := RdV_list hrd
        refine ⟨_, .string (strI xs), hk, ?_, ⟨RdV_str.2 ⟨rfl, ?_⟩, fun _ => trivial⟩⟩
        · rw [run_convert_bytes_string w src dst e p xs.length c (elT_some he) hu hd]
          cases p with
          | none =>
            have : xs = [] := by
              cases xs with
              | nil => rfl
              | cons _ _ => obtain ⟨b, o, hp, _⟩ := h6 (by simp); simp at hp
            subst this
            simp [Conv.bytesToString, Sem.run_pure, strI]; rfl
          | some ad =>
            rw [run_bytesToString w ad xs.length c xs]
            · rw [strI_foldl]; simp [strI]
            · have := run_loadCells_list (P := C.P) w ad (xs.map (Value.int .u8)) fun j u hj => by
                rw [List.getElem?_map] at hj
                cases hx : xs[j]? with
                | none => simp [hx] at hj
                | some y =>
                  simp only [hx, Option.map_some, Option.some.injEq] at hj
                  subst hj
                  obtain ⟨b, o, hp, hb, hel⟩ := h6 (by intro h0; subst h0; simp at hx)
                  simp only [Option.some.injEq] at hp
                  subst hp
                  obtain ⟨ys, hy1, hy2, hy3⟩ := hel j y hx
                  simp only [RdC] at hy3
                  subst hy3
                  have := hy2 0 (by decide)
                  simpa [Ty.wid, add_none] using this
              simpa using this
        · show (strI xs).size ≤ lim
          simp [strI, ByteArray.size]; exact h5
      · simp at hk
    · simp at hk
  · simp at hk

end
end Go.Proofs.Ytajlabmnpimeeaa.Eng
