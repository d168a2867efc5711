/-
  The engine, part 15. Make, stores. No condition.
-/
import Derived.Test.YtajlabmnpimeeaaEng14
namespace Go.Proofs.Ytajlabmnpimeeaa.Eng
open Go
set_option linter.unusedVariables false
set_option linter.unusedSimpArgs false

section
variable {ρ : Type} {C : Ctx} {E : En} {G : Gh} {σ : Sg} {a : Act} {w : World}

theorem zeroOk_RdC {I : Nat → Prop} : (t : Ty) → (vs : List Value) → (zeroOk t vs).1 = true → ∃ cs, vs = cs ++ (zeroOk t vs).2 ∧ RdC I w t t.dflt cs
  | .prod p q, vs, h => by
    simp only [zeroOk, Bool.and_eq_true] at h ⊢
    obtain ⟨c1, h1, r1⟩ := zeroOk_RdC p vs h.1
    obtain ⟨c2, h2, r2⟩ := zeroOk_RdC q _ h.2
    refine ⟨c1 ++ c2, ?_, ?_⟩
    · rw [List.append_assoc, ← h2, ← h1]
    · simp only [RdC]; exact ⟨c1, c2, rfl, r1, r2⟩
  | .int k, v :: vs, h => by
    simp only [zeroOk] at h ⊢
    split at h
    · have := of_decide_eq_true h; subst this
      exact ⟨[_], rfl, rfl⟩
    · simp at h
  | .bool, v :: vs, h => by
    simp only [zeroOk] at h ⊢
    split at h
    · exact ⟨[_], rfl, rfl⟩
    · simp at h
  | .str, v :: vs, h => by
    simp only [zeroOk] at h ⊢
    split at h
    · rename_i s
      have h : s.size = 0 := by simpa using h
      have : s = ByteArray.empty := by
        cases s with
        | mk d => cases d with
          | mk l => cases l with
            | nil => rfl
            | cons _ _ => simp [ByteArray.size] at h
      subst this
      exact ⟨[_], rfl, rfl, Nat.zero_le _⟩
    · simp at h
  | .list t, v :: vs, h => by
    simp only [zeroOk] at h ⊢
    split at h
    · exact ⟨[_], rfl, none, 0, 0, rfl, rfl, Nat.le_refl _, Nat.zero_le _, Nat.zero_le _, fun hne => absurd rfl hne⟩
    · simp at h
  | .int k, [], h => by simp [zeroOk] at h
  | .bool, [], h => by simp [zeroOk] at h
  | .str, [], h => by simp [zeroOk] at h
  | .list t, [], h => by simp [zeroOk] at h

theorem zeroOk_full {I : Nat → Prop} {t : Ty} {vs : List Value} (h : (zeroOk t vs).1 = true) (hl : vs.length = t.wid) : RdC I w t t.dflt vs := by
  obtain ⟨cs, h1, h2⟩ := zeroOk_RdC (I := I) (w := w) t vs h
  have hl2 := h2.length
  have : (zeroOk t vs).2 = [] := List.eq_nil_of_length_eq_zero (by
    have := congrArg List.length h1
    rw [List.length_append] at this; omega)
  rw [this, List.append_nil] at h1
  rw [h1]; exact h2

theorem zeroOk_DpC : (t : Ty) → (vs : List Value) → (zeroOk t vs).1 = true → ∃ cs, vs = cs ++ (zeroOk t vs).2 ∧ DpC 0 w t t.dflt cs []
  | .prod p q, vs, h => by
    simp only [zeroOk, Bool.and_eq_true] at h ⊢
    obtain ⟨c1, h1, r1⟩ := zeroOk_DpC p vs h.1
    obtain ⟨c2, h2, r2⟩ := zeroOk_DpC q _ h.2
    refine ⟨c1 ++ c2, ?_, ?_⟩
    · rw [List.append_assoc, ← h2, ← h1]
    · simp only [DpC]; exact ⟨c1, c2, [], [], rfl, rfl, r1, r2⟩
  | .int k, v :: vs, h => by
    simp only [zeroOk] at h ⊢
    split at h
    · have := of_decide_eq_true h; subst this
      exact ⟨[_], rfl, rfl, rfl⟩
    · simp at h
  | .bool, v :: vs, h => by
    simp only [zeroOk] at h ⊢
    split at h
    · exact ⟨[_], rfl, rfl, rfl⟩
    · simp at h
  | .str, v :: vs, h => by
    simp only [zeroOk] at h ⊢
    split at h
    · rename_i s
      have h : s.size = 0 := by simpa using h
      have : s = ByteArray.empty := by
        cases s with
        | mk d => cases d with
          | mk l => cases l with
            | nil => rfl
            | cons _ _ => simp [ByteArray.size] at h
      subst this
      exact ⟨[_], rfl, rfl, Nat.zero_le _, rfl⟩
    · simp at h
  | .list t, v :: vs, h => by
    simp only [zeroOk] at h ⊢
    split at h
    · exact ⟨[_], rfl, none, 0, 0, rfl, rfl, Nat.le_refl _, Nat.zero_le _, Nat.zero_le _, .inl ⟨rfl, rfl, rfl, rfl⟩⟩
    · simp at h
  | .int k, [], h => by simp [zeroOk] at h
  | .bool, [], h => by simp [zeroOk] at h
  | .str, [], h => by simp [zeroOk] at h
  | .list t, [], h => by simp [zeroOk] at h

theorem zeroOk_fullD {t : Ty} {vs : List Value} (h : (zeroOk t vs).1 = true) (hl : vs.length = t.wid) : DpC 0 w t t.dflt vs [] := by
  obtain ⟨cs, h1, h2⟩ := zeroOk_DpC (w := w) t vs h
  have hl2 := h2.length
  have : (zeroOk t vs).2 = [] := List.eq_nil_of_length_eq_zero (by
    have := congrArg List.length h1
    rw [List.length_append] at this; omega)
  rw [this, List.append_nil] at h1
  rw [h1]; exact h2

theorem made_chk {I : Nat → Prop} {t : Ty} {z : Array Value} (n : Nat) (hz : z.size = t.wid) (hr : RdC I w t t.dflt z.toList) :
    Chk t (List.replicate n t.dflt) (madeCells z (n * t.wid)).toList fun _ y ys => RdC I w t y ys := by
  have hw := t.wid_pos
  refine ⟨by simp [size_madeCells], fun i y hi => ?_⟩
  rw [List.getElem?_replicate] at hi
  split at hi
  · rename_i hin
    obtain rfl := Option.some.inj hi
    refine ⟨z.toList, by simp [hz], fun j hj => ?_, hr⟩
    have hlt := chunk_lt hin hj
    simp only [madeCells, Array.toList_map, Array.toList_range, List.getElem?_map, List.getElem?_range hlt, Option.map_some]
    have hm : (i * t.wid + j) % z.size = j := by
      rw [hz, Nat.add_comm, Nat.add_mul_mod_self_right, Nat.mod_eq_of_lt hj]
    rw [hm]
    have hjz : j < z.size := by omega
    simp [hjz]
  · simp at hi

theorem made_chkP {t : Ty} {R : t.den → List Value → Prop} {z : Array Value} (n : Nat) (hz : z.size = t.wid) (hr : R t.dflt z.toList) :
    Chk t (List.replicate n t.dflt) (madeCells z (n * t.wid)).toList fun _ y ys => R y ys := by
  have hw := t.wid_pos
  refine ⟨by simp [size_madeCells], fun i y hi => ?_⟩
  rw [List.getElem?_replicate] at hi
  split at hi
  · rename_i hin
    obtain rfl := Option.some.inj hi
    refine ⟨z.toList, by simp [hz], fun j hj => ?_, hr⟩
    have hlt := chunk_lt hin hj
    simp only [madeCells, Array.toList_map, Array.toList_range, List.getElem?_map, List.getElem?_range hlt, Option.map_some]
    have hm : (i * t.wid + j) % z.size = j := by
      rw [hz, Nat.add_comm, Nat.add_mul_mod_self_right, Nat.mod_eq_of_lt hj]
    rw [hm]
    have hjz : j < z.size := by omega
    simp [hjz]
  · simp at hi

theorem mkD_some {α β : Type} {n : Nat} {m : Int} {d : α} {k : List α → Option β} {r : β} (h : (mkD n m d).bind k = some r) :
    0 ≤ m ∧ m * n ≤ lim ∧ m ≤ lim ∧ k (List.replicate m.toNat d) = some r := by
  unfold mkD at h
  split at h
  · rename_i hc; exact ⟨hc.1, hc.2.1, hc.2.2, h⟩
  · simp at h

theorem makeSliceK_some {t : TypeId} {l c : Operand} {k : A → Sg → Option ρ} {r : ρ} (h : RelG E G σ a w) (hk : makeSliceK C σ t l c k = some r) :
    ∃ u w', (Instr.makeSlice t (a.eval l) (a.eval c)).run C.P w = .ok u w' ∧ OpOut C E G σ a w k r (.ok (.value u) w') := by
  unfold makeSliceK at hk
  split at hk
  · rename_i p q e he
    split at hk
    · rename_i hpq
      subst hpq
      split at hk
      · rename_i nn n ty by_ hget hlook hby
        split at hk
        · rename_i hc
          obtain ⟨hsz, hz⟩ := hc
          obtain ⟨i, hi, his⟩ := szT_some hsz
          obtain ⟨i', hi', hib⟩ := byT_some hby
          rw [hi] at hi'
          obtain rfl := Option.some.inj hi'
          obtain ⟨z, hiz, hzo, hzs⟩ : ∃ z, i.zero = some z ∧ (zeroOk ty z.cells.toList).1 = true ∧ z.cells.size = ty.wid := by
            simp only [hi, Option.bind_some] at hz
            cases hzz : i.zero with
            | none => simp [hzz] at hz
            | some z => simp [hzz] at hz; exact ⟨z, rfl, hz.1, hz.2⟩
          have hv := h.get (.tmp p)
          rw [hget] at hv
          have hv := datInt hv
          obtain ⟨h0, h1, h2, hk⟩ := mkD_some hk
          obtain ⟨m, rfl⟩ := Int.eq_ofNat_of_zero_le h0
          simp only [Int.toNat_natCast] at hk
          have hml : m ≤ lim := by omega
          have hmb : i.bytes * m ≤ lim := by rw [hib, Nat.mul_comm]; exact_mod_cast h1
          obtain ⟨w', hrun, hown, hgrow⟩ := run_make_full (P := C.P) w 0 t e i z ty.wid (elT_some he) hi hiz his .i64 .i64 m (by unfold lim at hmb; omega) (by unfold maxLen; unfold lim at hml; omega) (Nat.zero_le _)
          have hext : Ext w w' := ⟨hgrow.os, hgrow.tape, hgrow.output, hgrow.size, fun b hb => hgrow.block b hb (by simp)⟩
          obtain ⟨G', h3, hga, h4⟩ : ∃ G', RelG E G' (addHp σ (.own false true e ty (List.replicate m ty.dflt))) a w' ∧ GA E σ (addHp σ (.own false true e ty (List.replicate m ty.dflt))) G G' w w' ∧
              VL (Imm E G' (addHp σ (.own false true e ty (List.replicate m ty.dflt))) w') (addHp σ (.own false true e ty (List.replicate m ty.dflt))).hp.length G' w' (.ref σ.hp.length) (.slice (some ⟨w.heap.size, 0, none⟩) m m) := by
            obtain ⟨G', h1, h2, h3⟩ := h.add hext (.own false true e ty (List.replicate m ty.dflt)) (.slice (some ⟨w.heap.size, 0, none⟩) m m) [w.heap.size] rfl (by simp)
              (fun b hb => by simp at hb; subst hb; exact ⟨Nat.le_refl _, (hown.lt w.heap.size rfl).2⟩)
              fun I G' k hG => by
                simp only [OR, hG]
                refine OwnV.mk (cells := (madeCells z.cells (m * ty.wid)).toList) (bss := List.replicate m []) (by simpa using hml) (by simpa using hown) (by simp [Value.ownBlock]) (fun _ => by simp) (fun hf => by simp at hf) ?_
                -- zero elements hold no memory
                refine (made_chkP (R := fun y ys => y = ty.dflt ∧ DpC 0 w' ty ty.dflt ys []) m hzs ⟨rfl, zeroOk_fullD hzo (by simpa using hzs)⟩).imp fun i y ys hi hy => ?_
                simp only [if_true, rep_get]
                rw [hy.1]; exact hy.2
            exact ⟨G', h1, h3, by simp [addHp], h2.symm, rfl⟩
          refine ⟨_, w', ?_, _, _, hk, Kp.add _ _, G', h3, hga, h4⟩
          rw [hv]; exact hrun
        · simp at hk
      · simp at hk
    · simp at hk
  · simp at hk

theorem run_storeVar {t : TypeId} {b o : Nat} {arr : Array Value} {e : TypeId} {v : Value} (hh : w.heap[b]? = some (.cells arr e (0, 0))) (hs : szT C t = some v.cells.size) (ho : o + v.cells.size ≤ arr.size)
    (h1 : ∀ u ∈ v.cells.toList, u.oneCell' = true) :
    (Instr.storeAt t (.pointer (some ⟨b, o, none⟩)) v).run C.P w = .ok () (w.setRow b (arr.toList.take o ++ v.cells.toList ++ arr.toList.drop (o + v.cells.size)).toArray) := by
  have hst := run_storeCells_at C.P b o e v.cells.toList 0 arr w hh (by simpa using ho) h1
  simp only [Nat.add_zero, Array.length_toList] at hst
  simp only [Instr.storeAt, Instr.sureAddr, Sem.run_bind, Sem.run_pure, Result.andThen_ok, storeVar, run_sizeOf hs w]
  rw [if_neg (by simp)]
  exact hst

theorem nodup_set {n : List Nat} : (l : List (List Nat)) → (i : Nat) → l.flatten.Nodup → n.Nodup → (∀ b ∈ n, b ∉ l.flatten) → (l.set i n).flatten.Nodup
  | [], i, h, _, _ => by simp
  | m :: l, 0, h, hn, hd => by
    simp only [List.set_cons_zero, List.flatten_cons, List.nodup_append] at h ⊢
    exact ⟨hn, h.2.1, fun b hb c hc hbc => hd b hb (by rw [List.flatten_cons]; exact List.mem_append_right _ (hbc ▸ hc))⟩
  | m :: l, i + 1, h, hn, hd => by
    simp only [List.set_cons_succ, List.flatten_cons, List.nodup_append] at h ⊢
    refine ⟨h.1, nodup_set l i h.2.1 hn fun b hb hm => hd b hb (by rw [List.flatten_cons]; exact List.mem_append_right _ hm), fun b hb c hc hbc => ?_⟩
    subst hbc
    obtain ⟨q, hq, hbq⟩ := List.mem_flatten.1 hc
    rcases List.mem_or_eq_of_mem_set hq with hq | rfl
    · exact h.2.2 b hb b (List.mem_flatten.2 ⟨q, hq, hbq⟩) rfl
    · exact hd b hbq (by rw [List.flatten_cons]; exact List.mem_append_left _ hb)

/-- Cells of one element put over those that were there. -/
theorem chunk_set {cells cs : List Value} {n i wd : Nat} (hcl : cells.length = n * wd) (hcsl : cs.length = wd) (hi : i < n) :
    ((cells.take (i * wd) ++ cs ++ cells.drop (i * wd + wd)).length = n * wd) ∧ (∀ j, j < wd → (cells.take (i * wd) ++ cs ++ cells.drop (i * wd + wd))[i * wd + j]? = cs[j]?) ∧
      ∀ i' j, i' ≠ i → j < wd → (cells.take (i * wd) ++ cs ++ cells.drop (i * wd + wd))[i' * wd + j]? = cells[i' * wd + j]? := by
  have hroom : i * wd + wd ≤ n * wd := by
    calc i * wd + wd = (i + 1) * wd := by rw [Nat.add_mul, Nat.one_mul]
      _ ≤ n * wd := Nat.mul_le_mul_right _ (by omega)
  have hlt : (cells.take (i * wd)).length = i * wd := by rw [List.length_take]; omega
  have hlc : (cells.take (i * wd) ++ cs).length = i * wd + wd := by rw [List.length_append, hlt, hcsl]
  refine ⟨?_, fun j hj => ?_, fun i' j hne hj => ?_⟩
  · rw [List.length_append, hlc, List.length_drop]; omega
  · rw [List.getElem?_append_left (by rw [hlc]; omega), List.getElem?_append_right (by rw [hlt]; omega), hlt]
    congr 1; omega
  · rcases Nat.lt_or_gt_of_ne hne with hl | hg
    · have := chunk_lt hl hj
      rw [List.getElem?_append_left (by rw [hlc]; omega), List.getElem?_append_left (by rw [hlt]; exact this), List.getElem?_take, if_pos this]
    · have : i * wd + wd ≤ i' * wd := by
        calc i * wd + wd = (i + 1) * wd := by rw [Nat.add_mul, Nat.one_mul]
          _ ≤ i' * wd := Nat.mul_le_mul_right _ (by omega)
      rw [List.getElem?_append_right (by rw [hlc]; omega), List.getElem?_drop, hlc]
      congr 1; omega

theorem store_core (h : RelG E G σ a w) {σ' : Sg} {id b n c i : Nat} {dp : Bool} {e t : TypeId} {ty : Ty} {xs : List ty.den} {y : ty.den} {u : Value} {ds : List Nat} (ho : σ.ob id = some (.own false dp e ty xs))
    (hg : (G id).1 = .slice (some ⟨b, 0, none⟩) n c) (hil : i < xs.length) (hfs : szT C t = some ty.wid) (hul : u.cells.toList.length = ty.wid) (hone : ∀ v ∈ u.cells.toList, v.oneCell' = true)
    (hd : if dp then DpC 0 w ty y u.cells.toList (ds.flatMap fun d => (G d).2) else RdC (Imm E G σ w) w ty y u.cells.toList ∧ ds = [])
    (hds : ∀ d ∈ ds, ∃ o, σ.ob d = some o ∧ o.ro = false) (hnd : ds.Nodup) (hid : id ∉ ds)
    (hσ : ∀ j, σ'.ob j = if j = id then some (.own false dp e ty (xs.set i y)) else if j ∈ ds then none else σ.ob j) (henv : σ'.env = σ.env) (hlen : σ'.hp.length = σ.hp.length) :
    ∃ w', (Instr.storeAt t (.pointer (some ⟨b, i * ty.wid, none⟩)) u).run C.P w = .ok () w' ∧ ∃ G', RelG E G' σ' a w' ∧ GA E σ σ' G G' w w' := by
  have hor := h.obs id _ ho
  simp only [OR] at hor
  obtain ⟨hl, cells, bss, how, hbs, hd1, hd2, hchk⟩ := hor.chk
  obtain ⟨cap, cur, hgv, hh, hnc, hcm, hcs, htake⟩ : ∃ cap cur, (G id).1 = .slice (some ⟨b, 0, none⟩) xs.length cap ∧ w.heap[b]? = some (.cells cur e (0, 0)) ∧ xs.length ≤ cap ∧ cap ≤ maxLen ∧ cur.size = cap * ty.wid ∧ cur.toList.take (xs.length * ty.wid) = cells := by
    rcases how.2 with ⟨hn, _⟩ | ⟨g, cap, cur, hgv, _, hh, r1, r2, r3, r4⟩
    · rw [hg] at hn; simp at hn
    · have := hgv
      rw [hg] at this
      simp only [Value.slice.injEq, Option.some.injEq, Addr.mk.injEq, and_true, true_and] at this
      obtain ⟨rfl, _, _⟩ := this
      exact ⟨cap, cur, hgv, hh, r1, r2, r3, r4⟩
  have hG : (G id).2 = b :: bss.flatten := by rw [hbs, hgv]; rfl
  have hcl : cells.length = xs.length * ty.wid := hchk.1
  have hroom2 : i * ty.wid + ty.wid ≤ xs.length * ty.wid := by
    calc i * ty.wid + ty.wid = (i + 1) * ty.wid := by rw [Nat.add_mul, Nat.one_mul]
      _ ≤ xs.length * ty.wid := Nat.mul_le_mul_right _ (by omega)
  have hle : xs.length * ty.wid ≤ cur.size := by rw [hcs]; exact Nat.mul_le_mul_right _ hnc
  have husz : u.cells.size = ty.wid := by rw [← Array.length_toList, hul]
  have hrun := run_storeVar (C := C) (w := w) (o := i * ty.wid) (v := u) hh (by rw [husz]; exact hfs) (by rw [husz]; omega) hone
  rw [husz] at hrun
  obtain ⟨hset1, hset2, hset3⟩ := chunk_set hcl hul hil
  have hndG := h.nodup id _ ho rfl
  rw [hG, List.nodup_cons] at hndG
  have hrgG := h.range id _ ho rfl
  have hclaim : ∀ x, x ∈ (ds.flatMap fun d => (G d).2) → x < w.heap.size ∧ (∃ d ∈ ds, ∃ o', σ.ob d = some o' ∧ o'.ro = false ∧ x ∈ (G d).2) ∧ x ∉ (G id).2 := fun x hx => by
    obtain ⟨d, hdm, hxd⟩ := List.mem_flatMap.1 hx
    obtain ⟨o', ho', hr'⟩ := hds d hdm
    exact ⟨(h.range d o' ho' hr' x hxd).1, ⟨d, hdm, o', ho', hr', hxd⟩, h.disj d id o' _ ho' hr' ho rfl (fun e => hid (e ▸ hdm)) x hxd⟩
  have hndc : ∀ (l : List Nat), l.Nodup → (∀ i ∈ l, ∃ o, σ.ob i = some o ∧ o.ro = false) → (l.flatMap fun i => (G i).2).Nodup := by
    intro l
    induction l with
    | nil => intro _ _; simp
    | cons j l ih =>
      intro hn ho
      rw [List.flatMap_cons, List.nodup_append]
      rw [List.nodup_cons] at hn
      obtain ⟨oj, hoj, hrj⟩ := ho j (by simp)
      refine ⟨h.nodup j oj hoj hrj, ih hn.2 fun i hi => ho i (List.mem_cons_of_mem _ hi), fun b hb c hc hbc => ?_⟩
      subst hbc
      obtain ⟨d, hd, hbd⟩ := List.mem_flatMap.1 hc
      obtain ⟨od, hod, hrd⟩ := ho d (List.mem_cons_of_mem _ hd)
      exact h.disj j d oj od hoj hrj hod hrd (fun e => hn.1 (e ▸ hd)) b hb hbd
  -- the new claims
  have hmem : ∀ x, x ∈ (bss.set i (ds.flatMap fun d => (G d).2)).flatten → x ∈ bss.flatten ∨ x ∈ (ds.flatMap fun d => (G d).2) := fun x hx => by
    obtain ⟨q, hq, hxq⟩ := List.mem_flatten.1 hx
    rcases List.mem_or_eq_of_mem_set hq with hq | rfl
    · exact .inl (List.mem_flatten.2 ⟨q, hq, hxq⟩)
    · exact .inr hxq
  have hmemI : ∀ (l : List (List Nat)) (i b : Nat), b ∈ l[i]?.getD [] → b ∈ l.flatten := fun l i b hb => by
    cases hgi : l[i]? with
    | none => simp [hgi] at hb
    | some q => simp only [hgi, Option.getD_some] at hb; exact List.mem_flatten.2 ⟨q, List.mem_of_getElem? hgi, hb⟩
  obtain ⟨G', hrel, _, hke⟩ := h.chg (σ' := σ') (id :: ds) id (.own false dp e ty (xs.set i y)) (G id).1 (b :: (bss.set i (ds.flatMap fun d => (G d).2)).flatten)
    (w' := w.setRow b (cur.toList.take (i * ty.wid) ++ u.cells.toList ++ cur.toList.drop (i * ty.wid + ty.wid)).toArray)
    (fun j => by rw [hσ j]; by_cases hj : j = id <;> simp [hj]) henv (by rw [hlen]; exact Nat.le_refl _) (.inr ⟨by simp, rfl⟩) rfl rfl rfl rfl (by simp)
    (fun x hx hdd => setRow_other w b x _ fun he => hdd id (by simp) _ ho rfl (by rw [hG, he]; rfl))
    (by
      rw [List.nodup_cons]
      refine ⟨fun hm => ?_, nodup_set _ _ hndG.2 (hndc ds hnd hds) fun x hx hm => (hclaim x hx).2.2 (by rw [hG]; exact List.mem_cons_of_mem _ hm)⟩
      rcases hmem b hm with hm | hm
      · exact hndG.1 hm
      · exact (hclaim b hm).2.2 (by rw [hG]; simp))
    (fun x hx => by
      right
      rcases List.mem_cons.1 hx with rfl | hx
      · exact ⟨(hrgG x (by rw [hG]; simp)).1, id, by simp, _, ho, rfl, by rw [hG]; simp⟩
      · rcases hmem x hx with hm | hm
        · exact ⟨(hrgG x (by rw [hG]; exact List.mem_cons_of_mem _ hm)).1, id, by simp, _, ho, rfl, by rw [hG]; exact List.mem_cons_of_mem _ hm⟩
        · obtain ⟨h1, ⟨d, hdm, o', ho', hr', hxd⟩, _⟩ := hclaim x hm
          exact ⟨h1, d, List.mem_cons_of_mem _ hdm, o', ho', hr', hxd⟩)
    (fun x hx => by simp at hx; subst hx; exact .inr ⟨id, by simp, _, ho, rfl, by rw [hG]; rfl⟩)
    (fun I G' kk hG' => by
      simp only [OR, hG']
      have hoth : ∀ x, x ≠ b → (w.setRow b (cur.toList.take (i * ty.wid) ++ u.cells.toList ++ cur.toList.drop (i * ty.wid + ty.wid)).toArray).heap[x]? = w.heap[x]? := fun x hx => setRow_other w b x _ hx
      refine OwnV.mk (cells := cells.take (i * ty.wid) ++ u.cells.toList ++ cells.drop (i * ty.wid + ty.wid)) (bss := bss.set i (ds.flatMap fun d => (G d).2)) (by simpa using hl) ?_ (by rw [hgv]; rfl)
        (fun hdp => by simpa using hd1 hdp) (fun hdp => by simp [hd2 hdp]) ⟨by simpa using hset1, fun i' y' hi' => ?_⟩
      · refine ⟨by simpa using hset1, .inr ⟨b, cap, _, by simpa using hgv, Nat.zero_le _, setRow_heap w b cur _ e _ hh, by simpa using hnc, hcm, ?_, ?_⟩⟩
        · rw [List.size_toArray, List.length_append, List.length_append, List.length_take, List.length_drop, hul, Array.length_toList, hcs]
          rw [hcs] at hle; omega
        · rw [List.length_set, ← htake, List.toList_toArray, List.take_append, List.take_append, List.take_take, List.take_take, List.drop_take]
          have e1 : min (xs.length * ty.wid) (i * ty.wid) = i * ty.wid := by omega
          have e2 : min (i * ty.wid) (xs.length * ty.wid) = i * ty.wid := by omega
          rw [e1, e2]
          have e3 : (List.take (i * ty.wid) cur.toList).length = i * ty.wid := by rw [List.length_take, Array.length_toList]; omega
          have e4 : (List.take (i * ty.wid) cur.toList ++ u.cells.toList).length = i * ty.wid + ty.wid := by rw [List.length_append, e3, hul]
          rw [e3, e4, List.take_of_length_le (l := u.cells.toList) (by omega)]
      · rw [List.getElem?_set] at hi'
        by_cases hii : i = i'
        · subst hii
          simp only [if_true, hil, Option.some.injEq] at hi'
          subst hi'
          refine ⟨u.cells.toList, hul, hset2, ?_⟩
          cases dp with
          | true =>
            simp only [if_true] at hd ⊢
            have hlb : i < bss.length := by rw [hd1 rfl]; exact hil
            rw [List.getElem?_set, if_pos rfl, if_pos hlb]
            exact hd.mono (Nat.le_refl _) ty fun x hx => hoth x fun he => (hclaim x hx).2.2 (by rw [he, hG]; simp)
          | false =>
            simp only [Bool.false_eq_true, if_false] at hd ⊢
            exact hd.1.mono kk.imm kk.heap ty
        · rw [if_neg hii] at hi'
          obtain ⟨ys, hy1, hy2, hy3⟩ := hchk.2 i' y' hi'
          refine ⟨ys, hy1, fun j hj => by rw [hset3 i' j (Ne.symm hii) hj]; exact hy2 j hj, ?_⟩
          cases dp with
          | true =>
            simp only [if_true] at hy3 ⊢
            rw [List.getElem?_set, if_neg hii]
            exact hy3.mono (Nat.le_refl _) ty fun x hx => hoth x fun he => hndG.1 (he ▸ hmemI _ _ _ hx)
          | false =>
            simp only [Bool.false_eq_true, if_false] at hy3 ⊢
            exact hy3.mono kk.imm kk.heap ty)
  exact ⟨_, hrun, G', hrel, hke⟩

theorem inIdx_some {β : Type} {n i : Nat} {k : Unit → Option β} {r : β} (h : (inIdx n i).bind k = some r) : i < n ∧ k () = some r := by
  unfold inIdx at h
  split at h
  · exact ⟨by omega, h⟩
  · simp at h

theorem storeK_some {t : TypeId} {x y : A} {k : Sg → Option ρ} {r : ρ} {v u : Value} (h : RelG E G σ a w) (hk : storeK C σ t x y k = some r)
    (hv : VA (Imm E G σ w) σ.hp.length G w x v) (hu : VA (Imm E G σ w) σ.hp.length G w y u) :
    ∃ w' σ', (Instr.storeAt t v u).run C.P w = .ok () w' ∧ k σ' = some r ∧ Kp σ σ' ∧ ∃ G', RelG E G' σ' a w' ∧ GA E σ σ' G G' w w' := by
  unfold storeK at hk
  split at hk
  · rename_i id j
    obtain ⟨hid, b, hg, rfl⟩ := hv
    split at hk
    · rename_i e cs ho
      simp only at hk
      split at hk
      · rename_i hc
        obtain ⟨hsz, hj, hpos⟩ := hc
        have hvs := cellsA_VLs hu (by intro h0; rw [h0] at hpos; simp at hpos)
        have hl := hvs.length
        simp only [Array.length_toList] at hl
        rw [hl] at hsz hj hk
        have hor := h.obs id _ ho
        simp only [OR, Bool.false_eq_true, if_false] at hor
        obtain ⟨b', arr, hg', hh, hcs, hG⟩ := hor
        rw [hg] at hg'
        simp only [Value.pointer.injEq, Option.some.injEq, Addr.mk.injEq, and_true] at hg'
        subst hg'
        have hcl := hcs.length
        simp only [Array.length_toList] at hcl
        have hrun := run_storeVar (C := C) (w := w) (o := j) hh hsz (by omega) hvs.one
        have hb := h.range id _ ho rfl b (by rw [hG]; simp)
        obtain ⟨G', hrel, _, hke⟩ := h.chg (σ' := setHp σ id (some (.box false e (cs.take j ++ cellsA y ++ cs.drop (j + u.cells.size))))) [id] id (.box false e (cs.take j ++ cellsA y ++ cs.drop (j + u.cells.size))) (G id).1 [b]
          (w' := w.setRow b (arr.toList.take j ++ u.cells.toList ++ arr.toList.drop (j + u.cells.size)).toArray)
          (fun i => by rw [ob_setHp]; by_cases hi : i = id <;> simp [hi, hid]) rfl (by simp) (.inr ⟨by simp, rfl⟩) rfl rfl rfl rfl (by simp)
          (fun c hc hd => setRow_other w b c _ fun he => hd id (by simp) _ ho rfl (by rw [hG, he]; rfl)) (by simp)
          (fun c hc => by simp at hc; subst hc; exact .inr ⟨hb.1, id, by simp, _, ho, rfl, by rw [hG]; simp⟩)
          (fun c hc => by simp at hc; subst hc; exact .inr ⟨id, by simp, _, ho, rfl, by rw [hG]; rfl⟩)
          (fun I G' kk hG' => by
            simp only [OR, hG', Bool.false_eq_true, if_false]
            refine ⟨b, _, hg, setRow_heap w b arr _ e _ hh, ?_, rfl⟩
            exact (((hcs.take j _).append _ hvs).append _ (hcs.drop _ _)).keep kk _)
        exact ⟨_, _, hrun, hk, Kp.set _ ho rfl, G', hrel, hke⟩
      · simp at hk
    · simp at hk
  · rename_i id wid i
    obtain ⟨hid, b, n, c, hg, rfl⟩ := hv
    split at hk
    · rename_i dp e ty xs ho
      split at hk
      · rename_i hc
        obtain ⟨rfl, hfit⟩ := hc
        · have hne := cellsA_of_tk hk
          have hvs := cellsA_VLs hu hne
          have hfs : szT C t = some ty.wid := by
            unfold fitT at hfit; simp only [Bool.and_eq_true, beq_iff_eq] at hfit; exact hfit.2
          cases hdp : dp && !ty.flat with
          | false =>
            rw [hdp] at hk
            obtain ⟨z, ls', σ1, cs, vs', hk, hcu, h1, kp1, ke1, hv1, hrd⟩ := tkF_some ty h hk hvs
            split at hk
            · rename_i dp2 e2 ty2 xs2 ho2
              split at hk
              · rename_i hcc
                obtain ⟨rfl, rfl, rfl⟩ := hcc
                cases hca : castT (.list ty2) (.list ty2) xs2 with
                | none => simp [hca] at hk
                | some xs3 =>
                  simp only [hca, Option.bind_some] at hk
                  have hca : xs3 = xs2 := by
                    obtain ⟨_, h⟩ := castT_some hca; exact h.symm
                  subst hca
                  obtain ⟨hil, hk⟩ := inIdx_some hk
                  have hvs0 : vs' = [] := by cases vs' with
                    | nil => rfl
                    | cons _ _ => exact hv1.elim
                  subst hvs0
                  rw [List.append_nil] at hcu
                  subst hcu
                  obtain ⟨w', hrun, G', hrel, hga⟩ := store_core (C := C) (σ' := setHp σ1 id (some (.own false dp2 e2 ty2 (xs3.set i z)))) (ds := []) h1 ho2 hg hil hfs (hrd.length ty2) hvs.one
                    (by
                      cases dp2 with
                      | false => simpa using hrd
                      | true =>
                        simp only [Bool.true_and, Bool.not_eq_false'] at hdp
                        simp only [if_true, List.flatMap_nil]
                        exact flat_Dp ty2 hdp hrd)
                    (by simp) (by simp) (by simp) (fun j => by rw [ob_setHp]; have := Sg.ob_lt ho2; by_cases hj : j = id <;> simp [hj, this]) rfl (by simp)
                  exact ⟨w', _, hrun, hk, kp1.trans (Kp.set _ ho2 rfl), G', hrel, GA.trans ke1 hga⟩
              · simp at hk
            · simp at hk
          | true =>
            rw [hdp] at hk
            simp only [Bool.and_eq_true, Bool.not_eq_true'] at hdp
            obtain ⟨z, ls', σ1, cs, vs', new, hk, hcu, hgone, hv1, hids, hnd, hdp1⟩ := tkT_some ty h (Gone.refl σ) hk hvs
            split at hk
            · rename_i dp2 e2 ty2 xs2 ho2
              split at hk
              · rename_i hcc
                obtain ⟨rfl, rfl, rfl⟩ := hcc
                cases hca : castT (.list ty2) (.list ty2) xs2 with
                | none => simp [hca] at hk
                | some xs3 =>
                  simp only [hca, Option.bind_some] at hk
                  have hca : xs3 = xs2 := by
                    obtain ⟨_, h⟩ := castT_some hca; exact h.symm
                  subst hca
                  obtain ⟨hil, hk⟩ := inIdx_some hk
                  have hvs0 : vs' = [] := by cases vs' with
                    | nil => rfl
                    | cons _ _ => exact hv1.elim
                  subst hvs0
                  rw [List.append_nil] at hcu
                  subst hcu
                  rw [List.nil_append] at hgone
                  obtain ⟨hni, ho3⟩ := hgone.sub ho2
                  rw [ho] at ho3
                  simp only [Option.some.injEq, Ob.own.injEq, true_and] at ho3
                  obtain ⟨_, _, _, hxx⟩ := ho3
                  obtain ⟨w', hrun, G', hrel, hga⟩ := store_core (C := C) (σ' := setHp σ1 id (some (.own false dp2 e2 ty2 (xs.set i z)))) (ds := new) h ho hg hil hfs hdp1.length hvs.one
                    (by rw [hdp.1]; exact hdp1)
                    (fun d hd => (hids d hd).2) hnd hni (fun j => by
                      have := Sg.ob_lt ho2
                      rw [ob_setHp, hgone.ob j]; by_cases hj : j = id <;> simp [hj, this]) hgone.env (by simp [hgone.len])
                  exact ⟨w', _, hrun, hk, ⟨hgone.env, by simp [hgone.len], fun j o hoj hr => by
                    rw [ob_setHp]
                    by_cases hj : j = id
                    · subst hj; rw [ho] at hoj; obtain rfl := Option.some.inj hoj; simp [Ob.ro] at hr
                    · rw [if_neg (fun hc => hj hc.1), hgone.ob j, if_neg, hoj]
                      intro hn
                      obtain ⟨_, o', ho', hr'⟩ := hids j hn
                      rw [hoj] at ho'; obtain rfl := Option.some.inj ho'
                      rw [hr] at hr'; simp at hr'⟩, G', hrel, hga⟩
              · simp at hk
            · simp at hk
      · simp at hk
    · simp at hk
  · simp at hk

end
end Go.Proofs.Ytajlabmnpimeeaa.Eng
