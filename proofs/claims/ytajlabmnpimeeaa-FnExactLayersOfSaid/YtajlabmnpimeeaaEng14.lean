/-
  The engine, part 14. Literals, make, stores, parts of own slices. No condition.
-/
import Derived.Test.YtajlabmnpimeeaaEng13
namespace Go.Proofs.Ytajlabmnpimeeaa.Eng
open Go
set_option linter.unusedVariables false
set_option linter.unusedSimpArgs false

section
variable {ρ : Type} {C : Ctx} {E : En} {G : Gh} {σ : Sg} {a : Act} {w : World}

theorem rep_get {n i : Nat} : (List.replicate n ([] : List Nat))[i]?.getD [] = [] := by
  rw [List.getElem?_replicate]; split <;> rfl

theorem flatMap_flat (f : Nat → List Nat) : (l : List (List Nat)) → l.flatten.flatMap f = (l.map fun m => m.flatMap f).flatten
  | [] => rfl
  | m :: l => by simp only [List.flatten_cons, List.flatMap_append, List.map_cons, flatMap_flat f l]

/-- A new slice in a new block; its elements read what does not change. -/
theorem RelG.newOwn (h : RelG E G σ a w) {w' : World} (x : Ext w w') (dp : Bool) (e : TypeId) (t : Ty) (xs : List t.den) (cells : List Value) (v : Value)
    (hown : w'.ownsRow 0 e t.wid v xs.length cells) (hfresh : ∀ b, v.ownBlock = some b → w.heap.size ≤ b) (hl : xs.length ≤ lim)
    (hc : Chk t xs cells fun _ y ys => RdC (Imm E G σ w) w t y ys) (hd : dp = true → t.flat = true) :
    ∃ G', RelG E G' (addHp σ (.own false dp e t xs)) a w' ∧ GA E σ (addHp σ (.own false dp e t xs)) G G' w w' ∧ VL (Imm E G' (addHp σ (.own false dp e t xs)) w') (addHp σ (.own false dp e t xs)).hp.length G' w' (.ref σ.hp.length) v := by
  obtain ⟨G', h1, h2, h3⟩ := h.add x (.own false dp e t xs) v v.ownBlock.toList rfl (by cases v.ownBlock <;> simp)
    (fun b hb => by
      simp only [Option.mem_toList] at hb
      exact ⟨hfresh b hb, (hown.lt b hb).2⟩)
    fun I G' k hG => by
      simp only [OR, hG]
      refine OwnV.mk (bss := if dp = true then List.replicate xs.length [] else []) hl hown ?_ (fun hdp => by simp [hdp]) (fun hdp => by simp [hdp]) ?_
      · split <;> simp
      · refine hc.imp fun i y ys hi hy => ?_
        cases dp with
        | false => simpa using hy.mono k.imm k.heap t
        | true => simp only [if_true, rep_get]; exact flat_Dp t (hd rfl) (flat_RdC (I' := I) t (hd rfl) hy)
  refine ⟨G', h1, h3, by simp [addHp], h2.symm, ?_⟩
  rcases hown.2 with ⟨hv, _⟩ | ⟨g, cap, cur, hv, _⟩ <;> (rw [hv]; rfl)

theorem buildSliceK_some {t : TypeId} {len : Nat} {parts : Array (Nat × Operand)} {k : A → Sg → Option ρ} {r : ρ} (h : RelG E G σ a w) (hk : buildSliceK C σ t len parts k = some r) :
    ∃ u w', (Instr.buildSlice t len (parts.map fun (i, x) => (i, a.eval x))).run C.P w = .ok u w' ∧ OpOut C E G σ a w k r (.ok (.value u) w') := by
  unfold buildSliceK at hk
  split at hk
  · rename_i e he
    split at hk
    · rename_i ty hlook
      simp only at hk
      split at hk
      · rename_i hc
        obtain ⟨hsz, rfl, hord, hlim, hzs⟩ := hc
        obtain ⟨i, hi, his⟩ := szT_some hsz
        have hz : ∃ z, i.zero = some z := by
          unfold zeroLs at hzs
          simp only [hi, Option.bind_some] at hzs
          cases hzz : i.zero with
          | none => simp [hzz] at hzs
          | some z => exact ⟨z, rfl⟩
        obtain ⟨z, hz⟩ := hz
        have hvas : ∀ (l : List (Nat × Operand)), VAs (Imm E G σ w) σ.hp.length G w (l.map fun p => getA σ p.2) (l.map fun p => a.eval p.2) := by
          intro l
          induction l with
          | nil => trivial
          | cons p l ih => exact ⟨h.get p.2, ih⟩
        have hfm : ∀ (l : List (Nat × Operand)), ((l.map fun p => (p.1, a.eval p.2)).flatMap fun p => p.2.cells.toList) = (l.map fun p => a.eval p.2).flatMap fun u => u.cells.toList := by
          intro l
          induction l with
          | nil => rfl
          | cons p l ih => simp only [List.map_cons, List.flatMap_cons, ih]
        -- the run, once every part has its size
        have run : (∀ u ∈ (parts.toList.map fun p => a.eval p.2), u.cells.size = ty.wid) → ∃ arr : Array Value, arr.toList = ((parts.toList.map fun p => a.eval p.2).flatMap fun u => u.cells.toList) ∧
            (Instr.buildSlice t parts.size (parts.map fun (i, x) => (i, a.eval x))).run C.P w = .ok (.slice (some ⟨w.heap.size, 0, none⟩) parts.size parts.size) (w.alloc (.cells arr e)) := fun hu => by
          obtain ⟨arr, h1, h2⟩ := run_buildSlice (P := C.P) (w := w) (parts := parts.map fun (i, x) => (i, a.eval x)) (elT_some he) hi his hz (fun j p hj => by
            simp only [Array.toList_map, List.getElem?_map] at hj
            cases hp : parts.toList[j]? with
            | none => simp [hp] at hj
            | some q =>
              simp only [hp, Option.map_some, Option.some.injEq] at hj
              subst hj
              have := inOrder_at 0 parts.toList hord j q hp
              exact ⟨by simpa using this, hu _ (List.mem_map.2 ⟨q, List.mem_of_getElem? hp, rfl⟩)⟩) (by simpa using hlim)
          refine ⟨arr, ?_, by simpa using h2⟩
          rw [h1, Array.toList_map, hfm]
        have hmax : parts.size ≤ lim := by
          have := ty.wid_pos
          have h1 : parts.size * 1 ≤ parts.size * ty.wid := Nat.mul_le_mul_left _ this
          unfold lim; omega
        cases hfl : (ty.flat || (parts.toList.map fun p => getA σ p.2).all fun x => (canTk ty σ (cellsA x)).1) && !ty.flat with
        | true =>
          rw [hfl] at hk
          simp only [Bool.and_eq_true, Bool.not_eq_true'] at hfl
          obtain ⟨ys, σ2, news, hk, hyl, hnl, hg, hids, hnd, hus, hchk⟩ := elemsT_some ty h _ (Gone.refl σ) hk (hvas parts.toList)
          obtain ⟨arr, ha1, ha2⟩ := run hus
          simp only [List.length_map] at hyl hnl
          have hyl' : ys.length = parts.size := by simpa using hyl
          have hown : (w.alloc (.cells arr e)).ownsRow 0 e ty.wid (.slice (some ⟨w.heap.size, 0, none⟩) parts.size parts.size) ys.length arr.toList := by
            have := World.ownsRow_lit (e := e) (size := ty.wid) w arr parts.size (base := 0) (Nat.zero_le _) (by unfold maxLen; unfold lim at hmax; omega) (by
              rw [← Array.length_toList, ha1, hchk.1, hyl'])
            rw [hyl']; exact this
          rw [hfl.1] at hk
          simp only [List.nil_append] at hg
          have hclaim : ∀ b, b ∈ (news.flatten.flatMap fun i => (G i).2) → b < w.heap.size ∧ ∃ d ∈ news.flatten, ∃ o', σ.ob d = some o' ∧ o'.ro = false ∧ b ∈ (G d).2 := fun b hb => by
            obtain ⟨d, hd, hbd⟩ := List.mem_flatMap.1 hb
            obtain ⟨_, o', ho', hr'⟩ := hids d hd
            exact ⟨(h.range d o' ho' hr' b hbd).1, d, hd, o', ho', hr', hbd⟩
          have hndc : ∀ (l : List Nat), l.Nodup → (∀ i ∈ l, ∃ o, σ.ob i = some o ∧ o.ro = false) → (l.flatMap fun i => (G i).2).Nodup := by
            intro l
            induction l with
            | nil => intro _ _; simp
            | cons j l ih =>
              intro hn ho
              rw [List.flatMap_cons, List.nodup_append]
              rw [List.nodup_cons] at hn
              obtain ⟨oj, hoj, hrj⟩ := ho j (by simp)
              refine ⟨h.nodup j oj hoj hrj, ih hn.2 fun i hi => ho i (List.mem_cons_of_mem _ hi), fun b hb c hc hbc => ?_⟩
              subst hbc
              obtain ⟨d, hd, hbd⟩ := List.mem_flatMap.1 hc
              obtain ⟨od, hod, hrd⟩ := ho d (List.mem_cons_of_mem _ hd)
              exact h.disj j d oj od hoj hrj hod hrd (fun e => hn.1 (e ▸ hd)) b hb hbd
          obtain ⟨G', hrel, hG', hke⟩ := h.chg (σ' := addHp σ2 (.own false true e ty ys)) news.flatten σ.hp.length (.own false true e ty ys) (.slice (some ⟨w.heap.size, 0, none⟩) parts.size parts.size)
            (w.heap.size :: news.flatten.flatMap fun i => (G i).2) (w' := w.alloc (.cells arr e))
            (fun j => by
              rw [ob_addHp, hg.len]; split
              · rfl
              · exact hg.ob j) hg.env (by simp [hg.len]) (.inl rfl) rfl rfl rfl rfl (by simp) (fun b hb _ => heap_alloc_old w _ b hb)
            (by
              rw [List.nodup_cons]
              exact ⟨fun hm => by have := (hclaim _ hm).1; omega, hndc _ hnd fun i hi => (hids i hi).2⟩)
            (fun b hb => by
              rcases List.mem_cons.1 hb with rfl | hb
              · exact .inl ⟨Nat.le_refl _, by simp⟩
              · exact .inr (hclaim b hb))
            (fun b hb => by simp at hb; subst hb; exact .inl (Nat.le_refl _))
            (fun I G' kk hG => by
              simp only [OR, hG]
              refine OwnV.mk (cells := arr.toList) (bss := news.map fun l => l.flatMap fun i => (G i).2) (by rw [hyl']; exact hmax) hown ?_ (fun _ => by rw [List.length_map, hnl]; simpa using hyl.symm) (fun hf => by simp at hf) ?_
              · simp only [Value.ownBlock, Option.toList_some, List.singleton_append]
                congr 1
                rw [flatMap_flat]
              · rw [ha1]
                refine hchk.imp fun i y ys hi hy => ?_
                simp only [if_true, List.getElem?_map]
                have e1 : ((news[i]?.map fun l => l.flatMap fun i => (G i).2).getD []) = (news[i]?.getD []).flatMap fun i => (G i).2 := by cases news[i]? <;> rfl
                rw [e1]
                refine hy.mono (Nat.le_refl _) ty fun b hb => heap_alloc_old w _ b ?_
                refine (hclaim b ?_).1
                obtain ⟨d, hd, hbd⟩ := List.mem_flatMap.1 hb
                refine List.mem_flatMap.2 ⟨d, ?_, hbd⟩
                cases hgi : news[i]? with
                | none => simp [hgi] at hd
                | some l => simp only [hgi, Option.getD_some] at hd; exact List.mem_flatten.2 ⟨l, List.mem_of_getElem? hgi, hd⟩)
          have kp : Kp σ σ2 := ⟨hg.env, by rw [hg.len]; exact Nat.le_refl _, fun i o ho hr => by
            rw [hg.ob i, if_neg, ho]
            intro hi
            obtain ⟨_, o', ho', hr'⟩ := hids i hi
            rw [ho] at ho'
            obtain rfl := Option.some.inj ho'
            rw [hr] at hr'; simp at hr'⟩
          refine ⟨_, _, ha2, _, _, hk, kp.trans (Kp.add _ _), G', hrel, hke, by simp [addHp], by rw [hg.len]; exact hG'.symm, rfl⟩
        | false =>
          rw [hfl] at hk
          obtain ⟨ys, σ2, hk, hyl, h2, kp, ke, hus, hchk⟩ := elemsF_some ty _ h hk (hvas parts.toList)
          obtain ⟨arr, ha1, ha2⟩ := run hus
          simp only [List.length_map] at hyl
          have hyl' : ys.length = parts.size := by simpa using hyl
          have hown : (w.alloc (.cells arr e)).ownsRow 0 e ty.wid (.slice (some ⟨w.heap.size, 0, none⟩) parts.size parts.size) ys.length arr.toList := by
            have := World.ownsRow_lit (e := e) (size := ty.wid) w arr parts.size (base := 0) (Nat.zero_le _) (by unfold maxLen; unfold lim at hmax; omega) (by
              rw [← Array.length_toList, ha1, hchk.1, hyl'])
            rw [hyl']; exact this
          obtain ⟨G', h3, hga, h4⟩ := h2.newOwn (Ext.alloc w (.cells arr e)) (ty.flat || (parts.toList.map fun p => getA σ p.2).all fun x => (canTk ty σ (cellsA x)).1) e ty ys arr.toList _ hown (fun b hb => by
            simp [Value.ownBlock] at hb; omega) (by rw [hyl']; exact hmax) (by rw [ha1]; exact hchk) (fun hd => by
              rw [hd] at hfl; simpa using hfl)
          exact ⟨_, _, ha2, _, _, hk, kp.trans (Kp.add _ _), G', h3, GA.trans ke hga, h4⟩
      · simp at hk
    · simp at hk
  · simp at hk

end
end Go.Proofs.Ytajlabmnpimeeaa.Eng
