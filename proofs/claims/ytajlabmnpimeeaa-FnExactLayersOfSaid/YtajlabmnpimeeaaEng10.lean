/-
  The engine, part 10. Append. No condition.
-/
import Derived.Test.YtajlabmnpimeeaaEng9
namespace Go.Proofs.Ytajlabmnpimeeaa.Eng
open Go
set_option linter.unusedVariables false
set_option linter.unusedSimpArgs false

section
variable {ρ : Type} {C : Ctx} {E : En} {G : Gh} {σ : Sg} {a : Act} {w : World}

/-- Rows that a slice of the call's own holds do not change. -/
theorem RelG.rowImm (h : RelG E G σ a w) {id : Nat} {o : Ob} (ho : σ.ob id = some o) (hr : o.ro = false) {b hd : Nat} {rest : List Nat} (hG : (G id).2 = hd :: rest) (hb : b ∈ rest) : Imm E G σ w b := by
  have hin : b ∈ (G id).2 := by rw [hG]; exact List.mem_cons_of_mem _ hb
  have hrg := h.range id o ho hr b hin
  have hnd := h.nodup id o ho hr
  refine ⟨hrg.1, fun hB => h.xa b (hrg.2 hB), fun j o' ho' hr' hhd => ?_⟩
  by_cases hij : j = id
  · subst hij
    rw [hG] at hhd hnd
    simp only [List.head?_cons, Option.some.injEq] at hhd
    subst hhd
    exact (List.nodup_cons.1 hnd).1 hb
  · exact h.disj j id o' o ho' hr' ho hr hij b (List.mem_of_mem_head? hhd) hin

theorem RelG.ownRows (h : RelG E G σ a w) {id : Nat} {dp : Bool} {e : TypeId} {t : Ty} {x : List t.den} (ho : σ.ob id = some (.own false dp e t x)) {bss : List (List Nat)} {n : Nat} {cells : List Value}
    (hown : w.ownsRow 0 e t.wid (G id).1 n cells) (hG : (G id).2 = (G id).1.ownBlock.toList ++ bss.flatten) (hb : 0 < n) : ∀ b ∈ bss.flatten, Imm E G σ w b := by
  intro b hb'
  rcases hown.2 with ⟨_, h0⟩ | ⟨g, cap, cur, hg, _⟩
  · omega
  · rw [hg] at hG
    exact h.rowImm ho rfl (hd := g) (rest := bss.flatten) (by rw [hG]; rfl) hb'

theorem RelG.shallow (h : RelG E G σ a w) {id : Nat} {dp : Bool} {e : TypeId} {t : Ty} {x : List t.den} (ho : σ.ob id = some (.own false dp e t x)) :
    ∃ cells, w.ownsRow 0 e t.wid (G id).1 x.length cells ∧ x.length ≤ lim ∧ Chk t x cells fun _ y ys => RdC (Imm E G σ w) w t y ys := by
  have hor := h.obs id _ ho
  simp only [OR] at hor
  obtain ⟨hl, cells, bss, how, hbs, hd1, hd2, hc⟩ := hor.chk
  refine ⟨cells, how, hl, hc.imp fun i y ys hi hy => ?_⟩
  cases dp with
  | false => simpa using hy
  | true =>
    simp only [if_true] at hy
    refine hy.rd t fun b hb => ?_
    refine h.ownRows ho how hbs (by have := (List.getElem?_eq_some_iff.1 hi).1; omega) b ?_
    cases hgi : bss[i]? with
    | none => simp [hgi] at hb
    | some l =>
      simp only [hgi, Option.getD_some] at hb
      exact List.mem_flatten.2 ⟨l, List.mem_of_getElem? hgi, hb⟩

/-- A value that lists are copied from. -/
def Src (I : Nat → Prop) (w : World) (t : Ty) (u : Value) (ys : List t.den) : Prop :=
  (∃ c, u = .slice none 0 c ∧ ys = []) ∨ ∃ ad c news, u = .slice (some ad) ys.length c ∧ Chk t ys news (fun _ y cs => RdC I w t y cs) ∧ ∀ j v, news[j]? = some v → w.cell? (ad.add j) = some v

theorem Src.ofRd {I : Nat → Prop} {t : Ty} {u : Value} {ys : List t.den} (h : RdV I w (.list t) ys u) : ys.length ≤ lim ∧ Src I w t u ys := by
  obtain ⟨p, c, rfl, h1, h2, h3, h4⟩ := RdV_list h
  refine ⟨h3, ?_⟩
  by_cases hy : ys = []
  · cases p with
    | none => subst hy; exact .inl ⟨c, rfl, rfl⟩
    | some ad => subst hy; exact .inr ⟨ad, c, [], rfl, ⟨by simp, fun i y hi => by simp at hi⟩, fun j v hj => by simp at hj⟩
  · obtain ⟨b, o, rfl, hb, hel⟩ := h4 hy
    obtain ⟨news, hn1, hn2⟩ := rd_chk hel
    exact .inr ⟨_, c, news, rfl, hn1, fun j v hj => by rw [add_none]; exact hn2 j v hj⟩

theorem Src.ofOwn {I : Nat → Prop} {t : Ty} {e : TypeId} {u : Value} {ys : List t.den} {cells : List Value} (ho : w.ownsRow 0 e t.wid u ys.length cells) (hc : Chk t ys cells fun _ y cs => RdC I w t y cs) : Src I w t u ys := by
  rcases ho.2 with ⟨rfl, h0⟩ | ⟨g, cap, cur, rfl, _⟩
  · exact .inl ⟨0, rfl, List.eq_nil_of_length_eq_zero h0⟩
  · exact .inr ⟨⟨g, 0, none⟩, cap, cells, rfl, hc, ho.cells rfl⟩

/-- Appending, whatever the source. -/
theorem run_app_src {P : Program} {I : Nat → Prop} (t tyy e : TypeId) (i : TypeInfo) (z : Value) (ty : Ty) (ht : P.underlying t = some (.slice e)) (hi : P.info? e = some i) (hz : i.zero = some z)
    (hsz : i.size = ty.wid) (hzs : z.cells.size = ty.wid) (v : Value) (xs ys : List ty.den) (cells : List Value) (hown : w.ownsRow 0 e ty.wid v xs.length cells)
    {R : Nat → ty.den → List Value → Prop} (hx : Chk ty xs cells R) (u : Value) (hu : Src I w ty u ys)
    (h63 : xs.length + ys.length ≤ lim) (hbytes : (xs.length + ys.length) * i.bytes ≤ lim) :
    ∃ v' w' news, (Builtin.append_ #[t, t] tyy #[v, u]).run P w = .ok v' w' ∧ w'.ownsRow 0 e ty.wid v' (xs ++ ys).length (cells ++ news) ∧ w.grownBy w' v.ownBlock ∧
      (∀ b, v'.ownBlock = some b → v.ownBlock = some b ∨ (w.heap.size ≤ b ∧ b < w'.heap.size)) ∧ Chk ty ys news (fun _ y cs => RdC I w ty y cs) ∧
      (∀ ad c, u = .slice (some ad) ys.length c → ∀ j v, news[j]? = some v → w.cell? (ad.add j) = some v) := by
  rcases hu with ⟨c, rfl, rfl⟩ | ⟨ad, c, news, rfl, hn1, hn2⟩
  · refine ⟨v, w, [], ?_, by simpa using hown, ⟨rfl, rfl, rfl, Nat.le_refl _, fun _ _ _ => rfl⟩, fun b hb => .inl hb, ⟨by simp, fun i y hi => by simp at hi⟩, fun ad c hx => by simp at hx⟩
    rw [← hsz] at hown
    exact run_app_none t tyy e i ht hi v xs.length cells hown c
  · rw [← hsz] at hown hzs
    obtain ⟨v', w', h1, h2, h3, h4⟩ := run_app (P := P) (w := w) t tyy e i z ht hi hz hzs (by rw [hsz]; exact ty.wid_pos) v xs.length cells hown ad ys.length c news (by rw [hn1.1, hsz]) hn2 hn1.one h63 hbytes
    refine ⟨v', w', news, h1, by rw [List.length_append, ← hsz]; exact h2, h3, h4, hn1, fun ad' c' he => ?_⟩
    simp only [Value.slice.injEq, Option.some.injEq] at he
    rw [← he.1]; exact hn2

theorem srcK_some {σ1 : Sg} {dp : Bool} {ty : Ty} {x : A} {k : Bool → List ty.den → Sg → Option ρ} {r : ρ} {u : Value} (h : RelG E G σ a w)
    (hsub : ∀ i o, σ1.ob i = some o → σ.ob i = some o) (hk : srcK σ1 dp ty x k = some r) (hv : VA (Imm E G σ w) σ.hp.length G w x u) :
    ∃ dp' ys σ2, k dp' ys σ2 = some r ∧ ys.length ≤ lim ∧ Src (Imm E G σ w) w ty u ys ∧
      ((σ2 = σ1 ∧ dp' = ty.flat) ∨ (∃ id2 e2, u = (G id2).1 ∧ σ1.ob id2 = some (.own false true e2 ty ys) ∧ dp' = true ∧ dp = true ∧ σ2 = setHp σ1 id2 none)) := by
  have plain : ∀ (x : L), VL (Imm E G σ w) σ.hp.length G w x u → rdL σ1 (.list ty) x (fun y => k ty.flat y σ1) = some r → ∃ ys, k ty.flat ys σ1 = some r ∧ ys.length ≤ lim ∧ Src (Imm E G σ w) w ty u ys := by
    intro x hv hk
    unfold rdL at hk
    split at hk
    · rename_i nn t' y
      cases hc : castT t' (.list ty) y with
      | none => simp [hc] at hk
      | some z =>
        simp only [hc, Option.bind_some] at hk
        obtain ⟨e, rfl⟩ := castT_some hc
        subst e
        obtain ⟨h1, h2⟩ := Src.ofRd hv.1
        exact ⟨_, hk, h1, h2⟩
    · simp only [VL] at hv; subst hv
      exact ⟨[], hk, Nat.zero_le _, .inl ⟨0, rfl, rfl⟩⟩
    · rename_i id
      split at hk
      · rename_i ro dp2 e2 t' y ho
        cases hc : castT (.list t') (.list ty) y with
        | none => simp [hc] at hk
        | some z =>
          simp only [hc, Option.bind_some] at hk
          obtain ⟨e, rfl⟩ := castT_some hc
          simp only [Ty.list.injEq] at e
          subst e
          have ho := hsub _ _ ho
          obtain ⟨_, hv, _⟩ := hv
          cases ro with
          | true =>
            have hor := h.obs id _ ho
            simp only [OR] at hor
            rw [← hv] at hor
            obtain ⟨h1, h2⟩ := Src.ofRd hor
            exact ⟨_, hk, h1, h2⟩
          | false =>
            obtain ⟨cells, h1, h2, h3⟩ := h.shallow ho
            rw [← hv] at h1
            exact ⟨_, hk, h2, Src.ofOwn h1 h3⟩
      · simp at hk
    · simp at hk
  unfold srcK at hk
  split at hk
  · rename_i id wid l m
    split at hk
    · rename_i dp2 e2 t' y ho
      split at hk
      · rename_i hwid
        cases hc : castT (.list t') (.list ty) y with
        | none => simp [hc] at hk
        | some z =>
          simp only [hc, Option.bind_some] at hk
          obtain ⟨e, rfl⟩ := castT_some hc
          simp only [Ty.list.injEq] at e
          subst e
          subst hwid
          have ho := hsub _ _ ho
          obtain ⟨_, p, n, c, hG, rfl⟩ := hv
          obtain ⟨cells, h1, h2, h3⟩ := h.shallow ho
          have hk : (subl y ↑l ↑m).bind (fun q => k t'.flat q σ1) = some r := hk
          unfold subl at hk
          split at hk
          · rename_i hb
            simp only [Option.bind_some, Int.toNat_natCast] at hk
            have hlm : l ≤ m ∧ m ≤ y.length := by omega
            have hlen : ((y.take m).drop l).length = m - l := by rw [List.length_drop, List.length_take]; omega
            refine ⟨_, _, _, hk, by show ((y.take m).drop l).length ≤ lim; omega, ?_, .inl ⟨rfl, rfl⟩⟩
            show Src _ _ _ _ ((y.take m).drop l)
            rcases h1.2 with ⟨hv', hn⟩ | ⟨g, cap, cur, hv', hg, hh, hnc, hcm, hcs, htake⟩
            · rw [hG] at hv'
              simp only [Value.slice.injEq] at hv'
              obtain ⟨rfl, rfl, rfl⟩ := hv'
              have hl : l = 0 := by omega
              have hm : m = 0 := by omega
              subst hl; subst hm
              exact .inl ⟨0, rfl, by simp⟩
            · rw [hG] at hv'
              simp only [Value.slice.injEq] at hv'
              obtain ⟨rfl, rfl, rfl⟩ := hv'
              have hcell : ∀ (j : Nat) (v : Value), cells[j]? = some v → w.cell? ⟨g, j, none⟩ = some v := fun j v hj => by
                have := h1.cells (g := g) (by rw [hG]; rfl) j v hj
                rwa [show (⟨g, 0, none⟩ : Addr).add j = ⟨g, j, none⟩ from by rw [add_none, Nat.zero_add]] at this
              by_cases hcl : c = l
              · have : m - l = 0 := by omega
                rw [if_pos hcl]
                have hd0 : (y.take m).drop l = [] := List.eq_nil_of_length_eq_zero (by omega)
                rw [hd0, this]
                exact .inr ⟨⟨g, 0, none⟩, _, [], rfl, ⟨by simp, fun i y hi => by simp at hi⟩, fun j v hj => by simp at hj⟩
              · rw [if_neg hcl]
                refine .inr ⟨⟨g, l * t'.wid, none⟩, c - l, (cells.take (m * t'.wid)).drop (l * t'.wid), ?_, ⟨?_, fun i q hi => ?_⟩, fun j v hj => ?_⟩
                · rw [hlen]; simp [add_none]
                · rw [hlen, List.length_drop, List.length_take, h3.1]
                  have h4 := Nat.mul_le_mul_right t'.wid hlm.1
                  have h5 := Nat.mul_le_mul_right t'.wid hlm.2
                  rw [Nat.sub_mul]; omega
                · have hi' : y[l + i]? = some q ∧ l + i < m := by
                    rw [List.getElem?_drop, List.getElem?_take] at hi
                    split at hi
                    · exact ⟨hi, by omega⟩
                    · simp at hi
                  obtain ⟨ys, hy1, hy2, hy3⟩ := h3.2 _ q hi'.1
                  refine ⟨ys, hy1, fun j hj => ?_, hy3⟩
                  rw [← hy2 j hj, List.getElem?_drop, List.getElem?_take]
                  have h6 : (l + i) * t'.wid + j < m * t'.wid := chunk_lt hi'.2 hj
                  rw [if_pos (by rw [Nat.add_mul] at h6; omega)]
                  congr 1
                  rw [Nat.add_mul]; omega
                · rw [List.getElem?_drop, List.getElem?_take] at hj
                  split at hj
                  · rw [add_none]; exact hcell _ v hj
                  · simp at hj
          · simp at hk
      · simp at hk
    · simp at hk
  · rename_i x _
    split at hk
    · rename_i id hdp _
      split at hk
      · rename_i e2 t' y ho
        cases hc : castT (.list t') (.list ty) y with
        | none => simp [hc] at hk
        | some z =>
          simp only [hc, Option.bind_some] at hk
          obtain ⟨e, rfl⟩ := castT_some hc
          simp only [Ty.list.injEq] at e
          subst e
          have ho' := hsub _ _ ho
          obtain ⟨_, hv, _⟩ := hv
          obtain ⟨cells, h1, h2, h3⟩ := h.shallow ho'
          rw [← hv] at h1
          simp only [Bool.and_eq_true] at hdp
          exact ⟨_, _, _, hk, h2, Src.ofOwn h1 h3, .inr ⟨id, e2, hv, ho, rfl, hdp.1, rfl⟩⟩
      · obtain ⟨ys, h1, h2, h3⟩ := plain (.ref id) hv hk
        exact ⟨_, ys, _, h1, h2, h3, .inl ⟨rfl, rfl⟩⟩
    · obtain ⟨ys, h1, h2, h3⟩ := plain _ (show VL _ _ _ _ _ _ from hv) hk
      exact ⟨_, ys, _, h1, h2, h3, .inl ⟨rfl, rfl⟩⟩
  · simp at hk

/-- What a slice that is appended to is. -/
structure Hold (E : En) (G : Gh) (σ : Sg) (w : World) (e : TypeId) (ty : Ty) (v : Value) (xs : List ty.den) (dp : Bool) (ds : List Nat) : Prop where
  obj : (v = .slice none 0 0 ∧ xs = [] ∧ dp = true ∧ ds = []) ∨ ∃ id, ds = [id] ∧ v = (G id).1 ∧ σ.ob id = some (.own false dp e ty xs)

theorem append_core {e : TypeId} {ty : Ty} {v u : Value} {xs ys : List ty.den} {dp dp' : Bool} {ds : List Nat} {tS : TypeId} {σ2 : Sg} {ds2 : List Nat}
    (h : RelG E G σ a w) (hold : Hold E G σ w e ty v xs dp ds) (hsrc : Src (Imm E G σ w) w ty u ys)
    (hcase : (dp' = ty.flat ∧ ds2 = []) ∨ (∃ id2 e2, ds2 = [id2] ∧ u = (G id2).1 ∧ σ.ob id2 = some (.own false true e2 ty ys) ∧ dp' = true ∧ dp = true ∧ id2 ∉ ds))
    (hσ2 : ∀ i, σ2.ob i = if i ∈ ds ++ ds2 then none else σ.ob i) (hσe : σ2.env = σ.env) (hσl : σ2.hp.length = σ.hp.length)
    (ht : elT C tS = some e) (hsz : szT C e = some ty.wid) {by_ : Nat} (hby : byT C e = some by_) (hz : (((C.P.info? e).bind (·.zero)).map fun z => z.cells.size == ty.wid) = some true)
    (h63 : xs.length + ys.length ≤ lim) (hbytes : (xs.length + ys.length) * by_ ≤ lim) :
    ∃ v' w', (∀ tyy, (Builtin.append_ #[tS, tS] tyy #[v, u]).run C.P w = .ok v' w') ∧ ∃ G', RelG E G' (addHp σ2 (.own false dp' e ty (xs ++ ys))) a w' ∧ GA E σ (addHp σ2 (.own false dp' e ty (xs ++ ys))) G G' w w' ∧
      VL (Imm E G' (addHp σ2 (.own false dp' e ty (xs ++ ys))) w') (addHp σ2 (.own false dp' e ty (xs ++ ys))).hp.length G' w' (.ref σ2.hp.length) v' := by
  obtain ⟨i, hi, hisz⟩ := szT_some hsz
  obtain ⟨i', hi', hib⟩ := byT_some hby
  rw [hi] at hi'
  obtain rfl := Option.some.inj hi'
  obtain ⟨z, hiz, hzs⟩ : ∃ z, i.zero = some z ∧ z.cells.size = ty.wid := by
    simp only [hi, Option.bind_some] at hz
    cases hzz : i.zero with
    | none => simp [hzz] at hz
    | some z => simp [hzz] at hz; exact ⟨z, rfl, hz⟩
  -- the slice itself
  obtain ⟨cells, bss, hown, hbss, hchk, hdeep, hval⟩ : ∃ (cells : List Value) (bss : List (List Nat)), w.ownsRow 0 e ty.wid v xs.length cells ∧ (bss.length = xs.length ∨ (dp = false ∧ bss = [])) ∧
      Chk ty xs cells (fun _ y ys => RdC (Imm E G σ w) w ty y ys) ∧ (dp = true → Chk ty xs cells fun i y ys => DpC 0 w ty y ys (bss[i]?.getD [])) ∧
      (∀ id ∈ ds, v = (G id).1 ∧ σ.ob id = some (.own false dp e ty xs) ∧ (G id).2 = v.ownBlock.toList ++ bss.flatten) := by
    rcases hold.obj with ⟨rfl, rfl, rfl, rfl⟩ | ⟨id, rfl, rfl, ho⟩
    · exact ⟨[], [], World.ownsRow_nil w 0 e ty.wid, .inl rfl, ⟨by simp, fun i y hi => by simp at hi⟩, fun _ => ⟨by simp, fun i y hi => by simp at hi⟩, fun id hid => by simp at hid⟩
    · have hor := h.obs id _ ho
      simp only [OR] at hor
      obtain ⟨hl, cells, bss, how, hbs, hd1, hd2, hc⟩ := hor.chk
      refine ⟨cells, bss, how, ?_, ?_, fun hdp => ?_, fun id' hid' => ?_⟩
      · cases dp with
        | true => exact .inl (hd1 rfl)
        | false => exact .inr ⟨rfl, hd2 rfl⟩
      · refine hc.imp fun i y ys hi hy => ?_
        cases dp with
        | false => simpa using hy
        | true =>
          simp only [if_true] at hy
          refine hy.rd ty fun b hb => h.ownRows ho how hbs (by have := (List.getElem?_eq_some_iff.1 hi).1; omega) b ?_
          cases hgi : bss[i]? with
          | none => simp [hgi] at hb
          | some l => simp only [hgi, Option.getD_some] at hb; exact List.mem_flatten.2 ⟨l, List.mem_of_getElem? hgi, hb⟩
      · subst hdp; simpa using hc
      · simp only [List.mem_singleton] at hid'
        subst hid'
        exact ⟨rfl, ho, hbs⟩
  obtain ⟨v', w', news, hrun, hown', hgrow, hblk, hnews, hnadr⟩ := run_app_src (P := C.P) tS 0 e i z ty (elT_some ht) hi hiz hisz hzs v xs ys cells hown hchk u hsrc h63 (by rw [hib]; exact hbytes)
  have hrun' : ∀ tyy, (Builtin.append_ #[tS, tS] tyy #[v, u]).run C.P w = .ok v' w' := fun tyy => hrun
  refine ⟨v', w', hrun', ?_⟩
  -- the source's own blocks, where it is taken over
  obtain ⟨bss2, hb2len, hb2own, hdeep2⟩ : ∃ bss2 : List (List Nat), (dp' = true → bss2.length = ys.length) ∧ (∀ b ∈ bss2.flatten, ∃ id2 ∈ ds2, ∃ e2, σ.ob id2 = some (.own false true e2 ty ys) ∧ (G id2).2 = u.ownBlock.toList ++ bss2.flatten ∧ dp = true ∧ id2 ∉ ds ∧ 0 < ys.length ∧ u = (G id2).1) ∧
      (dp' = true → Chk ty ys news fun i y cs => DpC 0 w ty y cs (bss2[i]?.getD [])) := by
    rcases hcase with ⟨rfl, rfl⟩ | ⟨id2, e2, rfl, rfl, ho2, rfl, rfl, hnin⟩
    · refine ⟨List.replicate ys.length [], by simp, fun b hb => by simp at hb, fun hf => hnews.imp fun i y cs hi hy => ?_⟩
      have : (List.replicate ys.length ([] : List Nat))[i]?.getD [] = [] := by
        rw [List.getElem?_replicate]; split <;> rfl
      rw [this]
      exact flat_Dp ty hf hy
    · have hor := h.obs id2 _ ho2
      simp only [OR] at hor
      obtain ⟨hl, cells2, bss2, how2, hbs2, hd1, hd2, hc2⟩ := hor.chk
      simp only [if_true] at hc2
      refine ⟨bss2, fun _ => hd1 rfl, fun b hb => ⟨id2, by simp, e2, ho2, hbs2, rfl, hnin, ?_, rfl⟩, fun _ => ?_⟩
      · rcases Nat.eq_zero_or_pos ys.length with h0 | h0
        · have hb20 : bss2 = [] := List.eq_nil_of_length_eq_zero (by rw [hd1 rfl, h0])
          subst hb20; simp at hb
        · exact h0
      · -- the cells that were copied are its own
        rcases Nat.eq_zero_or_pos ys.length with h0 | h0
        · have hy0 : ys = [] := List.eq_nil_of_length_eq_zero h0
          subst hy0
          exact ⟨hnews.1, fun i y hi => by simp at hi⟩
        · rcases how2.2 with ⟨_, hn⟩ | ⟨g, cap, cur, hg, _⟩
          · omega
          · have hcl := how2.cells (g := g) (by rw [hg]; rfl)
            have heq : news = cells2 := by
              apply List.ext_getElem?
              intro j
              by_cases hj : j < ys.length * ty.wid
              · have h1 : news[j]? = some (news[j]'(by rw [hnews.1]; exact hj)) := List.getElem?_eq_getElem _
                have h2 : cells2[j]? = some (cells2[j]'(by rw [hc2.1]; exact hj)) := List.getElem?_eq_getElem _
                have h3 := hnadr _ _ hg _ _ h1
                have h4 := hcl _ _ h2
                rw [h3] at h4
                rw [h1, h2, Option.some.inj h4]
              · rw [List.getElem?_eq_none (by rw [hnews.1]; omega), List.getElem?_eq_none (by rw [hc2.1]; omega)]
            rw [heq]; exact hc2
  -- the new claims
  let bssN : List (List Nat) := if dp' = true then (if dp = true then bss else List.replicate xs.length []) ++ bss2 else []
  have hmemN : ∀ b ∈ bssN.flatten, (dp' = true) ∧ ((dp = true ∧ b ∈ bss.flatten) ∨ b ∈ bss2.flatten) := by
    intro b hb
    simp only [bssN] at hb
    split at hb
    · rename_i hd
      rw [List.flatten_append, List.mem_append] at hb
      rcases hb with hb | hb
      · split at hb
        · rename_i hd2; exact ⟨hd, .inl ⟨hd2, hb⟩⟩
        · simp at hb
      · exact ⟨hd, .inr hb⟩
    · simp at hb
  have hposX : ∀ b, b ∈ bss.flatten → ∃ id ∈ ds, 0 < xs.length := by
    intro b hb
    have hx : 0 < xs.length := by
      rcases hbss with hbl | ⟨_, hbl⟩
      · rcases Nat.eq_zero_or_pos xs.length with h0 | h0
        · have : bss = [] := List.eq_nil_of_length_eq_zero (by rw [hbl, h0])
          subst this; simp at hb
        · exact h0
      · subst hbl; simp at hb
    rcases hold.obj with ⟨_, hxs, _, _⟩ | ⟨id, hds, _, _⟩
    · subst hxs; simp at hx
    · exact ⟨id, by rw [hds]; simp, hx⟩
  have hown2 : ∀ b ∈ bss.flatten, ∃ id ∈ ds, ∃ o', σ.ob id = some o' ∧ o'.ro = false ∧ b ∈ (G id).2 := fun b hb => by
    obtain ⟨id, hid, _⟩ := hposX b hb
    obtain ⟨_, ho, hG⟩ := hval id hid
    exact ⟨id, hid, _, ho, rfl, by rw [hG]; exact List.mem_append_right _ hb⟩
  have hown3 : ∀ b ∈ bss2.flatten, ∃ id ∈ ds2, ∃ o', σ.ob id = some o' ∧ o'.ro = false ∧ b ∈ (G id).2 := fun b hb => by
    obtain ⟨id2, hid2, e2, ho2, hG2, _⟩ := hb2own b hb
    exact ⟨id2, hid2, _, ho2, rfl, by rw [hG2]; exact List.mem_append_right _ hb⟩
  have hlt : ∀ b, (b ∈ bss.flatten ∨ b ∈ bss2.flatten) → b < w.heap.size := fun b hb => by
    rcases hb with hb | hb
    · obtain ⟨id, _, o', ho, hr, hm⟩ := hown2 b hb; exact (h.range id o' ho hr b hm).1
    · obtain ⟨id, _, o', ho, hr, hm⟩ := hown3 b hb; exact (h.range id o' ho hr b hm).1
  -- rows are not the slice's own first block
  have hnotv : ∀ b, (b ∈ bss.flatten ∨ b ∈ bss2.flatten) → some b ≠ v.ownBlock := fun b hb he => by
    rcases hold.obj with ⟨hv, _, _, _⟩ | ⟨id, hds, hv, ho⟩
    · rw [hv] at he; simp [Value.ownBlock] at he
    · obtain ⟨_, _, hG⟩ := hval id (by rw [hds]; simp)
      rw [← he] at hG
      simp only [Option.toList_some, List.singleton_append] at hG
      rcases hb with hb | hb
      · have := h.nodup id _ ho rfl
        rw [hG] at this
        exact (List.nodup_cons.1 this).1 hb
      · obtain ⟨id2, hid2, e2, ho2, hG2, _, hnin, _⟩ := hb2own b hb
        exact h.disj id2 id _ _ ho2 rfl ho rfl (fun e => hnin (by rw [e, hds]; simp)) b (by rw [hG2]; exact List.mem_append_right _ hb) (by rw [hG]; simp)
  have hvhead : ∀ b, v.ownBlock = some b → ∃ id ∈ ds, ∃ o', σ.ob id = some o' ∧ o'.ro = false ∧ (G id).2.head? = some b ∧ b < w.heap.size := fun b hb => by
    rcases hold.obj with ⟨hv, _, _, _⟩ | ⟨id, hds, hv, ho⟩
    · rw [hv] at hb; simp [Value.ownBlock] at hb
    · obtain ⟨_, _, hG⟩ := hval id (by rw [hds]; simp)
      have hhd : (G id).2.head? = some b := by rw [hG, hb]; rfl
      exact ⟨id, by rw [hds]; simp, _, ho, rfl, hhd, (h.range id _ ho rfl b (List.mem_of_mem_head? hhd)).1⟩
  obtain ⟨G', hrel, hG', hkeep⟩ := h.chg (σ' := addHp σ2 (.own false dp' e ty (xs ++ ys))) (ds ++ ds2) σ.hp.length (.own false dp' e ty (xs ++ ys)) v' (v'.ownBlock.toList ++ bssN.flatten)
    (fun j => by rw [ob_addHp, hσl]; split
                 · rfl
                 · exact hσ2 j) hσe (by simp [hσl]) (.inl rfl) rfl hgrow.os hgrow.tape hgrow.output hgrow.size
    (fun b hb hd => hgrow.block b hb fun he => by
      obtain ⟨id, hid, o', ho, hr, hh, _⟩ := hvhead b he.symm
      exact hd id (List.mem_append_left _ hid) o' ho hr hh)
    (by
      rw [List.nodup_append]
      refine ⟨by cases v'.ownBlock <;> simp, ?_, fun b hb c hc hbc => ?_⟩
      · simp only [bssN]
        split
        · rename_i hd'
          rw [List.flatten_append, List.nodup_append]
          refine ⟨?_, ?_, fun b hb c hc hbc => ?_⟩
          · split
            · cases hn : bss.flatten with
              | nil => exact List.nodup_nil
              | cons b l =>
                rw [← hn]
                obtain ⟨id, hid, _⟩ := hposX b (by rw [hn]; simp)
                obtain ⟨_, ho, hG⟩ := hval id hid
                have := h.nodup id _ ho rfl
                rw [hG, List.nodup_append] at this
                exact this.2.1
            · simp
          · cases hn : bss2.flatten with
            | nil => exact List.nodup_nil
            | cons b l =>
              rw [← hn]
              obtain ⟨id2, hid2, e2, ho2, hG2, _⟩ := hb2own b (by rw [hn]; simp)
              have := h.nodup id2 _ ho2 rfl
              rw [hG2, List.nodup_append] at this
              exact this.2.1
          · subst hbc
            split at hb
            · obtain ⟨id, hid, o', ho, hr, hm⟩ := hown2 b hb
              obtain ⟨id2, hid2, e2, ho2, hG2, _, hnin, _⟩ := hb2own b hc
              exact h.disj id id2 _ _ ho hr ho2 rfl (fun e => hnin (e ▸ hid)) b hm (by rw [hG2]; exact List.mem_append_right _ hc)
            · simp at hb
        · simp
      · subst hbc
        simp only [Option.mem_toList] at hb
        have hbN := (hmemN b hc).2
        have hbN' : b ∈ bss.flatten ∨ b ∈ bss2.flatten := hbN.imp (·.2) id
        rcases hblk b hb with h1 | h1
        · exact hnotv b hbN' h1.symm
        · have := hlt b hbN'; omega)
    (fun b hb => by
      rcases List.mem_append.1 hb with hb | hb
      · simp only [Option.mem_toList] at hb
        rcases hblk b hb with h1 | h1
        · obtain ⟨id, hid, o', ho, hr, hh, hl⟩ := hvhead b h1
          exact .inr ⟨hl, id, List.mem_append_left _ hid, o', ho, hr, List.mem_of_mem_head? hh⟩
        · exact .inl h1
      · rcases (hmemN b hb).2 with ⟨_, h1⟩ | h1
        · obtain ⟨id, hid, o', ho, hr, hm⟩ := hown2 b h1
          exact .inr ⟨hlt b (.inl h1), id, List.mem_append_left _ hid, o', ho, hr, hm⟩
        · obtain ⟨id, hid, o', ho, hr, hm⟩ := hown3 b h1
          exact .inr ⟨hlt b (.inr h1), id, List.mem_append_right _ hid, o', ho, hr, hm⟩)
    (fun b hb => by
      cases hv' : v'.ownBlock with
      | some g =>
        rw [hv'] at hb
        simp only [Option.toList_some, List.singleton_append, List.head?_cons, Option.some.injEq] at hb
        subst hb
        rcases hblk g hv' with h1 | h1
        · obtain ⟨id, hid, o', ho, hr, hh, _⟩ := hvhead g h1
          exact .inr ⟨id, List.mem_append_left _ hid, o', ho, hr, hh⟩
        · exact .inl h1.1
      | none =>
        rcases hown'.2 with ⟨_, hn⟩ | ⟨g, cap, cur, hg, _⟩
        · have hx0 : xs.length = 0 ∧ ys.length = 0 := by rw [List.length_append] at hn; omega
          rw [hv'] at hb
          simp only [Option.toList_none, List.nil_append] at hb
          have hm := (hmemN b (List.mem_of_mem_head? hb)).2
          rcases hm with ⟨_, hm⟩ | hm
          · obtain ⟨_, _, hp⟩ := hposX b hm; omega
          · obtain ⟨_, _, _, _, _, _, _, hp, _⟩ := hb2own b hm; omega
        · rw [hg] at hv'; simp [Value.ownBlock] at hv')
    (fun I G' k hG => by
      simp only [OR, hG]
      have hkb : ∀ b, (b ∈ bss.flatten ∨ b ∈ bss2.flatten) → w'.heap[b]? = w.heap[b]? := fun b hb => hgrow.block b (hlt b hb) (hnotv b hb)
      have hmemI : ∀ (l : List (List Nat)) (i b : Nat), b ∈ l[i]?.getD [] → b ∈ l.flatten := fun l i b hb => by
        cases hgi : l[i]? with
        | none => simp [hgi] at hb
        | some q => simp only [hgi, Option.getD_some] at hb; exact List.mem_flatten.2 ⟨q, List.mem_of_getElem? hgi, hb⟩
      refine OwnV.mk (cells := cells ++ news) (bss := bssN) (by rw [List.length_append]; exact h63) hown' rfl (fun hd => ?_) (fun hd => by simp [bssN, hd]) ?_
      · simp only [bssN, hd, if_true, List.length_append, hb2len hd]
        congr 1
        split
        · rename_i hdp
          rcases hbss with hbl | ⟨hf, _⟩
          · exact hbl
          · rw [hdp] at hf; simp at hf
        · simp
      · cases hd : dp' with
        | false =>
          exact hchk.append hnews (fun i y cs _ hy => by simpa using hy.mono k.imm k.heap ty) (fun i y cs _ hy => by simpa using hy.mono k.imm k.heap ty)
        | true =>
          have hleft : (if dp = true then bss else List.replicate xs.length []).length = xs.length := by
            split
            · rename_i hdp
              rcases hbss with hbl | ⟨hf, _⟩
              · exact hbl
              · rw [hdp] at hf; simp at hf
            · simp
          have hfl : dp = false → ty.flat = true := fun hf => by
            rcases hcase with ⟨h1, _⟩ | ⟨_, _, _, _, _, _, h1, _⟩
            · rw [← h1, hd]
            · rw [hf] at h1; simp at h1
          have hx2 : Chk ty xs cells fun i y cs => DpC 0 w' ty y cs (((if dp = true then bss else List.replicate xs.length []))[i]?.getD []) := by
            cases hdp : dp with
            | true =>
              simp only [if_true]
              exact (hdeep hdp).imp fun i y cs hi hy => hy.mono (Nat.le_refl _) ty fun b hb => hkb b (.inl (hmemI _ _ _ hb))
            | false =>
              refine hchk.imp fun i y cs hi hy => ?_
              have : (List.replicate xs.length ([] : List Nat))[i]?.getD [] = [] := by
                rw [List.getElem?_replicate]; split <;> rfl
              simp only [Bool.false_eq_true, if_false, this]
              exact flat_Dp ty (hfl hdp) (flat_RdC (I' := I) ty (hfl hdp) hy)
          refine hx2.append (hdeep2 hd) (fun i y cs hlt hy => ?_) (fun i y cs hlt hy => ?_)
          · simp only [if_true, bssN, hd]
            rw [List.getElem?_append_left (by rw [hleft]; exact hlt)]
            exact hy
          · simp only [if_true, bssN, hd]
            rw [List.getElem?_append_right (by rw [hleft]; omega), hleft, Nat.add_sub_cancel_left]
            exact hy.mono (Nat.le_refl _) ty fun b hb => hkb b (.inr (hmemI _ _ _ hb)))
  refine ⟨G', hrel, hkeep, by simp [addHp], by rw [hσl]; exact hG'.symm, ?_⟩
  rcases hown'.2 with ⟨hv', _⟩ | ⟨g, cap, cur, hv', _⟩
  · rw [hv']; rfl
  · rw [hv']; rfl

end
end Go.Proofs.Ytajlabmnpimeeaa.Eng
