/-
  The engine, part 20. Calls. No condition.
-/
import Derived.Test.YtajlabmnpimeeaaEng19
namespace Go.Proofs.Ytajlabmnpimeeaa.Eng
open Go
set_option linter.unusedVariables false
set_option linter.unusedSimpArgs false

section
variable {ρ : Type} {C : Ctx} {E : En} {G : Gh} {σ σ' : Sg} {a : Act} {w : World} {ids : List Nat} {I I' U : Nat → Prop}

theorem OwnV.cast {dp : Bool} {e : TypeId} {t : Ty} {x : List t.den} {v : Value} {bs : List Nat} (hI : (!dp && !t.flat) = true → ∀ b, I b → I' b) (h : OwnV I w dp e t x v bs) : OwnV I' w dp e t x v bs := by
  obtain ⟨hl, cells, bss, ho, hbs, h1, h2, hchk⟩ := h.chk
  refine OwnV.mk hl ho hbs h1 h2 (hchk.imp fun i y cs hi hy => ?_)
  cases dp with
  | true => simpa using hy
  | false =>
    simp only [Bool.false_eq_true, if_false] at hy ⊢
    cases hf : t.flat with
    | true => exact flat_RdC t hf hy
    | false => exact hy.mono (hI (by simp [hf])) (fun _ _ => rfl) t

theorem LV.cast : (c : LK) → {y : c.den} → {v : Value} → {bs : List Nat} → (hI : c.alias = true → ∀ b, I b → I' b) → LV I w c y v bs → LV I' w c y v bs
  | .d nn t, y, v, bs, hI, h => by
    refine ⟨?_, h.2⟩
    cases hf : t.flat with
    | true => obtain ⟨cs, h1, h2⟩ := h.1; exact ⟨cs, flat_RdC t hf h1, h2⟩
    | false => exact h.1.mono (hI (by simp [LK.alias, hf])) fun _ _ => rfl
  | .o dp e t, y, v, bs, hI, h => OwnV.cast hI h

theorem LVs.cast : (cs : List LK) → {y : LKs.den cs} → {vs : List Value} → {bss : List (List Nat)} → (hI : cs.any LK.alias = true → ∀ b, I b → I' b) → LVs I w cs y vs bss → LVs I' w cs y vs bss
  | [], _, [], _, _, h => h
  | [c], _, [v], _, hI, ⟨bs, h1, h2, h3⟩ => ⟨bs, h1, LV.cast c (fun hc => hI (by simp [hc])) h2, h3⟩
  | c :: c' :: r, _, v :: vs, _, hI, ⟨bs, rest, h1, ⟨h2, h3⟩, h4⟩ => ⟨bs, rest, h1, ⟨LV.cast c (fun hc => hI (by simp [hc])) h2, h3⟩, LVs.cast (c' :: r) (fun hc => hI (by rw [List.any_cons, hc, Bool.or_true])) h4⟩
  | [], _, _ :: _, _, _, h => h.elim
  | [_], _, [], _, _, h => h.elim
  | [_], _, _ :: _ :: _, _, _, h => h.elim
  | _ :: _ :: _, _, [], _, _, h => h.elim

theorem SV.cast : (c : SK) → {y : c.den} → {v : Value} → {bss : List (List Nat)} → (hI : c.alias = true → ∀ b, I b → I' b) → SV I w c y v bss → SV I' w c y v bss
  | .l c, _, _, _, hI, ⟨bs, h1, h2⟩ => ⟨bs, h1, LV.cast c hI h2⟩
  | .a cs, _, _, _, hI, ⟨vs, h1, h2⟩ => ⟨vs, h1, LVs.cast cs hI h2⟩
  | .b e cs, _, _, _, hI, ⟨b, arr, rest, h1, h2, h3, h4⟩ => ⟨b, arr, rest, h1, h2, LVs.cast cs (fun _ => hI rfl) h3, h4⟩

theorem SVs.cast : (cs : List SK) → {y : SKs.den cs} → {vs : List Value} → {bss : List (List Nat)} → (hI : cs.any SK.alias = true → ∀ b, I b → I' b) → SVs I w cs y vs bss → SVs I' w cs y vs bss
  | [], _, [], _, _, h => h
  | [c], _, [v], _, hI, h => SV.cast c (fun hc => hI (by simp [hc])) h
  | c :: c' :: r, _, v :: vs, _, hI, ⟨b1, b2, h1, h2, h3⟩ => ⟨b1, b2, h1, SV.cast c (fun hc => hI (by simp [hc])) h2, SVs.cast (c' :: r) (fun hc => hI (by rw [List.any_cons, hc, Bool.or_true])) h3⟩
  | [], _, _ :: _, _, _, h => h.elim
  | [_], _, [], _, _, h => h.elim
  | [_], _, _ :: _ :: _, _, _, h => h.elim
  | _ :: _ :: _, _, [], _, _, h => h.elim

theorem IoV.cast : (ps : List PM) → {y : PMo.den ps} → {vs : List Value} → {bss : List (List Nat)} → (hI : ps.any PM.alias = true → ∀ b, I b → I' b) → IoV I w ps y vs bss → IoV I' w ps y vs bss
  | [], _, [], _, _, h => h
  | .io dp e t :: r, _, v :: vs, _, hI, ⟨bs, rest, h1, h2, h3⟩ => ⟨bs, rest, h1, OwnV.cast (fun hc => hI (by rw [List.any_cons]; simp [PM.alias, hc])) h2, IoV.cast r (fun hc => hI (by rw [List.any_cons, hc, Bool.or_true])) h3⟩
  | .d _ _ :: r, _, v :: vs, _, hI, h => IoV.cast r (fun hc => hI (by rw [List.any_cons, hc, Bool.or_true])) h
  | .f _ :: r, _, v :: vs, _, hI, h => IoV.cast r (fun hc => hI (by rw [List.any_cons, hc, Bool.or_true])) h
  | .mv _ _ _ :: r, _, v :: vs, _, hI, h => IoV.cast r (fun hc => hI (by rw [List.any_cons, hc, Bool.or_true])) h
  | [], _, _ :: _, _, _, h => h.elim
  | .io _ _ _ :: _, _, [], _, _, h => h.elim
  | .d _ _ :: _, _, [], _, _, h => h.elim
  | .f _ :: _, _, [], _, _, h => h.elim
  | .mv _ _ _ :: _, _, [], _, _, h => h.elim

/-! Shapes. -/

theorem encL_shape (σ : Sg) : (c : LK) → (y : c.den) → ∃ l σ', Kp σ σ' ∧ ∀ (ρ : Type) (k : L → Sg → Option ρ), encL σ c y k = k l σ'
  | .d nn t, y => ⟨_, _, Kp.refl _, fun _ _ => rfl⟩
  | .o dp e t, y => ⟨_, _, Kp.add _ _, fun _ _ => rfl⟩

theorem encLs_shape : (cs : List LK) → (σ : Sg) → (y : LKs.den cs) → ∃ ls σ', Kp σ σ' ∧ ∀ (ρ : Type) (k : List L → Sg → Option ρ), encLs σ cs y k = k ls σ'
  | [], σ, y => ⟨_, _, Kp.refl _, fun _ _ => rfl⟩
  | [c], σ, y => by obtain ⟨l, σ', hk, h⟩ := encL_shape σ c y; exact ⟨[l], σ', hk, fun ρ k => by simp only [encLs]; exact h ρ _⟩
  | c :: c' :: r, σ, y => by
    obtain ⟨l, σ', hk, h⟩ := encL_shape σ c y.1
    obtain ⟨ls, σ2, hk2, h2⟩ := encLs_shape (c' :: r) σ' y.2
    exact ⟨l :: ls, σ2, hk.trans hk2, fun ρ k => by simp only [encLs]; rw [h, h2]⟩

theorem encS_shape (σ : Sg) : (c : SK) → (y : c.den) → ∃ x σ', noT x = true ∧ Kp σ σ' ∧ ∀ (ρ : Type) (k : A → Sg → Option ρ), encS σ c y k = k x σ'
  | .l c, y => by obtain ⟨l, σ', hk, h⟩ := encL_shape σ c y; exact ⟨.l l, σ', rfl, hk, fun ρ k => by simp only [encS]; exact h ρ _⟩
  | .a cs, y => by obtain ⟨l, σ', hk, h⟩ := encLs_shape cs σ y; exact ⟨.a l, σ', rfl, hk, fun ρ k => by simp only [encS]; exact h ρ _⟩
  | .b e cs, y => by obtain ⟨l, σ', hk, h⟩ := encLs_shape cs σ y; exact ⟨_, _, rfl, hk.trans (Kp.add _ _), fun ρ k => by simp only [encS]; exact h ρ _⟩

theorem encSs_shape : (cs : List SK) → (σ : Sg) → (y : SKs.den cs) → ∃ xs σ', (∀ x ∈ xs, noT x = true) ∧ Kp σ σ' ∧ ∀ (ρ : Type) (k : List A → Sg → Option ρ), encSs σ cs y k = k xs σ'
  | [], σ, y => ⟨[], _, by simp, Kp.refl _, fun _ _ => rfl⟩
  | [c], σ, y => by obtain ⟨l, σ', hn, hk, h⟩ := encS_shape σ c y; exact ⟨[l], σ', by simpa using hn, hk, fun ρ k => by simp only [encSs]; exact h ρ _⟩
  | c :: c' :: r, σ, y => by
    obtain ⟨l, σ', hn, hk, h⟩ := encS_shape σ c y.1
    obtain ⟨ls, σ2, hn2, hk2, h2⟩ := encSs_shape (c' :: r) σ' y.2
    exact ⟨l :: ls, σ2, by simpa using ⟨hn, hn2⟩, hk.trans hk2, fun ρ k => by simp only [encSs]; rw [h, h2]⟩

theorem backK_some : (ps : List PM) → {σ : Sg} → {xs : List A} → {y : PMo.den ps} → {k : Sg → Option ρ} → {r : ρ} → backK ps xs y σ k = some r →
    ∃ σ2, k σ2 = some r ∧ σ2.env = σ.env ∧ σ2.hp.length = σ.hp.length ∧ (∀ id o, σ.ob id = some o → σ2.ob id = some o) ∧
      ∀ {E : En} {I U I0 : Nat → Prop} {G : Gh} {a : Act} {w w0 : World} {vs : List Value} {bss : List (List Nat)}, Pre E I U G σ a w → VAs I0 σ.hp.length G w0 xs vs → IoV I w ps y vs bss → Adm E I U w bss →
        ∃ G2, Pre E I (fun b => U b ∨ b ∈ bss.flatten) G2 σ2 a w ∧ ∀ i, i < σ.hp.length → (G2 i).1 = (G i).1
  | [], σ, xs, y, k, r, hk => by
    simp only [backK] at hk
    exact ⟨σ, hk, rfl, rfl, fun _ _ h => h, fun hp _ _ _ => ⟨_, hp.wide fun _ hb => .inl hb, fun _ _ => rfl⟩⟩
  | .io dp e t :: rr, σ, x :: xs, y, k, r, hk => by
    simp only [backK] at hk
    split at hk
    · rename_i id
      split at hk
      · rename_i hno
        obtain ⟨σ2, h1, h2, h3, h4, h5⟩ := backK_some rr hk
        refine ⟨σ2, h1, h2, by simpa using h3, fun i o ho => h4 i o ?_, fun {E I U I0 G a w w0 vs bss} hp hv hio ha => ?_⟩
        · rw [ob_setHp, if_neg]
          · exact ho
          · rintro ⟨rfl, _⟩; rw [hno] at ho; simp at ho
        · cases vs with
          | nil => exact hio.elim
          | cons v vs =>
            obtain ⟨bs, rest, rfl, hov, hio⟩ := hio
            obtain ⟨hid, hvG, _⟩ := hv.1
            obtain ⟨G1, k1, k2, k3, k4⟩ := hp.put (σ' := setHp σ id (some (.own false dp e t y.1))) id (.own false dp e t y.1) v bs rfl ha.single (.inr ⟨hid, hno, hvG.symm⟩) rfl (by simp)
              (fun i => by rw [ob_setHp]; by_cases hi : i = id <;> simp [hi, hid]) (fun G' _ hn => by simp only [OR, hn]; exact hov)
            obtain ⟨G2, k5, k6⟩ := h5 k1 (by simpa using hv.2.keep ⟨fun _ hb => hb, fun _ _ => rfl, Nat.le_refl _, k4⟩ xs) hio ha.tail
            refine ⟨G2, k5.wide fun b hb => ?_, fun i hi => (k6 i (by simpa using hi)).trans (k4 i hi)⟩
            rw [List.flatten_cons, List.mem_append]
            rcases hb with (hb | hb) | hb
            · exact .inl hb
            · exact .inr (.inl hb)
            · exact .inr (.inr hb)
      · simp at hk
    · simp at hk
  | .d _ _ :: rr, σ, x :: xs, y, k, r, hk => by
    simp only [backK] at hk
    obtain ⟨σ2, h1, h2, h3, h4, h5⟩ := backK_some rr hk
    exact ⟨σ2, h1, h2, h3, h4, fun {E I U I0 G a w w0 vs bss} hp hv hio ha => by
      cases vs with
      | nil => exact hio.elim
      | cons v vs => exact h5 hp hv.2 hio ha⟩
  | .f _ :: rr, σ, x :: xs, y, k, r, hk => by
    simp only [backK] at hk
    obtain ⟨σ2, h1, h2, h3, h4, h5⟩ := backK_some rr hk
    exact ⟨σ2, h1, h2, h3, h4, fun {E I U I0 G a w w0 vs bss} hp hv hio ha => by
      cases vs with
      | nil => exact hio.elim
      | cons v vs => exact h5 hp hv.2 hio ha⟩
  | .mv _ _ _ :: rr, σ, x :: xs, y, k, r, hk => by
    simp only [backK] at hk
    obtain ⟨σ2, h1, h2, h3, h4, h5⟩ := backK_some rr hk
    exact ⟨σ2, h1, h2, h3, h4, fun {E I U I0 G a w w0 vs bss} hp hv hio ha => by
      cases vs with
      | nil => exact hio.elim
      | cons v vs => exact h5 hp hv.2 hio ha⟩
  | .io _ _ _ :: _, σ, [], y, k, r, hk => by simp [backK] at hk
  | .d _ _ :: _, σ, [], y, k, r, hk => by simp [backK] at hk
  | .f _ :: _, σ, [], y, k, r, hk => by simp [backK] at hk
  | .mv _ _ _ :: _, σ, [], y, k, r, hk => by simp [backK] at hk

theorem findE_some {f : FuncId} {e : CallE} : {l : List CallE} → findE f l = some e → e ∈ l ∧ e.f = f
  | [], h => by simp [findE] at h
  | x :: r, h => by
    simp only [findE] at h
    split at h
    · rename_i hx; obtain rfl := Option.some.inj h; exact ⟨by simp, hx⟩
    · have := findE_some h; exact ⟨List.mem_cons_of_mem _ this.1, this.2⟩

theorem findI_some {f : FuncId} {e : InE} : {l : List InE} → findI f l = some e → e ∈ l ∧ e.f = f
  | [], h => by simp [findI] at h
  | x :: r, h => by
    simp only [findI] at h
    split at h
    · rename_i hx; obtain rfl := Option.some.inj h; exact ⟨by simp, hx⟩
    · have := findI_some h; exact ⟨List.mem_cons_of_mem _ this.1, this.2⟩

theorem retA_VA {N : Nat} : (xs : List A) → {vs : List Value} → (∀ x ∈ xs, noT x = true) → VAs I N G w xs vs → VA I N G w (retA xs) (retV vs) := by
  intro xs vs hn hv
  have tup : ∀ (xs : List A) (vs : List Value), (∀ x ∈ xs, noT x = true) → VAs I N G w xs vs → VPs I N G w (xs.map fun
    | .l l => (false, [l])
    | .a ls => (true, ls)
    | .t _ => (true, [])) vs := by
    intro xs
    induction xs with
    | nil => intro vs _ hv; cases vs with
      | nil => trivial
      | cons _ _ => exact hv.elim
    | cons x xs ih =>
      intro vs hn hv
      cases vs with
      | nil => exact hv.elim
      | cons v vs =>
        refine ⟨?_, ih vs (fun x hx => hn x (List.mem_cons_of_mem _ hx)) hv.2⟩
        have hx := hn x (by simp)
        have := hv.1
        cases x with
        | l l => exact ⟨l, rfl, this⟩
        | a ls => exact this
        | t _ => simp [noT] at hx
  match xs, vs, hv with
  | [], [], _ => exact ⟨[], rfl, trivial⟩
  | [x], [v], hv => exact hv.1
  | x :: x' :: xs, v :: v' :: vs, hv => exact ⟨v :: v' :: vs, rfl, tup _ _ hn hv⟩
  | [x], v :: v' :: vs, hv => exact hv.2.elim
  | x :: x' :: xs, [v], hv => exact hv.2.elim

/-- Behind a call: what the caller knew still holds, the claims that come back may be added. -/
theorem RelG.called (h : RelG E G σ a w) {σ1 : Sg} {new : List Nat} {bss rb : List (List Nat)} {al : Bool} {w' : World} (tk : Took G σ σ1 [] new bss) (co : CallOut (Sb E G σ w al new) w w' bss rb I') :
    Pre E (fun b => Imm E G σ w b ∨ (al = true ∧ I' b)) (fun b => ∃ id o, σ1.ob id = some o ∧ o.ro = false ∧ b ∈ (G id).2) G σ1 a w' ∧
      Adm E (fun b => Imm E G σ w b ∨ (al = true ∧ I' b)) (fun b => ∃ id o, σ1.ob id = some o ∧ o.ro = false ∧ b ∈ (G id).2) w' rb ∧
      ∀ b, Imm E G σ w b → w'.heap[b]? = w.heap[b]? := by
  have hg := tk.gone
  rw [List.nil_append] at hg
  have hsame : ∀ b, b < w.heap.size → (∀ i ∈ new, (G i).2.head? ≠ some b) → w'.heap[b]? = w.heap[b]? := fun b hb hn => co.frame b hb fun bs hbs hh => by
    obtain ⟨i, hi, hx⟩ := tk.cls.head bs hbs b hh; exact hn i hi hx
  have himm : ∀ b, Imm E G σ w b → w'.heap[b]? = w.heap[b]? := fun b hb => hsame b hb.1 (hb.rdb tk.mine).2
  have hcl : ∀ b ∈ bss.flatten, ∃ i ∈ new, b ∈ (G i).2 := fun b hb => by
    obtain ⟨q, hq, hbq⟩ := List.mem_flatten.1 hb; exact tk.cls.mem q hq b hbq
  have hsub : ∀ id o, σ1.ob id = some o → id ∉ new ∧ σ.ob id = some o := fun id o ho => hg.sub ho
  -- claims of what is left are not among those handed over
  have hleft : ∀ id o, σ1.ob id = some o → o.ro = false → ∀ b ∈ (G id).2, b ∉ bss.flatten := fun id o ho hr b hb hm => by
    obtain ⟨i, hi, hbi⟩ := hcl b hm
    obtain ⟨hni, ho'⟩ := hsub id o ho
    obtain ⟨oi, hoi, hri⟩ := tk.mine i hi
    exact h.disj id i o oi ho' hr hoi hri (fun e => hni (e ▸ hi)) b hb hbi
  have hold : ∀ b, al = true → I' b → b < w.heap.size → Imm E G σ w b ∨ b ∈ bss.flatten := fun b hal hb hlt => by
    have := (co.imm b hb).2 hlt
    rcases this with this | this
    · left; unfold Sb at this; rw [hal] at this; simpa using this
    · exact .inr this
  have hkeep : Keep (Imm E G σ w) (fun b => Imm E G σ w b ∨ (al = true ∧ I' b)) σ.hp.length σ1.hp.length G G w w' := ⟨fun b hb => .inl hb, himm, by rw [hg.len]; exact Nat.le_refl _, fun _ _ => rfl⟩
  refine ⟨{ defers := h.defers
            len := by rw [hg.env]; exact h.len
            env := fun t x hx => by rw [hg.env] at hx; exact (h.env t x hx).keep hkeep x
            obs := fun id o ho => ?_
            nodup := fun id o ho hr => h.nodup id o (hsub id o ho).2 hr
            range := fun id o ho hr b hb => ?_
            hrange := fun id o ho hr b hb => ?_
            disj := fun id id' o o' ho hr ho' hr' => h.disj id id' o o' (hsub id o ho).2 hr (hsub id' o' ho').2 hr'
            os := co.os.trans h.os
            tape := co.tape.trans h.tape
            output := co.output.trans h.output
            size := Nat.le_trans h.size co.size
            frame := fun b hb hH => (hsame b (Nat.lt_of_lt_of_le hb h.size) fun i hi hh => ?_).trans (h.frame b hb hH)
            xa := h.xa
            fixd := h.fixd
            acc := fun b hb => ?_ }, ⟨co.nodup, fun b hb => ?_, fun bs hbs b hb => ?_⟩, himm⟩
  · obtain ⟨hni, ho'⟩ := hsub id o ho
    refine (h.obs id o ho').keep hkeep (Sg.ob_lt ho') rfl o fun hr b hb => hsame b (h.range id o ho' hr b hb).1 fun i hi hh => ?_
    obtain ⟨oi, hoi, hri⟩ := tk.mine i hi
    exact h.disj id i o oi ho' hr hoi hri (fun e => hni (e ▸ hi)) b hb (List.mem_of_mem_head? hh)
  · have := h.range id o (hsub id o ho).2 hr b hb
    exact ⟨Nat.lt_of_lt_of_le this.1 co.size, this.2, id, o, ho, hr, hb⟩
  · obtain ⟨hni, ho'⟩ := hsub id o ho
    refine ⟨h.hrange id o ho' hr b hb, fun hI => ?_⟩
    have hmem := List.mem_of_mem_head? hb
    have himp : ¬ Imm E G σ w b := fun hi => hi.2.2 id o ho' hr hb
    rcases hI with hI | ⟨hal, hI⟩
    · exact himp hI
    · rcases hold b hal hI (h.range id o ho' hr b hmem).1 with hI | hI
      · exact himp hI
      · exact hleft id o ho hr b hmem hI
  · obtain ⟨oi, hoi, hri⟩ := tk.mine i hi
    exact hH (h.hrange i oi hoi hri b hh hb)
  · rcases hb with hb | ⟨hal, hb⟩
    · exact ⟨Nat.lt_of_lt_of_le hb.1 co.size, hb.2.1⟩
    · refine ⟨(co.imm b hb).1, fun hB => ?_⟩
      rcases hold b hal hb (Nat.lt_of_lt_of_le hB h.size) with hI | hI
      · exact hI.2.1 hB
      · obtain ⟨i, hi, hbi⟩ := hcl b hI
        obtain ⟨oi, hoi, hri⟩ := tk.mine i hi
        exact h.xa b ((h.range i oi hoi hri b hbi).2 hB)
  · obtain ⟨h1, h2⟩ := co.range b hb
    refine ⟨h1, fun hB => ?_, fun hU => ?_⟩
    · obtain ⟨i, hi, hbi⟩ := hcl b (h2 (Nat.lt_of_lt_of_le hB h.size))
      obtain ⟨oi, hoi, hri⟩ := tk.mine i hi
      exact (h.range i oi hoi hri b hbi).2 hB
    · obtain ⟨id, o, ho, hr, hbo⟩ := hU
      exact hleft id o ho hr b hbo (h2 (h.range id o (hsub id o ho).2 hr b hbo).1)
  · obtain ⟨h1, h2⟩ := co.head bs hbs b hb
    refine ⟨fun hB => ?_, fun hI => ?_⟩
    · obtain ⟨q, hq, hqb⟩ := h2 (Nat.lt_of_lt_of_le hB h.size)
      obtain ⟨i, hi, hx⟩ := tk.cls.head q hq b hqb
      obtain ⟨oi, hoi, hri⟩ := tk.mine i hi
      exact h.hrange i oi hoi hri b hx hB
    · rcases hI with hI | ⟨_, hI⟩
      · obtain ⟨q, hq, hqb⟩ := h2 hI.1
        obtain ⟨i, hi, hx⟩ := tk.cls.head q hq b hqb
        obtain ⟨oi, hoi, hri⟩ := tk.mine i hi
        exact hI.2.2 i oi hoi hri hx
      · exact h1 hI

theorem Took.kp {σ1 : Sg} {new : List Nat} {bss : List (List Nat)} (tk : Took G σ σ1 [] new bss) : Kp σ σ1 := by
  have hg := tk.gone
  rw [List.nil_append] at hg
  refine ⟨hg.env, by rw [hg.len]; exact Nat.le_refl _, fun id o ho hr => ?_⟩
  rw [hg.ob id, if_neg, ho]
  intro hi
  obtain ⟨o', ho', hr'⟩ := tk.mine id hi
  rw [ho] at ho'
  obtain rfl := Option.some.inj ho'
  rw [hr] at hr'; simp at hr'

theorem callK_some {f : FuncId} {xs : List A} {k : A → Sg → Option ρ} {r : ρ} {vs : List Value} (hC : ∀ e ∈ C.O, Ctr C.P e) (hI : ∀ e ∈ C.I, InOk C.P e) (h : RelG E G σ a w) (hk : callK C σ f xs k = some r)
    (hv : VAs (Imm E G σ w) σ.hp.length G w xs vs) : OpOut C E G σ a w k r (.ok (.enter f vs.toArray) w) := by
  unfold callK at hk
  split at hk
  · rename_i e hfe
    obtain ⟨hmem, rfl⟩ := findE_some hfe
    simp only at hk
    split at hk
    · generalize hal : (e.rs.any SK.alias || e.ps.any PM.alias) = al at hk
      have hf : Frz σ (frzArgs al σ e.ps xs) := by
        unfold frzArgs
        cases al
        · exact .refl _
        · exact freezeAs_frz _ _ _
      generalize frzArgs al σ e.ps xs = σ0 at hk hf
      have h0 := hf.rel h
      have hv0 := hv.keep (hf.keep (E := E) (G := G) (w := w)) xs
      obtain ⟨y, σ1, new, bss, hk, tk, hargs⟩ := argsK_some e.ps h0 (Gone.refl _) (by simp [Mine]) hk hv0
      rw [List.nil_append] at hargs
      cases hF : e.F y with
      | none => simp [hF] at hk
      | some res =>
        simp only [hF, Option.bind_some] at hk
        have hin : CallIn (Sb E G σ0 w al new) w bss := by
          refine ⟨tk.cls.nodup, fun b hb => ?_, fun b hb => ?_, fun bs hbs b hb hS => ?_⟩
          · obtain ⟨q, hq, hbq⟩ := List.mem_flatten.1 hb
            obtain ⟨i, hi, hbi⟩ := tk.cls.mem q hq b hbq
            obtain ⟨o, ho, hr⟩ := tk.mine i hi
            exact (h0.range i o ho hr b hbi).1
          · unfold Sb at hb
            split at hb
            · exact hb.1
            · exact hb.1.1
          · obtain ⟨i, hi, hx⟩ := tk.cls.head bs hbs b hb
            obtain ⟨o, ho, hr⟩ := tk.mine i hi
            unfold Sb at hS
            split at hS
            · exact hS.2.2 i o ho hr hx
            · exact hS.2 i hi hx
        have hcall := hC e hmem y res hF _ w vs bss hin hargs
        -- the state behind it
        cases hres : resB (hasIo e.ps) res with
        | mk rv ro =>
          rw [hres] at hk
          have hcast1 : ∀ {I' : Nat → Prop}, e.rs.any SK.alias = true → ∀ b, I' b → (Imm E G σ0 w b ∨ (al = true ∧ I' b)) := fun hc b hb => .inr ⟨by rw [← hal, hc]; rfl, hb⟩
          have hcast2 : ∀ {I' : Nat → Prop}, e.ps.any PM.alias = true → ∀ b, I' b → (Imm E G σ0 w b ∨ (al = true ∧ I' b)) := fun hc b hb => .inr ⟨by rw [← hal, hc, Bool.or_true], hb⟩
          cases ro with
          | some o =>
            simp only at hk
            obtain ⟨σ2, hk, hb1, hb2, hb3, hb4⟩ := backK_some e.ps hk
            obtain ⟨xs3, σ3, hn3, hkp3, hs3⟩ := encSs_shape e.rs σ2 rv
            rw [hs3] at hk
            have kp2 : Kp σ1 σ2 := ⟨hb1, by rw [hb2]; exact Nat.le_refl _, fun id o ho _ => hb3 id o ho⟩
            refine ⟨_, σ3, hk, ?_, ?_⟩
            · refine (hf.kp.trans tk.kp).trans (kp2.trans ?_)
              exact hkp3
            · refine Calls.mono hcall fun ex w' hpost => ?_
              obtain ⟨I', rvs, rbss, ibss, hex, co, hsv, _, hio⟩ := hpost
              rw [hres] at hsv hio
              obtain ⟨hp, ha, hsm⟩ := h0.called tk co
              obtain ⟨G2, hp2, hg2⟩ := hb4 hp (by rw [tk.gone.len]; exact hv0) (IoV.cast e.ps hcast2 (hio o rfl)) ha.left
              obtain ⟨xs4, σ4, G3, hs4, hp3, hva, hgr⟩ := encSs_some e.rs hp2 (SVs.cast e.rs hcast1 hsv) ha.right
              have := hs3 (List A × Sg) fun x s => some (x, s)
              rw [hs4] at this
              simp only [Option.some.injEq, Prod.mk.injEq] at this
              obtain ⟨rfl, rfl⟩ := this
              refine ⟨_, hex, G3, hp3.rel, ⟨fun b hb => hp3.imm b (.inl (hf.keep.imm b hb)), fun b hb => hsm b (hf.keep.imm b hb), ?_, fun id hi => ?_⟩, (retA_VA xs4 hn3 hva).keep hp3.keep _⟩
              · refine Nat.le_trans ?_ hkp3.n
                rw [hb2, tk.gone.len, hf.len]; exact Nat.le_refl _
              · have hi1 : id < σ1.hp.length := by rw [tk.gone.len, hf.len]; exact hi
                rw [hgr.g id (by rw [hb2]; exact hi1)]; exact hg2 id hi1
          | none =>
            simp only at hk
            obtain ⟨xs3, σ3, hn3, hkp3, hs3⟩ := encSs_shape e.rs σ1 rv
            rw [hs3] at hk
            refine ⟨_, σ3, hk, ?_, ?_⟩
            · exact (hf.kp.trans tk.kp).trans hkp3
            · refine Calls.mono hcall fun ex w' hpost => ?_
              obtain ⟨I', rvs, rbss, ibss, hex, co, hsv, hib, _⟩ := hpost
              rw [hres] at hsv hib
              have := hib rfl
              subst this
              obtain ⟨hp, ha, hsm⟩ := h0.called tk co
              obtain ⟨xs4, σ4, G3, hs4, hp3, hva, hgr⟩ := encSs_some e.rs hp (SVs.cast e.rs hcast1 hsv) ha
              have := hs3 (List A × Sg) fun x s => some (x, s)
              rw [hs4] at this
              simp only [Option.some.injEq, Prod.mk.injEq] at this
              obtain ⟨rfl, rfl⟩ := this
              refine ⟨_, hex, G3, hp3.rel, ⟨fun b hb => hp3.imm b (.inl (hf.keep.imm b hb)), fun b hb => hsm b (hf.keep.imm b hb), ?_, fun id hi => ?_⟩, (retA_VA xs4 hn3 hva).keep hp3.keep _⟩
              · refine Nat.le_trans ?_ hkp3.n
                rw [tk.gone.len, hf.len]; exact Nat.le_refl _
              · have hi1 : id < σ1.hp.length := by rw [tk.gone.len, hf.len]; exact hi
                rw [hgr.g id hi1]
    · simp at hk
  · split at hk
    · rename_i e hfe
      obtain ⟨hmem, rfl⟩ := findI_some hfe
      have io := hI e hmem
      rw [io.nat] at hk
      obtain ⟨⟨x, σ'⟩, hp, hk⟩ := Option.bind_eq_some_iff.1 hk
      obtain ⟨kp, hc⟩ := io.ok h hv hp
      exact ⟨x, σ', hk, kp, hc⟩
    · simp at hk

end
end Go.Proofs.Ytajlabmnpimeeaa.Eng
