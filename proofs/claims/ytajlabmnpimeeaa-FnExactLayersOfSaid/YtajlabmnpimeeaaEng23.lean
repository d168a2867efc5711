/-
  The engine, part 23. From round to round. No condition.
-/
import Derived.Test.YtajlabmnpimeeaaEng22
namespace Go.Proofs.Ytajlabmnpimeeaa.Eng
open Go
set_option linter.unusedVariables false
set_option linter.unusedSimpArgs false

def L.bd (N : Nat) : L → Prop
  | .ref id => id < N
  | .optr id _ _ => id < N
  | .bptr id _ => id < N
  | .clo _ ids => ∀ id ∈ ids, id < N
  | .sub id _ _ _ => id < N
  | _ => True

def A.bd (N : Nat) : A → Prop
  | .l y => y.bd N
  | .a ys => ∀ y ∈ ys, y.bd N
  | .t ps => ∀ p ∈ ps, ∀ y ∈ p.2, y.bd N

def Ob.bd (N : Nat) : Ob → Prop
  | .own _ _ _ _ _ => True
  | .box _ _ cs => ∀ l ∈ cs, l.bd N

section
variable {ρ : Type} {C : Ctx} {E : En} {G G' : Gh} {σ σF : Sg} {a : Act} {w : World} {I : Nat → Prop} {N N' : Nat}

theorem VL.bd : (l : L) → {v : Value} → VL I N G w l v → l.bd N
  | .unk, _, _ => trivial
  | .nils, _, _ => trivial
  | .dat _ _ _, _, _ => trivial
  | .cptr _ _, _, _ => trivial
  | .ref id, _, h => h.1
  | .optr id _ _, _, h => h.1
  | .bptr id _, _, h => h.1
  | .fn _, _, _ => trivial
  | .clo _ ids, _, h => fun id hi => (h.2 id hi).1
  | .und, _, _ => trivial
  | .sub _ _ _ _, _, h => h.1

theorem VL.lower : (l : L) → {v : Value} → VL I N G w l v → l.bd N' → VL I N' G w l v
  | .unk, _, _, _ => trivial
  | .nils, _, h, _ => h
  | .dat _ _ _, _, h, _ => h
  | .cptr _ _, _, h, _ => h
  | .ref id, _, h, b => ⟨b, h.2⟩
  | .optr id _ _, _, h, b => ⟨b, h.2⟩
  | .bptr id _, _, h, b => ⟨b, h.2⟩
  | .fn _, _, h, _ => h
  | .clo _ ids, _, h, b => ⟨h.1, fun id hi => ⟨b id hi, (h.2 id hi).2⟩⟩
  | .und, _, h, _ => h
  | .sub _ _ _ _, _, h, b => ⟨b, h.2⟩

theorem VLs.bd : (ls : List L) → {vs : List Value} → VLs I N G w ls vs → ∀ l ∈ ls, l.bd N
  | [], _, _, l, hl => by simp at hl
  | x :: ls, [], h, _, _ => h.elim
  | x :: ls, v :: vs, h, l, hl => by
    rcases List.mem_cons.1 hl with rfl | hl
    · exact h.1.1.bd _
    · exact VLs.bd ls h.2 l hl

theorem VLs.lower : (ls : List L) → {vs : List Value} → VLs I N G w ls vs → (∀ l ∈ ls, l.bd N') → VLs I N' G w ls vs
  | [], [], _, _ => trivial
  | [], _ :: _, h, _ => h.elim
  | x :: ls, [], h, _ => h.elim
  | x :: ls, v :: vs, h, b => ⟨⟨h.1.1.lower x (b x (by simp)), h.1.2⟩, VLs.lower ls h.2 fun l hl => b l (List.mem_cons_of_mem _ hl)⟩

theorem VPs.bd : (ps : List (Bool × List L)) → {vs : List Value} → VPs I N G w ps vs → ∀ p ∈ ps, ∀ l ∈ p.2, l.bd N
  | [], _, _, p, hp => by simp at hp
  | x :: ls, [], h, _, _ => h.elim
  | x :: ls, v :: vs, h, p, hp => by
    rcases List.mem_cons.1 hp with rfl | hp
    · obtain ⟨b, ls⟩ := p
      cases b with
      | true => obtain ⟨vs, _, h⟩ := h.1; exact h.bd _
      | false => obtain ⟨l, h1, h2⟩ := h.1; subst h1; intro l' hl; simp only [List.mem_singleton] at hl; subst hl; exact VL.bd _ h2
    · exact VPs.bd ls h.2 p hp

theorem VPs.lower : (ps : List (Bool × List L)) → {vs : List Value} → VPs I N G w ps vs → (∀ p ∈ ps, ∀ l ∈ p.2, l.bd N') → VPs I N' G w ps vs
  | [], [], _, _ => trivial
  | [], _ :: _, h, _ => h.elim
  | x :: ls, [], h, _ => h.elim
  | (true, xs) :: ls, v :: vs, h, b => by
    refine ⟨?_, VPs.lower ls h.2 fun p hp => b p (List.mem_cons_of_mem _ hp)⟩
    obtain ⟨us, h1, h2⟩ := h.1
    exact ⟨us, h1, h2.lower _ (b (true, xs) (by simp))⟩
  | (false, xs) :: ls, v :: vs, h, b => by
    refine ⟨?_, VPs.lower ls h.2 fun p hp => b p (List.mem_cons_of_mem _ hp)⟩
    obtain ⟨l, rfl, h2⟩ := h.1
    exact ⟨l, rfl, h2.lower _ (b (false, [l]) (by simp) l (by simp))⟩

theorem VA.bd : (x : A) → {v : Value} → VA I N G w x v → x.bd N
  | .l l, _, h => VL.bd l h
  | .a ls, _, ⟨vs, _, h⟩ => VLs.bd ls h
  | .t ps, _, ⟨vs, _, h⟩ => VPs.bd ps h

theorem VA.lower : (x : A) → {v : Value} → VA I N G w x v → x.bd N' → VA I N' G w x v
  | .l l, _, h, b => VL.lower l h b
  | .a ls, _, ⟨vs, e, h⟩, b => ⟨vs, e, h.lower _ b⟩
  | .t ps, _, ⟨vs, e, h⟩, b => ⟨vs, e, h.lower _ b⟩

theorem OR.bd : (o : Ob) → {id : Nat} → OR I N G w id o → o.bd N
  | .own _ _ _ _ _, _, _ => trivial
  | .box ro e cs, _, h => by obtain ⟨b, arr, _, _, h, _⟩ := h; exact h.bd _

theorem OR.lower : (o : Ob) → {id : Nat} → OR I N G w id o → o.bd N' → OR I N' G w id o
  | .own true _ _ _ _, _, h, _ => h
  | .own false _ _ _ _, _, h, _ => h
  | .box ro e cs, _, ⟨b, arr, h1, h2, h3, h4⟩, hb => ⟨b, arr, h1, h2, h3.lower _ hb, h4⟩

/-- The part of a state that a loop keeps: nothing of it is written any more. -/
structure Base (σF σ : Sg) : Prop where
  len : σF.env.length = σ.env.length
  env : ∀ (t : Nat) (x : A), σF.env[t]? = some x → x = .l .unk ∨ (σ.env[t]? = some x ∧ x.bd σF.hp.length)
  ob : ∀ id o, σF.ob id = some o → o.ro = true ∧ σ.ob id = some o ∧ o.bd σF.hp.length

theorem Base.frz {σ1 : Sg} (hb : Base σF σ) (f : Frz σ σ1) : Base σF σ1 :=
  ⟨by rw [f.kp.env]; exact hb.len, fun t x hx => by rw [f.kp.env]; exact hb.env t x hx, fun id o ho => by
    obtain ⟨h1, h2, h3⟩ := hb.ob id o ho; exact ⟨h1, f.kp.ob id o h2 h1, h3⟩⟩

theorem Base.pre (hb : Base σF σ) (h : RelG E G σ a w) : Pre E (Imm E G σ w) (fun _ => False) G σF a w :=
  { h with
    len := h.len.trans hb.len.symm
    env := fun t x hx => by
      rcases hb.env t x hx with rfl | ⟨h1, h2⟩
      · trivial
      · exact (h.env t x h1).lower x h2
    obs := fun id o ho => by
      obtain ⟨_, h1, h2⟩ := hb.ob id o ho
      exact (h.obs id o h1).lower o h2
    nodup := fun id o ho hr => by have := (hb.ob id o ho).1; rw [hr] at this; simp at this
    range := fun id o ho hr => by have := (hb.ob id o ho).1; rw [hr] at this; simp at this
    hrange := fun id o ho hr => by have := (hb.ob id o ho).1; rw [hr] at this; simp at this
    disj := fun id id' o o' ho hr => by have := (hb.ob id o ho).1; rw [hr] at this; simp at this
    acc := fun b hi => ⟨hi.1, hi.2.1⟩ }

theorem putsK_some : (ps : List (Nat × SK)) → {σ : Sg} → (xs : List A) → xs.length = ps.length → ∃ env, (∀ (ρ : Type) (k : Sg → Option ρ), putsK σ ps xs k = k { σ with env := env }) ∧ env.length = σ.env.length ∧
    (∀ t, t ∉ ps.map (·.1) → env[t]? = σ.env[t]?) ∧ ∀ {E : En} {G : Gh} {a : Act} {w : World}, RelG E G σ a w → VAs (Imm E G σ w) σ.hp.length G w xs (ps.map fun p => a.tmps.getD p.1 undef) → RelG E G { σ with env := env } a w
  | [], σ, [], _ => ⟨σ.env, fun _ _ => rfl, rfl, fun _ _ => rfl, fun h _ => h⟩
  | (p, c) :: ps, σ, x :: xs, hl => by
    obtain ⟨env, h1, h2, h3, h4⟩ := putsK_some ps (σ := { σ with env := σ.env.set p x }) xs (by simpa using hl)
    refine ⟨env, fun ρ k => by simp only [putsK, putK, setK_eq]; exact h1 ρ k, by simpa using h2, fun t ht => ?_, fun h hv => h4 (h.refine p hv.1) hv.2⟩
    simp only [List.map_cons, List.mem_cons, not_or] at ht
    rw [h3 t ht.2]
    simp only [List.getElem?_set]
    rw [if_neg (fun e => ht.1 e.symm)]
  | [], _, _ :: _, hl => by simp at hl
  | _ :: _, _, [], hl => by simp at hl

theorem SVs.length {cs : List SK} : {y : SKs.den cs} → {vs : List Value} → {bss : List (List Nat)} → SVs I w cs y vs bss → vs.length = cs.length := by
  induction cs with
  | nil => intro y vs bss h; cases vs with
    | nil => rfl
    | cons _ _ => exact h.elim
  | cons c cs ih =>
    intro y vs bss h
    cases cs with
    | nil => match vs, h with
      | [v], _ => rfl
    | cons c' r => match vs, h with
      | v :: vs, ⟨b1, b2, _, _, h⟩ => simp only [List.length_cons]; rw [ih h]; rfl

theorem VAs.length' {xs : List A} {vs : List Value} (h : VAs I N G w xs vs) : xs.length = vs.length := VAs.length xs h

/-- What a layout leaves alone. -/
structure Lay (slots : List Nat) (σF σL : Sg) : Prop where
  n : σF.hp.length ≤ σL.hp.length
  len : σL.env.length = σF.env.length
  env : ∀ t, t ∉ slots → σL.env[t]? = σF.env[t]?
  ob : ∀ id, id < σF.hp.length → σL.ob id = σF.ob id

theorem relay_core {ps : List (Nat × SK)} {y : SKs.den (ps.map (·.2))} {ids : List Nat} {bss : List (List Nat)} (h : RelG E G σ a w) (hb : Base σF σ) (hm : Mine σ ids) (hc : Cls G ids bss)
    (hs : SVs (Imm E G σ w) w (ps.map (·.2)) y (ps.map fun p => a.tmps.getD p.1 undef) bss) :
    ∃ σL G', (∀ (ρ : Type) (k : Sg → Option ρ), layK σF ps y k = k σL) ∧ RelG E G' σL a w ∧ Lay (ps.map (·.1)) σF σL ∧ Keep (Imm E G σ w) (Imm E G' σL w) σF.hp.length σL.hp.length G G' w w := by
  have hpre := hb.pre h
  have hadm := hc.adm h hm (U := fun _ => False) (fun _ _ _ _ hf => hf)
  obtain ⟨xs, σ1, G1, h1, h2, h3, h4⟩ := encSs_some _ hpre hs hadm
  have hlen : xs.length = ps.length := by rw [h3.length']; simp
  obtain ⟨env, k1, k2, k3, k4⟩ := putsK_some ps (σ := σ1) xs hlen
  refine ⟨_, G1, fun ρ k => by unfold layK; rw [h1]; exact k1 ρ k, k4 h2.rel (h3.keep h2.keep xs), ⟨h4.n, ?_, fun t ht => ?_, fun id hi => h4.ob id hi⟩, ⟨h2.imm, fun _ _ => rfl, h4.n, fun id hi => by rw [h4.g id hi]⟩⟩
  · show env.length = _
    rw [k2, h4.env]
  · show env[t]? = _
    rw [k3 t ht, h4.env]

theorem getsA_VAs (h : RelG E G σ a w) : (ps : List (Nat × SK)) → VAs (Imm E G σ w) σ.hp.length G w (getsA σ ps) (ps.map fun p => a.tmps.getD p.1 undef)
  | [] => trivial
  | p :: ps => ⟨h.get (.tmp p.1), getsA_VAs h ps⟩

/-- From the end of one round to the start of the next. -/
theorem relay {ps : List (Nat × SK)} {K : SKs.den (ps.map (·.2)) → Sg → Option ρ} {r : ρ} (h : RelG E G σ a w) (hb : Base σF σ) (hk : takeSs σ (ps.map (·.2)) (getsA σ ps) K = some r) :
    ∃ y σ2, K y σ2 = some r ∧ ∃ σL G', (∀ (ρ : Type) (k : Sg → Option ρ), layK σF ps y k = k σL) ∧ RelG E G' σL a w ∧ Lay (ps.map (·.1)) σF σL ∧ Keep (Imm E G σ w) (Imm E G' σL w) σF.hp.length σL.hp.length G G' w w := by
  obtain ⟨σ1, y, σ2, new, bss, f, hk, h1, tk, hs⟩ := takeSs_some _ h hk (getsA_VAs h ps)
  obtain ⟨σL, G', q1, q2, q3, q4⟩ := relay_core h1 (hb.frz f) tk.mine tk.cls hs
  exact ⟨y, σ2, hk, σL, G', q1, q2, q3, ⟨fun b hb => q4.imm b (f.keep.imm b hb), fun _ _ => rfl, q4.n, q4.g⟩⟩

/-! Into a loop. -/

def erl (ws : List Nat) : Nat → List A → List A
  | _, [] => []
  | n, a :: r => (if ws.contains n then .l .unk else a) :: erl ws (n + 1) r

theorem eraseK_eq (ws : List Nat) : (l : List A) → (n : Nat) → (k : List A → Option ρ) → eraseK ws n l k = k (erl ws n l)
  | [], _, _ => rfl
  | a :: r, n, k => by simp only [eraseK, erl]; rw [eraseK_eq ws r]

theorem erl_get (ws : List Nat) : (l : List A) → (n t : Nat) → (erl ws n l)[t]? = (l[t]?).map fun x => if ws.contains (n + t) then .l .unk else x
  | [], n, t => by simp [erl]
  | a :: r, n, 0 => by simp [erl]
  | a :: r, n, t + 1 => by
    simp only [erl, List.getElem?_cons_succ]
    rw [erl_get ws r (n + 1) t, show n + 1 + t = n + (t + 1) from by omega]

theorem erl_len (ws : List Nat) : (l : List A) → (n : Nat) → (erl ws n l).length = l.length
  | [], _ => rfl
  | a :: r, n => by simp only [erl, List.length_cons]; rw [erl_len ws r]

def frameS (ws : List Nat) (σ : Sg) : Sg := { env := erl ws 0 σ.env, hp := σ.hp.map (Option.map Ob.freeze) }

theorem frameK_eq (ws : List Nat) (σ : Sg) (k : Sg → Option ρ) : frameK ws σ k = k (frameS ws σ) := by
  simp only [frameK, eraseK_eq, frameS]

theorem frameS_ob (ws : List Nat) (σ : Sg) (id : Nat) : (frameS ws σ).ob id = (σ.ob id).map Ob.freeze := by
  simp only [frameS, Sg.ob, List.getElem?_map]
  cases σ.hp[id]? <;> rfl

theorem frameS_env (ws : List Nat) (σ : Sg) {t : Nat} (ht : t ∉ ws) : (frameS ws σ).env[t]? = σ.env[t]? := by
  simp only [frameS, erl_get, Nat.zero_add]
  have : ws.contains t = false := by simpa using ht
  rw [this]
  cases σ.env[t]? <;> simp

theorem freeze_ro (o : Ob) : o.freeze.ro = true := by cases o <;> rfl
theorem freeze_same {o : Ob} (h : o.ro = true) : o.freeze = o := by
  cases o with
  | own ro _ _ _ _ => simp only [Ob.ro] at h; subst h; rfl
  | box ro _ _ => simp only [Ob.ro] at h; subst h; rfl

/-- All but the given objects are frozen. -/
theorem frzAll (σ : Sg) (ids : List Nat) : (n : Nat) → ∃ σ', Frz σ σ' ∧ ∀ id, σ'.ob id = if id < n ∧ id ∉ ids then (σ.ob id).map Ob.freeze else σ.ob id
  | 0 => ⟨σ, .refl _, fun id => by simp⟩
  | n + 1 => by
    obtain ⟨σ', f, h⟩ := frzAll σ ids n
    by_cases hn : n ∈ ids
    · refine ⟨σ', f, fun id => ?_⟩
      rw [h id]
      by_cases hid : id = n
      · subst hid; simp [hn]
      · have : (id < n + 1 ∧ id ∉ ids) ↔ (id < n ∧ id ∉ ids) := by constructor <;> (rintro ⟨h1, h2⟩; exact ⟨by omega, h2⟩)
        simp only [this]
    · refine ⟨freezeL σ' (.ref n), .step _ f, fun id => ?_⟩
      have hn' : σ'.ob n = σ.ob n := by rw [h n]; simp
      have key : ∀ id, (freezeL σ' (.ref n)).ob id = if id = n then (σ.ob n).map Ob.freeze else σ'.ob id := fun id => by
        simp only [freezeL, hn']
        cases ho : σ.ob n with
        | none =>
          simp only
          by_cases hid : id = n
          · subst hid; rw [hn', ho]; simp
          · simp [hid]
        | some o =>
          simp only
          rw [ob_setHp]
          have := Sg.ob_lt (hn'.trans ho)
          by_cases hid : id = n <;> simp [hid, this]
      rw [key id]
      by_cases hid : id = n
      · subst hid; simp [hn]
      · rw [if_neg hid, h id]
        have : (id < n + 1 ∧ id ∉ ids) ↔ (id < n ∧ id ∉ ids) := by constructor <;> (rintro ⟨h1, h2⟩; exact ⟨by omega, h2⟩)
        simp only [this]

theorem enter_loop {ps : List (Nat × SK)} {K : SKs.den (ps.map (·.2)) → Sg → Option ρ} {r : ρ} (ws : List Nat) (h : RelG E G σ a w) (hk : (takeSs σ (ps.map (·.2)) (getsA σ ps) fun s σ => frameK ws σ (K s)) = some r) :
    ∃ y σF, K y σF = some r ∧ σF.hp.length = σ.hp.length ∧ σF.env.length = σ.env.length ∧ (∀ t, t ∈ ws → ∀ x : A, σF.env[t]? = some x → x = .l .unk) ∧ (∀ t, t ∉ ws → σF.env[t]? = σ.env[t]?) ∧
      (∀ (t : Nat) (x : A), σF.env[t]? = some x → x.bd σF.hp.length) ∧ (∀ id o, σF.ob id = some o → o.ro = true ∧ o.bd σF.hp.length) ∧ (∀ id o, σ.ob id = some o → o.ro = true → σF.ob id = some o) ∧
      ∃ σL G', (∀ (ρ : Type) (k : Sg → Option ρ), layK σF ps y k = k σL) ∧ RelG E G' σL a w ∧ Lay (ps.map (·.1)) σF σL ∧ Keep (Imm E G σ w) (Imm E G' σL w) σF.hp.length σL.hp.length G G' w w := by
  obtain ⟨σ1, y, σ2, new, bss, f, hk, h1, tk, hs⟩ := takeSs_some _ h hk (getsA_VAs h ps)
  rw [frameK_eq] at hk
  have hg := tk.gone
  rw [List.nil_append] at hg
  obtain ⟨σ3, f3, h3⟩ := frzAll σ1 new σ1.hp.length
  have hr3 := f3.rel h1
  have hlen : (frameS ws σ2).hp.length = σ1.hp.length := by simp [frameS, hg.len]
  have hob : ∀ id o, (frameS ws σ2).ob id = some o → o.ro = true ∧ σ3.ob id = some o := fun id o ho => by
    rw [frameS_ob] at ho
    cases h2 : σ2.ob id with
    | none => rw [h2] at ho; simp at ho
    | some o2 =>
      rw [h2] at ho
      simp only [Option.map_some, Option.some.injEq] at ho
      subst ho
      obtain ⟨hni, ho1⟩ := hg.sub h2
      refine ⟨freeze_ro _, ?_⟩
      rw [h3 id, if_pos ⟨Sg.ob_lt ho1, hni⟩, ho1]; rfl
  have henv : ∀ t, t ∉ ws → (frameS ws σ2).env[t]? = σ.env[t]? := fun t ht => by rw [frameS_env ws σ2 ht, hg.env, f.kp.env]
  have herase : ∀ t, t ∈ ws → ∀ x : A, (frameS ws σ2).env[t]? = some x → x = .l .unk := fun t ht x hx => by
    simp only [frameS, erl_get, Nat.zero_add] at hx
    have hc : ws.contains t = true := by simpa using ht
    rw [hc] at hx
    cases hq : σ2.env[t]? with
    | none => rw [hq] at hx; simp at hx
    | some q => rw [hq] at hx; simpa using hx.symm
  have hlenF : σ1.hp.length = σ.hp.length := f.len
  have hbd : ∀ (t : Nat) (x : A), (frameS ws σ2).env[t]? = some x → x.bd (frameS ws σ2).hp.length := fun t x hx => by
    by_cases ht : t ∈ ws
    · rw [herase t ht x hx]; trivial
    · rw [henv t ht] at hx
      rw [hlen, hlenF]
      exact (h.env t x hx).bd x
  have hbase : Base (frameS ws σ2) σ3 := by
    refine ⟨by rw [f3.kp.env, f.kp.env]; simp only [frameS, erl_len]; rw [hg.env, f.kp.env], fun t x hx => ?_, fun id o ho => ?_⟩
    · by_cases ht : t ∈ ws
      · exact .inl (herase t ht x hx)
      · refine .inr ⟨?_, hbd t x hx⟩
        rw [henv t ht] at hx
        rw [f3.kp.env, f.kp.env]; exact hx
    · obtain ⟨k1, k2⟩ := hob id o ho
      refine ⟨k1, k2, ?_⟩
      rw [hlen, ← f3.len]
      exact (hr3.obs id o k2).bd o
  have hm3 : Mine σ3 new := fun i hi => by
    obtain ⟨o, ho, hr⟩ := tk.mine i hi
    refine ⟨o, ?_, hr⟩
    rw [h3 i, if_neg (fun hc => hc.2 hi)]; exact ho
  have hs3 := SVs.cast (I' := Imm E G σ3 w) _ (fun _ b hb => (f3.keep (E := E) (G := G) (w := w)).imm b hb) hs
  obtain ⟨σL, G', q1, q2, q3, q4⟩ := relay_core hr3 hbase hm3 tk.cls hs3
  refine ⟨y, _, hk, by rw [hlen, hlenF], ?_, herase, henv, hbd, fun id o ho => ⟨(hob id o ho).1, (hbase.ob id o ho).2.2⟩, fun id o ho hr => ?_, σL, G', q1, q2, q3, ⟨fun b hb => q4.imm b (f3.keep.imm b (f.keep.imm b hb)), fun _ _ => rfl, q4.n, q4.g⟩⟩
  · simp only [frameS, erl_len]; rw [hg.env, f.kp.env]
  · rw [frameS_ob, tk.kp.ob id o (f.kp.ob id o ho hr) hr]
    simp [freeze_same hr]

end
end Go.Proofs.Ytajlabmnpimeeaa.Eng
