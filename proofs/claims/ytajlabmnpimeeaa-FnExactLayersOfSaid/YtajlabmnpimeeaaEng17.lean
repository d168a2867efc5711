/-
  The engine, part 17. Laying values out: what a loop keeps, what a call hands back, what a function is given. No condition.
-/
import Derived.Test.YtajlabmnpimeeaaEng16
namespace Go.Proofs.Ytajlabmnpimeeaa.Eng
open Go
set_option linter.unusedVariables false
set_option linter.unusedSimpArgs false

/-- As 'RelG', with the unchanging blocks given ('I') and the blocks claimed so far ('U'). -/
structure Pre (E : En) (I U : Nat → Prop) (G : Gh) (σ : Sg) (a : Act) (w : World) : Prop where
  defers : a.defers = []
  len : a.tmps.size = σ.env.length
  env : ∀ (t : Nat) (x : A), σ.env[t]? = some x → VA I σ.hp.length G w x (a.tmps.getD t undef)
  obs : ∀ (id : Nat) (o : Ob), σ.ob id = some o → OR I σ.hp.length G w id o
  nodup : ∀ (id : Nat) (o : Ob), σ.ob id = some o → o.ro = false → (G id).2.Nodup
  range : ∀ (id : Nat) (o : Ob), σ.ob id = some o → o.ro = false → ∀ b ∈ (G id).2, b < w.heap.size ∧ (b < E.B → E.X b) ∧ U b
  hrange : ∀ (id : Nat) (o : Ob), σ.ob id = some o → o.ro = false → ∀ b, (G id).2.head? = some b → (b < E.B → E.H b) ∧ ¬ I b
  disj : ∀ (id id' : Nat) (o o' : Ob), σ.ob id = some o → o.ro = false → σ.ob id' = some o' → o'.ro = false → id ≠ id' → ∀ b ∈ (G id).2, b ∉ (G id').2
  os : w.os = E.w0.os
  tape : w.tape = E.w0.tape
  output : w.output = E.w0.output
  size : E.B ≤ w.heap.size
  frame : ∀ b, b < E.B → ¬ E.H b → w.heap[b]? = E.w0.heap[b]?
  xa : ∀ b, E.X b → E.A b
  fixd : ∀ t, E.F t → a.tmps.getD t undef = E.V t
  acc : ∀ b, I b → b < w.heap.size ∧ (b < E.B → E.A b)

section
variable {ρ : Type} {C : Ctx} {E : En} {G : Gh} {σ : Sg} {a : Act} {w : World} {I U : Nat → Prop}

theorem Pre.imm (h : Pre E I U G σ a w) (b : Nat) (hb : I b) : Imm E G σ w b :=
  ⟨(h.acc b hb).1, (h.acc b hb).2, fun id o ho hr hh => (h.hrange id o ho hr b hh).2 hb⟩

theorem Pre.keep (h : Pre E I U G σ a w) : Keep I (Imm E G σ w) σ.hp.length σ.hp.length G G w w :=
  ⟨h.imm, fun _ _ => rfl, Nat.le_refl _, fun _ _ => rfl⟩

theorem Pre.rel (h : Pre E I U G σ a w) : RelG E G σ a w :=
  { defers := h.defers
    len := h.len
    env := fun t x hx => (h.env t x hx).keep h.keep x
    obs := fun id o ho => (h.obs id o ho).keep h.keep (Sg.ob_lt ho) rfl o fun _ _ _ => rfl
    nodup := h.nodup
    range := fun id o ho hr b hb => ⟨(h.range id o ho hr b hb).1, (h.range id o ho hr b hb).2.1⟩
    hrange := fun id o ho hr b hb => (h.hrange id o ho hr b hb).1
    disj := h.disj
    os := h.os
    tape := h.tape
    output := h.output
    size := h.size
    frame := h.frame
    xa := h.xa
    fixd := h.fixd }

theorem RelG.pre (h : RelG E G σ a w) : Pre E (Imm E G σ w) (fun b => ∃ id o, σ.ob id = some o ∧ o.ro = false ∧ b ∈ (G id).2) G σ a w :=
  { h with
    range := fun id o ho hr b hb => ⟨(h.range id o ho hr b hb).1, (h.range id o ho hr b hb).2, id, o, ho, hr, hb⟩
    hrange := fun id o ho hr b hb => ⟨h.hrange id o ho hr b hb, fun hi => hi.2.2 id o ho hr hb⟩
    acc := fun b hb => ⟨hb.1, hb.2.1⟩ }

/-- Claims that may be added. -/
structure Adm (E : En) (I U : Nat → Prop) (w : World) (bss : List (List Nat)) : Prop where
  nodup : bss.flatten.Nodup
  range : ∀ b ∈ bss.flatten, b < w.heap.size ∧ (b < E.B → E.X b) ∧ ¬ U b
  head : ∀ bs ∈ bss, ∀ b, bs.head? = some b → (b < E.B → E.H b) ∧ ¬ I b

theorem Adm.left {b1 b2 : List (List Nat)} (h : Adm E I U w (b1 ++ b2)) : Adm E I U w b1 :=
  ⟨by have := h.nodup; rw [List.flatten_append, List.nodup_append] at this; exact this.1,
   fun b hb => h.range b (by rw [List.flatten_append]; exact List.mem_append_left _ hb), fun bs hb => h.head bs (List.mem_append_left _ hb)⟩

theorem Adm.right {b1 b2 : List (List Nat)} (h : Adm E I U w (b1 ++ b2)) : Adm E I (fun b => U b ∨ b ∈ b1.flatten) w b2 := by
  have hn := h.nodup
  rw [List.flatten_append, List.nodup_append] at hn
  refine ⟨hn.2.1, fun b hb => ?_, fun bs hb => h.head bs (List.mem_append_right _ hb)⟩
  obtain ⟨h1, h2, h3⟩ := h.range b (by rw [List.flatten_append]; exact List.mem_append_right _ hb)
  exact ⟨h1, h2, fun hu => hu.elim h3 fun hm => hn.2.2 b hm b hb rfl⟩

theorem Adm.single {bs : List Nat} {r : List (List Nat)} (h : Adm E I U w (bs :: r)) : Adm E I U w [bs] := Adm.left (b2 := r) h
theorem Adm.tail {bs : List Nat} {r : List (List Nat)} (h : Adm E I U w (bs :: r)) : Adm E I (fun b => U b ∨ b ∈ bs) w r := by
  have := Adm.right (b1 := [bs]) (b2 := r) h
  simpa using this

theorem Pre.wide {U' : Nat → Prop} (h : Pre E I U G σ a w) (hU : ∀ b, U b → U' b) : Pre E I U' G σ a w :=
  { h with range := fun id o ho hr b hb => ⟨(h.range id o ho hr b hb).1, (h.range id o ho hr b hb).2.1, hU b (h.range id o ho hr b hb).2.2⟩ }

/-- What stays from step to step of a layout. -/
structure Grow (σ σ' : Sg) (G G' : Gh) : Prop where
  env : σ'.env = σ.env
  n : σ.hp.length ≤ σ'.hp.length
  ob : ∀ id, id < σ.hp.length → σ'.ob id = σ.ob id
  g : ∀ id, id < σ.hp.length → G' id = G id

theorem Grow.refl (σ : Sg) (G : Gh) : Grow σ σ G G := ⟨rfl, Nat.le_refl _, fun _ _ => rfl, fun _ _ => rfl⟩
theorem Grow.trans {σ1 σ2 σ3 : Sg} {G1 G2 G3 : Gh} (h : Grow σ1 σ2 G1 G2) (k : Grow σ2 σ3 G2 G3) : Grow σ1 σ3 G1 G3 :=
  ⟨k.env.trans h.env, Nat.le_trans h.n k.n, fun id hi => (k.ob id (Nat.lt_of_lt_of_le hi h.n)).trans (h.ob id hi), fun id hi => (k.g id (Nat.lt_of_lt_of_le hi h.n)).trans (h.g id hi)⟩

theorem Grow.keep {σ σ' : Sg} {G G' : Gh} (h : Grow σ σ' G G') : Keep I I σ.hp.length σ'.hp.length G G' w w :=
  ⟨fun _ hb => hb, fun _ _ => rfl, h.n, fun id hi => by rw [h.g id hi]⟩

theorem Grow.kp {σ σ' : Sg} {G G' : Gh} (h : Grow σ σ' G G') : Kp σ σ' :=
  ⟨h.env, h.n, fun id o ho _ => by rw [h.ob id (Sg.ob_lt ho)]; exact ho⟩

/-- An object is put: a new one, or one in the place of one that was given up. -/
theorem Pre.put (h : Pre E I U G σ a w) {σ' : Sg} (n : Nat) (o : Ob) (v : Value) (bs : List Nat) (hro : o.ro = false) (ha : Adm E I U w [bs])
    (hn : n = σ.hp.length ∨ (n < σ.hp.length ∧ σ.ob n = none ∧ (G n).1 = v)) (henv : σ'.env = σ.env) (hlen : σ.hp.length ≤ σ'.hp.length)
    (hσ : ∀ i, σ'.ob i = if i = n then some o else σ.ob i)
    (hor : ∀ G' : Gh, (∀ i, i < σ.hp.length → (G' i).1 = (G i).1) → G' n = (v, bs) → OR I σ'.hp.length G' w n o) :
    ∃ G', Pre E I (fun b => U b ∨ b ∈ bs) G' σ' a w ∧ G' n = (v, bs) ∧ (∀ i, i ≠ n → G' i = G i) ∧ ∀ i, i < σ.hp.length → (G' i).1 = (G i).1 := by
  let G' : Gh := fun i => if i = n then (v, bs) else G i
  have hGn : G' n = (v, bs) := by simp [G']
  have hGo : ∀ i, i ≠ n → G' i = G i := fun i hi => by simp [G', hi]
  have hG1 : ∀ i, i < σ.hp.length → (G' i).1 = (G i).1 := fun i hi => by
    by_cases hin : i = n
    · subst hin
      rw [hGn]
      rcases hn with hn | hn
      · omega
      · exact hn.2.2.symm
    · rw [hGo i hin]
  have hold : ∀ i o', σ'.ob i = some o' → i ≠ n → σ.ob i = some o' := fun i o' ho' hi => by rw [hσ i, if_neg hi] at ho'; exact ho'
  have hnew : ∀ o', σ'.ob n = some o' → o' = o := fun o' ho' => by rw [hσ n, if_pos rfl] at ho'; exact (Option.some.inj ho').symm
  have hk : Keep I I σ.hp.length σ'.hp.length G G' w w := ⟨fun _ hb => hb, fun _ _ => rfl, hlen, hG1⟩
  have hf : [bs].flatten = bs := by simp
  have hanod := ha.nodup
  have harng := ha.range
  rw [hf] at hanod harng
  refine ⟨G', { h with
      len := by rw [henv]; exact h.len
      env := fun t x hx => by rw [henv] at hx; exact (h.env t x hx).keep hk x
      obs := fun i o' ho' => ?_
      nodup := fun i o' ho' hr => ?_
      range := fun i o' ho' hr b hb => ?_
      hrange := fun i o' ho' hr b hb => ?_
      disj := fun i j o1 o2 h1 hr1 h2 hr2 hij b hb => ?_ }, hGn, hGo, hG1⟩
  · by_cases hin : i = n
    · subst hin
      rw [hnew o' ho']
      exact hor G' hG1 hGn
    · have := hold i o' ho' hin
      exact (h.obs i o' this).keep hk (Sg.ob_lt this) (hGo i hin) o' fun _ _ _ => rfl
  · by_cases hin : i = n
    · subst hin; rw [hGn]; exact hanod
    · rw [hGo i hin]; exact h.nodup i o' (hold i o' ho' hin) hr
  · by_cases hin : i = n
    · subst hin; rw [hGn] at hb
      obtain ⟨h1, h2, _⟩ := harng b hb
      exact ⟨h1, h2, .inr hb⟩
    · rw [hGo i hin] at hb
      obtain ⟨h1, h2, h3⟩ := h.range i o' (hold i o' ho' hin) hr b hb
      exact ⟨h1, h2, .inl h3⟩
  · by_cases hin : i = n
    · subst hin; rw [hGn] at hb; exact ha.head bs (by simp) b hb
    · rw [hGo i hin] at hb; exact h.hrange i o' (hold i o' ho' hin) hr b hb
  · have key : ∀ (j : Nat) (o2 : Ob), σ'.ob j = some o2 → o2.ro = false → j ≠ n → ∀ b ∈ bs, b ∉ (G j).2 := fun j o2 h2 hr2 hj b hb hbj =>
      (harng b hb).2.2 (h.range j o2 (hold j o2 h2 hj) hr2 b hbj).2.2
    by_cases hin : i = n
    · have hjn : j ≠ n := fun e => hij (hin.trans e.symm)
      rw [hGo j hjn]
      rw [hin, hGn] at hb
      exact key j o2 h2 hr2 hjn b hb
    · rw [hGo i hin] at hb
      by_cases hjn : j = n
      · rw [hjn, hGn]; exact fun hb' => key i o1 h1 hr1 hin b hb' hb
      · rw [hGo j hjn]; exact h.disj i j o1 o2 (hold i o1 h1 hin) hr1 (hold j o2 h2 hjn) hr2 hij b hb

theorem Pre.add (h : Pre E I U G σ a w) (o : Ob) (v : Value) (bs : List Nat) (hro : o.ro = false) (ha : Adm E I U w [bs])
    (hor : ∀ G' : Gh, (∀ i, i < σ.hp.length → (G' i).1 = (G i).1) → G' σ.hp.length = (v, bs) → OR I (σ.hp.length + 1) G' w σ.hp.length o) :
    ∃ G', Pre E I (fun b => U b ∨ b ∈ bs) G' (addHp σ o) a w ∧ G' σ.hp.length = (v, bs) ∧ Grow σ (addHp σ o) G G' := by
  obtain ⟨G', h1, h2, h3, h4⟩ := h.put (σ' := addHp σ o) σ.hp.length o v bs hro ha (.inl rfl) rfl (by simp) (fun i => ob_addHp σ i o) (fun G' hG hn => by rw [addHp_len]; exact hor G' hG hn)
  exact ⟨G', h1, h2, rfl, by simp, fun i hi => by rw [ob_addHp, if_neg (by omega)], fun i hi => h3 i (by omega)⟩

/-- How one kept value reads. -/
def LV (I : Nat → Prop) (w : World) : (c : LK) → c.den → Value → List Nat → Prop
  | .d nn t, y, v, bs => RdV I w t y v ∧ (nn = true → nnP t y v) ∧ bs = []
  | .o dp e t, y, v, bs => OwnV I w dp e t y v bs

def LVs (I : Nat → Prop) (w : World) : (cs : List LK) → LKs.den cs → List Value → List (List Nat) → Prop
  | [], _, [], bss => bss = []
  | [c], y, [v], bss => ∃ bs, bss = [bs] ∧ LV I w c y v bs ∧ v.oneCell' = true
  | c :: c' :: r, y, v :: vs, bss => ∃ bs rest, bss = bs :: rest ∧ (LV I w c y.1 v bs ∧ v.oneCell' = true) ∧ LVs I w (c' :: r) y.2 vs rest
  | _, _, _, _ => False

def SV (I : Nat → Prop) (w : World) : (c : SK) → c.den → Value → List (List Nat) → Prop
  | .l c, y, v, bss => ∃ bs, bss = [bs] ∧ LV I w c y v bs
  | .a cs, y, v, bss => ∃ vs : List Value, v = .agg vs.toArray ∧ LVs I w cs y vs bss
  | .b e cs, y, v, bss => ∃ (b : Nat) (arr : Array Value) (rest : List (List Nat)), v = .pointer (some ⟨b, 0, none⟩) ∧ w.heap[b]? = some (.cells arr e (0, 0)) ∧ LVs I w cs y arr.toList rest ∧ bss = rest ++ [[b]]

def SVs (I : Nat → Prop) (w : World) : (cs : List SK) → SKs.den cs → List Value → List (List Nat) → Prop
  | [], _, [], bss => bss = []
  | [c], y, [v], bss => SV I w c y v bss
  | c :: c' :: r, y, v :: vs, bss => ∃ b1 b2, bss = b1 ++ b2 ∧ SV I w c y.1 v b1 ∧ SVs I w (c' :: r) y.2 vs b2
  | _, _, _, _ => False

theorem OwnV.one {dp : Bool} {e : TypeId} {t : Ty} {x : List t.den} {v : Value} {bs : List Nat} (h : OwnV I w dp e t x v bs) : v.oneCell' = true := by
  obtain ⟨_, cells, bss, ho, _⟩ := h
  rcases ho.2 with ⟨hv, _⟩ | ⟨g, cap, cur, hv, _⟩ <;> (rw [hv]; rfl)

theorem encL_some (h : Pre E I U G σ a w) : (c : LK) → {y : c.den} → {v : Value} → {bs : List Nat} → LV I w c y v bs → Adm E I U w [bs] →
    ∃ l σ' G', (∀ (ρ : Type) (k : L → Sg → Option ρ), encL σ c y k = k l σ') ∧ Pre E I (fun b => U b ∨ b ∈ bs) G' σ' a w ∧ VL I σ'.hp.length G' w l v ∧ Grow σ σ' G G'
  | .d nn t, y, v, bs, hv, ha => ⟨.dat nn t y, σ, G, fun _ _ => rfl, h.wide fun _ hb => .inl hb, ⟨hv.1, hv.2.1⟩, Grow.refl _ _⟩
  | .o dp e t, y, v, bs, hv, ha => by
    simp only [LV] at hv
    obtain ⟨G', h1, h2, h3⟩ := h.add (.own false dp e t y) v bs rfl ha (fun G' _ hn => by simp only [OR, hn]; exact hv)
    exact ⟨.ref σ.hp.length, _, G', fun _ _ => rfl, h1, ⟨by simp, by rw [h2], hv.one⟩, h3⟩

theorem encLs_some : (cs : List LK) → {σ : Sg} → {G : Gh} → {U : Nat → Prop} → Pre E I U G σ a w → {y : LKs.den cs} → {vs : List Value} → {bss : List (List Nat)} → LVs I w cs y vs bss → Adm E I U w bss →
    ∃ ls σ' G', (∀ (ρ : Type) (k : List L → Sg → Option ρ), encLs σ cs y k = k ls σ') ∧ Pre E I (fun b => U b ∨ b ∈ bss.flatten) G' σ' a w ∧ VLs I σ'.hp.length G' w ls vs ∧ Grow σ σ' G G'
  | [], σ, G, U, h, y, [], bss, hv, ha => ⟨[], σ, G, fun _ _ => rfl, h.wide fun _ hb => .inl hb, trivial, Grow.refl _ _⟩
  | [c], σ, G, U, h, y, [v], bss, hv, ha => by
    obtain ⟨bs, rfl, hv, h1⟩ := hv
    obtain ⟨l, σ', G', h2, h3, h4, h5⟩ := encL_some h c hv ha
    exact ⟨[l], σ', G', fun ρ k => by simp only [encLs]; exact h2 ρ _, h3.wide fun b hb => hb.imp (fun h => h) fun h => by simpa using h, ⟨⟨h4, h1⟩, trivial⟩, h5⟩
  | c :: c' :: r, σ, G, U, h, y, v :: vs, bss, hv, ha => by
    obtain ⟨bs, rest, rfl, ⟨hv, h1⟩, hvs⟩ := hv
    obtain ⟨l, σ', G', h2, h3, h4, h5⟩ := encL_some h c hv ha.single
    obtain ⟨ls, σ2, G2, k2, k3, k4, k5⟩ := encLs_some (c' :: r) h3 hvs ha.tail
    refine ⟨l :: ls, σ2, G2, fun ρ k => by simp only [encLs]; rw [h2, k2], k3.wide fun b hb => ?_, ⟨⟨h4.keep k5.keep l, h1⟩, k4⟩, h5.trans k5⟩
    rw [List.flatten_cons, List.mem_append]
    rcases hb with (hb | hb) | hb
    · exact .inl hb
    · exact .inr (.inl hb)
    · exact .inr (.inr hb)
  | [], _, _, _, _, _, _ :: _, _, hv, _ => hv.elim
  | [_], _, _, _, _, _, [], _, hv, _ => hv.elim
  | [_], _, _, _, _, _, _ :: _ :: _, _, hv, _ => hv.elim
  | _ :: _ :: _, _, _, _, _, _, [], _, hv, _ => hv.elim

theorem encS_some (h : Pre E I U G σ a w) : (c : SK) → {y : c.den} → {v : Value} → {bss : List (List Nat)} → SV I w c y v bss → Adm E I U w bss →
    ∃ x σ' G', (∀ (ρ : Type) (k : A → Sg → Option ρ), encS σ c y k = k x σ') ∧ Pre E I (fun b => U b ∨ b ∈ bss.flatten) G' σ' a w ∧ VA I σ'.hp.length G' w x v ∧ Grow σ σ' G G'
  | .l c, y, v, bss, hv, ha => by
    obtain ⟨bs, rfl, hv⟩ := hv
    obtain ⟨l, σ', G', h2, h3, h4, h5⟩ := encL_some h c hv ha
    exact ⟨.l l, σ', G', fun ρ k => by simp only [encS]; exact h2 ρ _, h3.wide fun b hb => hb.imp (fun h => h) fun h => by simpa using h, h4, h5⟩
  | .a cs, y, v, bss, hv, ha => by
    obtain ⟨vs, rfl, hv⟩ := hv
    obtain ⟨ls, σ', G', h2, h3, h4, h5⟩ := encLs_some cs h hv ha
    exact ⟨.a ls, σ', G', fun ρ k => by simp only [encS]; exact h2 ρ _, h3, ⟨vs, rfl, h4⟩, h5⟩
  | .b e cs, y, v, bss, hv, ha => by
    obtain ⟨b, arr, rest, rfl, hh, hv, rfl⟩ := hv
    obtain ⟨ls, σ', G', h2, h3, h4, h5⟩ := encLs_some cs h hv ha.left
    obtain ⟨G2, k1, k2, k3⟩ := h3.add (.box false e ls) (.pointer (some ⟨b, 0, none⟩)) [b] rfl ha.right (fun G2 hG hn => by
      simp only [OR, hn, Bool.false_eq_true, if_false]
      exact ⟨b, arr, rfl, hh, h4.keep ⟨fun _ hb => hb, fun _ _ => rfl, Nat.le_succ _, hG⟩ ls, rfl⟩)
    refine ⟨.l (.bptr σ'.hp.length 0), _, G2, fun ρ k => by simp only [encS]; rw [h2], k1.wide fun c hc => ?_, ⟨by simp, b, by rw [k2], rfl⟩, h5.trans k3⟩
    rw [List.flatten_append, List.mem_append]
    rcases hc with (hc | hc) | hc
    · exact .inl hc
    · exact .inr (.inl hc)
    · exact .inr (.inr (by simpa using hc))

theorem encSs_some : (cs : List SK) → {σ : Sg} → {G : Gh} → {U : Nat → Prop} → Pre E I U G σ a w → {y : SKs.den cs} → {vs : List Value} → {bss : List (List Nat)} → SVs I w cs y vs bss → Adm E I U w bss →
    ∃ xs σ' G', (∀ (ρ : Type) (k : List A → Sg → Option ρ), encSs σ cs y k = k xs σ') ∧ Pre E I (fun b => U b ∨ b ∈ bss.flatten) G' σ' a w ∧ VAs I σ'.hp.length G' w xs vs ∧ Grow σ σ' G G'
  | [], σ, G, U, h, y, [], bss, hv, ha => ⟨[], σ, G, fun _ _ => rfl, h.wide fun _ hb => .inl hb, trivial, Grow.refl _ _⟩
  | [c], σ, G, U, h, y, [v], bss, hv, ha => by
    simp only [SVs] at hv
    obtain ⟨x, σ', G', h2, h3, h4, h5⟩ := encS_some h c hv ha
    exact ⟨[x], σ', G', fun ρ k => by simp only [encSs]; exact h2 ρ _, h3, ⟨h4, trivial⟩, h5⟩
  | c :: c' :: r, σ, G, U, h, y, v :: vs, bss, hv, ha => by
    obtain ⟨b1, b2, rfl, hv, hvs⟩ := hv
    obtain ⟨x, σ', G', h2, h3, h4, h5⟩ := encS_some h c hv ha.left
    obtain ⟨xs, σ2, G2, k2, k3, k4, k5⟩ := encSs_some (c' :: r) h3 hvs ha.right
    refine ⟨x :: xs, σ2, G2, fun ρ k => by simp only [encSs]; rw [h2, k2], k3.wide fun b hb => ?_, ⟨h4.keep k5.keep x, k4⟩, h5.trans k5⟩
    rw [List.flatten_append, List.mem_append]
    rcases hb with (hb | hb) | hb
    · exact .inl hb
    · exact .inr (.inl hb)
    · exact .inr (.inr hb)
  | [], _, _, _, _, _, _ :: _, _, hv, _ => hv.elim
  | [_], _, _, _, _, _, [], _, hv, _ => hv.elim
  | [_], _, _, _, _, _, _ :: _ :: _, _, hv, _ => hv.elim
  | _ :: _ :: _, _, _, _, _, _, [], _, hv, _ => hv.elim

end
end Go.Proofs.Ytajlabmnpimeeaa.Eng
