/-
  The engine, part 28. Regions whose order is drawn: states. No condition.
-/
import Derived.Test.YtajlabmnpimeeaaEng27
namespace Go.Proofs.Ytajlabmnpimeeaa.Eng
open Go
set_option linter.unusedVariables false
set_option linter.unusedSimpArgs false

theorem mergeS_len (σ' : Sg) (ids : List Nat) : (σ : Sg) → (mergeS σ σ' ids).hp.length = σ.hp.length := by
  induction ids with
  | nil => intro σ; rfl
  | cons i ids ih => intro σ; show (mergeS (setHp σ i (σ'.ob i)) σ' ids).hp.length = _; rw [ih]; simp

theorem mergeS_env (σ' : Sg) (ids : List Nat) : (σ : Sg) → (mergeS σ σ' ids).env = σ.env := by
  induction ids with
  | nil => intro σ; rfl
  | cons i ids ih => intro σ; show (mergeS (setHp σ i (σ'.ob i)) σ' ids).env = _; rw [ih]; rfl

theorem mergeS_ob (σ' : Sg) (ids : List Nat) (id : Nat) : (σ : Sg) → (mergeS σ σ' ids).ob id = if id ∈ ids ∧ id < σ.hp.length then σ'.ob id else σ.ob id := by
  induction ids with
  | nil => intro σ; simp [mergeS]
  | cons i ids ih =>
    intro σ
    show (mergeS (setHp σ i (σ'.ob i)) σ' ids).ob id = _
    rw [ih, setHp_len, ob_setHp]
    by_cases h1 : id = i
    · subst h1
      by_cases h2 : id < σ.hp.length <;> simp [h2]
    · by_cases h2 : id ∈ ids <;> simp [h1, h2]

/-- Values that say the same. -/
def Eqv (x y : A) : Prop := (∀ (I : Nat → Prop) (N : Nat) (G : Gh) (w : World) (v : Value), VA I N G w x v ↔ VA I N G w y v) ∧ x.refs = y.refs

theorem Eqv.refl (x : A) : Eqv x x := ⟨fun _ _ _ _ _ => Iff.rfl, rfl⟩
theorem Eqv.symm {x y : A} (h : Eqv x y) : Eqv y x := ⟨fun I N G w v => (h.1 I N G w v).symm, h.2.symm⟩
theorem Eqv.trans {x y z : A} (h : Eqv x y) (k : Eqv y z) : Eqv x z := ⟨fun I N G w v => (h.1 I N G w v).trans (k.1 I N G w v), h.2.trans k.2⟩
theorem Eqv.bool (nn nn' b : Bool) : Eqv (.l (.dat nn .bool b)) (.l (.dat nn' .bool b)) := ⟨fun _ _ _ _ _ => ⟨fun h => ⟨h.1, fun _ => trivial⟩, fun h => ⟨h.1, fun _ => trivial⟩⟩, rfl⟩

/-- One operation of a drawn region: what it gives, in any order. -/
structure Ent where
  i : Nat
  dst : Option Nat
  v : A
  st : Sg
  ins : List Nat
  an : List Nat

section
variable {base k : Nat} {ds : List Nat} {es : List Ent} {S : Nat → Prop} {σ0 σ : Sg}

def seg (base k i id : Nat) : Prop := base + i * k ≤ id ∧ id < base + (i + 1) * k

theorem seg_div {i id : Nat} (hk : 0 < k) (h : seg base k i id) : base ≤ id ∧ (id - base) / k = i := by
  unfold seg at h
  have e : (i + 1) * k = i * k + k := by rw [Nat.add_mul, Nat.one_mul]
  refine ⟨by omega, ?_⟩
  rw [Nat.div_eq_iff hk]
  have : i * k = k * i := Nat.mul_comm i k
  constructor
  · omega
  · have := h.2; rw [e] at this; omega

theorem div_seg {i id : Nat} (hk : 0 < k) (h : base ≤ id) (h2 : (id - base) / k = i) : seg base k i id := by
  have h3 := Nat.div_add_mod (id - base) k
  have h4 := Nat.mod_lt (id - base) hk
  rw [h2] at h3
  unfold seg
  rw [Nat.add_mul, Nat.one_mul, Nat.mul_comm i k]
  omega

/-- The state once the operations of 'S' are done. -/
structure StS (base k : Nat) (ds : List Nat) (es : List Ent) (S : Nat → Prop) (σ0 σ : Sg) : Prop where
  n : σ.hp.length = σ0.hp.length
  len : σ.env.length = σ0.env.length
  env0 : ∀ t, t ∉ ds → σ.env[t]? = σ0.env[t]?
  envS : ∀ e ∈ es, S e.i → ∀ (t : Nat) (y : A), e.dst = some t → σ.env[t]? = some y → Eqv y e.v
  envU : ∀ t, t ∈ ds → (∀ e ∈ es, S e.i → e.dst ≠ some t) → σ.env[t]? = σ0.env[t]?
  ob0 : ∀ id, id < base → σ.ob id = σ0.ob id
  obI : ∀ e ∈ es, S e.i → ∀ id ∈ e.ins, σ.ob id = e.st.ob id
  obS : ∀ e ∈ es, S e.i → ∀ id, seg base k e.i id → (∀ e' ∈ es, S e'.i → id ∉ e'.ins) → σ.ob id = e.st.ob id
  obN : ∀ id, base ≤ id → (∀ e ∈ es, S e.i → ¬ seg base k e.i id) → σ.ob id = none

/-- What is known of all operations. -/
structure Ents (base k N : Nat) (ds : List Nat) (es : List Ent) : Prop where
  uniq : ∀ e ∈ es, ∀ e' ∈ es, e.i = e'.i → e = e'
  dsts : ∀ e ∈ es, ∀ e' ∈ es, ∀ t, e.dst = some t → e'.dst = some t → e = e'
  dsm : ∀ e ∈ es, ∀ t, e.dst = some t → t ∈ ds
  insA : ∀ e ∈ es, ∀ id ∈ e.ins, base ≤ id ∧ id < N ∧ (id - base) / k ∈ e.an
  insD : ∀ e ∈ es, ∀ e' ∈ es, e.i ≠ e'.i → ∀ id ∈ e.ins, id ∉ e'.ins
  anlt : ∀ e ∈ es, ∀ j ∈ e.an, j < e.i
  anE : ∀ e ∈ es, ∀ j ∈ e.an, ∃ e' ∈ es, e'.i = j
  refsV : ∀ e ∈ es, ∀ id ∈ e.v.refs, id < base ∨ (base ≤ id ∧ (id - base) / k ∈ e.i :: e.an)
  refsO : ∀ e ∈ es, ∀ id, (id ∈ e.ins ∨ seg base k e.i id) → ∀ o, e.st.ob id = some o → ∀ j ∈ o.refs, j < base ∨ (base ≤ j ∧ (j - base) / k ∈ e.i :: e.an)
  room : ∀ e ∈ es, base + (e.i + 1) * k ≤ N

/-- One more operation. -/
theorem StS.step {N : Nat} (hk : 0 < k) (hE : Ents base k N ds es) (hN : σ0.hp.length = N) (h : StS base k ds es S σ0 σ) (cl : ∀ e ∈ es, S e.i → ∀ j ∈ e.an, S j) {e : Ent} (he : e ∈ es) (hS : ¬ S e.i) (hpre : ∀ j ∈ e.an, S j) {σ2 : Sg} {ids : List Nat}
    (hids : ∀ id, id ∈ ids ↔ (id ∈ e.ins ∨ seg base k e.i id)) (hσ2 : σ2.hp.length = σ.hp.length) (hob : ∀ id, σ2.ob id = if id ∈ ids ∧ id < σ.hp.length then e.st.ob id else σ.ob id)
    (henv : σ2.env = match e.dst with
      | some d => σ.env.set d e.v
      | none => σ.env) : StS base k ds es (fun i => S i ∨ i = e.i) σ0 σ2 := by
  have hlt : ∀ id, id ∈ ids → id < σ.hp.length := fun id hi => by
    rw [h.n, hN]
    rcases (hids id).1 hi with hi | hi
    · exact (hE.insA e he id hi).2.1
    · exact Nat.lt_of_lt_of_le hi.2 (hE.room e he)
  have hobI : ∀ id, (id ∈ e.ins ∨ seg base k e.i id) → σ2.ob id = e.st.ob id := fun id hi => by
    have := (hids id).2 hi
    rw [hob id, if_pos ⟨this, hlt id this⟩]
  have hobO : ∀ id, ¬ (id ∈ e.ins ∨ seg base k e.i id) → σ2.ob id = σ.ob id := fun id hi => by
    rw [hob id, if_neg fun hc => hi ((hids id).1 hc.1)]
  have huniq : ∀ e' ∈ es, e'.i = e.i → e' = e := fun e' he' hi => hE.uniq e' he' e he hi
  -- an object of this operation's place is named by no operation before it
  have hown : ∀ e' ∈ es, S e'.i → ∀ id ∈ e'.ins, ¬ seg base k e.i id := fun e' he' hs id hi hsg => by
    obtain ⟨_, _, hm⟩ := hE.insA e' he' id hi
    rw [(seg_div hk hsg).2] at hm
    exact hS (cl e' he' hs _ hm)
  refine ⟨hσ2.trans h.n, ?_, fun t ht => ?_, fun e' he' hs t y hd hy => ?_, fun t ht hn => ?_, fun id hid => ?_, fun e' he' hs id hi => ?_, fun e' he' hs id hi hn => ?_, fun id hid hn => ?_⟩
  · rw [henv, ← h.len]; split <;> simp
  · rw [henv, ← h.env0 t ht]
    split
    · rename_i d hd
      rw [List.getElem?_set, if_neg]
      intro hdt; subst hdt; exact ht (hE.dsm e he d hd)
    · rfl
  · by_cases hee : e' = e
    · subst hee
      rw [henv, hd] at hy
      simp only [List.getElem?_set, if_true] at hy
      split at hy
      · obtain rfl := Option.some.inj hy; exact Eqv.refl _
      · simp at hy
    · have hs : S e'.i := hs.resolve_right fun hi => hee (huniq e' he' hi)
      rw [henv] at hy
      refine h.envS e' he' hs t y hd ?_
      split at hy
      · rename_i d hd'
        rw [List.getElem?_set, if_neg] at hy
        · exact hy
        · intro hdt; subst hdt; exact hee (hE.dsts e' he' e he d hd hd')
      · exact hy
  · rw [← h.envU t ht fun e' he' hs => hn e' he' (.inl hs), henv]
    have := hn e he (.inr rfl)
    split
    · rename_i d hd
      rw [List.getElem?_set, if_neg]
      intro hdt; subst hdt; exact this hd
    · rfl
  · rw [hobO id, h.ob0 id hid]
    rintro (hi | hi)
    · have := (hE.insA e he id hi).1; omega
    · have := (seg_div hk hi).1; omega
  · by_cases hee : e' = e
    · subst hee; exact hobI id (.inl hi)
    · have hs : S e'.i := hs.resolve_right fun h => hee (huniq e' he' h)
      rw [hobO id, h.obI e' he' hs id hi]
      rintro (h1 | h1)
      · exact hE.insD e' he' e he (fun h => hee (huniq e' he' h)) id hi h1
      · exact hown e' he' hs id hi h1
  · by_cases hee : e' = e
    · subst hee; exact hobI id (.inr hi)
    · have hs : S e'.i := hs.resolve_right fun h => hee (huniq e' he' h)
      rw [hobO id, h.obS e' he' hs id hi fun e2 he2 hs2 => hn e2 he2 (.inl hs2)]
      rintro (h1 | h1)
      · exact hn e he (.inr rfl) h1
      · exact hee (huniq e' he' (((seg_div hk hi).2).symm.trans (seg_div hk h1).2))
  · rw [hobO id, h.obN id hid fun e' he' hs => hn e' he' (.inl hs)]
    rintro (h1 | h1)
    · obtain ⟨h2, h3, h4⟩ := hE.insA e he id h1
      obtain ⟨e', he', h5⟩ := hE.anE e he _ h4
      exact hn e' he' (.inl (by rw [h5]; exact hpre _ h4)) (div_seg hk h2 h5.symm)
    · exact hn e he (.inr rfl) h1

end
end Go.Proofs.Ytajlabmnpimeeaa.Eng
