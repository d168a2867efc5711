/-
  The engine, part 30. Regions whose order is drawn: one operation, in any order. No condition.
-/
import Derived.Test.YtajlabmnpimeeaaEng29
namespace Go.Proofs.Ytajlabmnpimeeaa.Eng
open Go
set_option linter.unusedVariables false
set_option linter.unusedSimpArgs false

theorem ob_freezeRef (s : Sg) (id i : Nat) : (freezeL s (.ref id)).ob i = if i = id then (s.ob i).map Ob.freeze else s.ob i := by
  simp only [freezeL]
  split
  · rename_i o ho
    rw [ob_setHp]
    have hlt := Sg.ob_lt ho
    by_cases h : i = id
    · subst h; simp [hlt, ho]
    · simp [h]
  · rename_i ho
    by_cases h : i = id
    · subst h; simp [ho]
    · simp [h]

theorem freeze_freeze (o : Ob) : o.freeze.freeze = o.freeze := by cases o <;> rfl

theorem foldFrz_ob : (ids : List Nat) → (s : Sg) → (i : Nat) → (ids.foldl (fun s id => freezeL s (.ref id)) s).ob i = if i ∈ ids then (s.ob i).map Ob.freeze else s.ob i
  | [], s, i => by simp
  | id :: ids, s, i => by
    rw [List.foldl_cons, foldFrz_ob ids, ob_freezeRef]
    by_cases h1 : i = id
    · subst h1
      by_cases h2 : i ∈ ids
      · simp only [h2, if_true, List.mem_cons, true_or]
        cases s.ob i <;> simp [freeze_freeze]
      · simp [h2]
    · by_cases h2 : i ∈ ids <;> simp [h1, h2]

theorem frzA_ob (s : Sg) (x : A) (i : Nat) : (frzA s x).ob i = if i ∈ x.refs then (s.ob i).map Ob.freeze else s.ob i := foldFrz_ob _ _ _

theorem foldFrz_frz (ids : List Nat) : ∀ {σ s : Sg}, Frz σ s → Frz σ (ids.foldl (fun s id => freezeL s (.ref id)) s) := by
  induction ids with
  | nil => exact fun h => h
  | cons id ids ih => exact fun h => ih (.step _ h)

theorem frzA_frz (s : Sg) (x : A) : Frz s (frzA s x) := foldFrz_frz _ (.refl _)

section
variable {ρ : Type} {C : Ctx} {E : En} {G : Gh} {σ σ2 : Sg} {a : Act} {w : World} {I : Nat → Prop} {N : Nat}

theorem thawL_some (h : RelG E G σ2 a w) (l : L) {v : Value} (hσ : ∀ id ∈ l.refs, σ2.ob id = (σ.ob id).map Ob.freeze) (hv : VL (Imm E G σ2 w) N G w l v) : VL (Imm E G σ2 w) N G w (thawL σ l) v := by
  unfold thawL
  split
  · rename_i id
    split
    · rename_i ro dp e t y ho
      have h2 := hσ id (by simp [L.refs])
      rw [ho] at h2
      have hor := h.obs id _ h2
      simp only [Ob.freeze, OR] at hor
      exact ⟨by rw [hv.2.1]; exact hor, fun hn => by simp at hn⟩
    · exact hv
  · exact hv

theorem thawLs_some (h : RelG E G σ2 a w) : (ls : List L) → {vs : List Value} → (∀ id ∈ ls.flatMap L.refs, σ2.ob id = (σ.ob id).map Ob.freeze) → VLs (Imm E G σ2 w) N G w ls vs → VLs (Imm E G σ2 w) N G w (ls.map (thawL σ)) vs
  | [], [], _, _ => trivial
  | [], _ :: _, _, hv => hv.elim
  | _ :: _, [], _, hv => hv.elim
  | l :: ls, v :: vs, hσ, hv => ⟨⟨thawL_some h l (fun id hi => hσ id (by rw [List.flatMap_cons]; exact List.mem_append_left _ hi)) hv.1.1, hv.1.2⟩, thawLs_some h ls (fun id hi => hσ id (by rw [List.flatMap_cons]; exact List.mem_append_right _ hi)) hv.2⟩

theorem thawPs_some (h : RelG E G σ2 a w) : (ps : List (Bool × List L)) → {vs : List Value} → (∀ id ∈ ps.flatMap (fun p => p.2.flatMap L.refs), σ2.ob id = (σ.ob id).map Ob.freeze) → VPs (Imm E G σ2 w) N G w ps vs → VPs (Imm E G σ2 w) N G w (ps.map fun p => (p.1, p.2.map (thawL σ))) vs
  | [], [], _, _ => trivial
  | [], _ :: _, _, hv => hv.elim
  | _ :: _, [], _, hv => hv.elim
  | (true, ls) :: ps, v :: vs, hσ, hv => by
    refine ⟨?_, thawPs_some h ps (fun id hi => hσ id (by rw [List.flatMap_cons]; exact List.mem_append_right _ hi)) hv.2⟩
    obtain ⟨us, e, h1⟩ := hv.1
    exact ⟨us, e, thawLs_some h ls (fun id hi => hσ id (by rw [List.flatMap_cons]; exact List.mem_append_left _ hi)) h1⟩
  | (false, ls) :: ps, v :: vs, hσ, hv => by
    refine ⟨?_, thawPs_some h ps (fun id hi => hσ id (by rw [List.flatMap_cons]; exact List.mem_append_right _ hi)) hv.2⟩
    obtain ⟨l, e, h1⟩ := hv.1
    subst e
    exact ⟨_, rfl, thawL_some h l (fun id hi => hσ id (by rw [List.flatMap_cons]; exact List.mem_append_left _ (by simpa using hi))) h1⟩

theorem thawA_some (h : RelG E G σ2 a w) : (x : A) → {v : Value} → (∀ id ∈ x.refs, σ2.ob id = (σ.ob id).map Ob.freeze) → VA (Imm E G σ2 w) N G w x v → VA (Imm E G σ2 w) N G w (thawA σ x) v
  | .l y, _, hσ, hv => thawL_some h y hσ hv
  | .a ls, _, hσ, ⟨vs, e, hv⟩ => ⟨vs, e, thawLs_some h ls hσ hv⟩
  | .t ps, _, hσ, ⟨vs, e, hv⟩ => ⟨vs, e, thawPs_some h ps hσ hv⟩

end

/-- How one operation is run. -/
structure RunF (C : Ctx) (ops : Array Oper) (th ds : List Nat) (m : Nat) (base k : Nat) (σ0 : Sg) (es : List Ent) (o : Oper) (e : Ent) (pt : Sg) (v1 : A) (σ1 : Sg) : Prop where
  op : (opK C pt o.op fun v s => some (v, s)) = some (v1, σ1)
  v : e.v = if th.contains e.i then thawA σ1 v1 else v1
  st : e.st = if th.contains e.i then frzA σ1 v1 else σ1
  lo : pt.hp.length = base + e.i * k
  hi : e.st.hp.length ≤ base + e.i * k + k
  elen : pt.env.length = σ0.env.length
  env : ∀ t x, pt.env[t]? = some x → x = .l .unk ∨ ((∀ id ∈ x.refs, id < base + e.i * k) ∧ (((t ∉ ds ∨ (t ∈ ds ∧ ∀ j o', j < m → ops[j]? = some o' → o'.dst = some t → j = e.i ∨ ∃ d ∈ o'.after.toList, Region.binds .any d = true ∧ d.on = e.i)) ∧ σ0.env[t]? = some x) ∨ ∃ e' ∈ es, e'.i ∈ e.an ∧ e'.dst = some t ∧ Eqv x e'.v))
  ob : ∀ id x, pt.ob id = some x → (∀ j ∈ x.refs, j < base + e.i * k) ∧ ((id < base ∧ σ0.ob id = some x ∧ e.st.ob id = some x) ∨ (id ∈ e.ins ∧ ∃ e' ∈ es, e'.i ∈ e.an ∧ seg base k e'.i id ∧ e'.st.ob id = some x))
  ins : ∀ id ∈ e.ins, (pt.ob id).isSome = true

/-- Whether it is run. -/
def GuardF (ops : Array Oper) (n : Nat) (es : List Ent) (o : Oper) (e : Ent) (run : Bool) : Prop :=
  (o.guard = none ∧ run = true) ∨ ∃ j want d, o.guard = some (j, want) ∧ (ops[j]?).bind (·.dst) = some d ∧ d < n ∧ j ∈ e.an ∧ ∃ e' ∈ es, e'.i = j ∧ e'.dst = some d ∧ ((∃ b, run = (b == want) ∧ Eqv e'.v (boolA b)) ∨ (run = false ∧ Eqv e'.v (.l .und)))

def Fact (C : Ctx) (ops : Array Oper) (th ds : List Nat) (m base k : Nat) (σ0 : Sg) (es : List Ent) (o : Oper) (e : Ent) : Prop :=
  (GuardF ops σ0.env.length es o e true ∧ ∃ pt v1 σ1, RunF C ops th ds m base k σ0 es o e pt v1 σ1) ∨
  (GuardF ops σ0.env.length es o e false ∧ e.v = .l .und ∧ e.ins = [] ∧ ∀ id, e.st.ob id = none)

theorem GuardF.mono {ops : Array Oper} {n : Nat} {es es' : List Ent} {o : Oper} {e : Ent} {run : Bool} (hs : ∀ e ∈ es, e ∈ es') (h : GuardF ops n es o e run) : GuardF ops n es' o e run := by
  rcases h with h | ⟨j, want, d, h1, h2, h3, h4, e', h6, h7⟩
  · exact .inl h
  · exact .inr ⟨j, want, d, h1, h2, h3, h4, e', hs e' h6, h7⟩

theorem Fact.mono {C : Ctx} {ops : Array Oper} {th ds : List Nat} {m base k : Nat} {σ0 : Sg} {es es' : List Ent} {o : Oper} {e : Ent} (hs : ∀ e ∈ es, e ∈ es') (h : Fact C ops th ds m base k σ0 es o e) :
    Fact C ops th ds m base k σ0 es' o e := by
  rcases h with ⟨h1, pt, v1, σ1, h⟩ | ⟨h1, h2⟩
  · refine .inl ⟨h1.mono hs, pt, v1, σ1, { h with env := fun t x hx => ?_, ob := fun id x hx => ?_ }⟩
    · rcases h.env t x hx with h2 | ⟨h2, h3 | ⟨e', h3, h4⟩⟩
      · exact .inl h2
      · exact .inr ⟨h2, .inl h3⟩
      · exact .inr ⟨h2, .inr ⟨e', hs e' h3, h4⟩⟩
    · obtain ⟨h2, h3 | ⟨h3, e', h4, h5⟩⟩ := h.ob id x hx
      · exact ⟨h2, .inl h3⟩
      · exact ⟨h2, .inr ⟨h3, e', hs e' h4, h5⟩⟩
  · exact .inr ⟨h1.mono hs, h2⟩

section
variable {ρ : Type} {C : Ctx} {E : En} {G : Gh} {σ0 σ : Sg} {a : Act} {w : World} {ops : Array Oper} {th ds : List Nat} {m base k N : Nat} {es : List Ent} {S : Nat → Prop} {o : Oper} {e : Ent}

theorem mem_seg {lo k id : Nat} : id ∈ List.range' lo k ↔ lo ≤ id ∧ id < lo + k := by simp

theorem seg_iff {i id : Nat} : seg base k i id ↔ id ∈ List.range' (base + i * k) k := by
  rw [mem_seg]
  unfold seg
  rw [Nat.add_mul, Nat.one_mul, Nat.add_assoc]

theorem wanted_of {j : Nat} {want : Bool} {d : Nat} {b : Bool} {y : A} (h : RelG E G σ a w) (hg : o.guard = some (j, want)) (hd : (ops[j]?).bind (·.dst) = some d) (hy : σ.env[d]? = some y) (he : Eqv y (boolA b)) :
    Region.wanted o (yielded ops a.tmps) = (b == want) := by
  have hv := h.get (.tmp d)
  have hgy : getA σ (.tmp d) = y := by simp only [getA, List.getD_eq_getElem?_getD, hy]; rfl
  rw [hgy] at hv
  have hb := datBool ((he.1 _ _ _ _ _).1 hv)
  simp only [Act.eval] at hb
  have hyl : yielded ops a.tmps j = some b := by
    unfold yielded
    rw [hd]
    simp only [Option.bind_some]
    cases ht : a.tmps[d]? with
    | none => rw [Array.getD_eq_getD_getElem?, ht] at hb; simp [undef] at hb
    | some u =>
      rw [Array.getD_eq_getD_getElem?, ht] at hb
      simp only [Option.getD_some] at hb
      subst hb; rfl
  simp only [Region.wanted, hg, hyl]
  cases b <;> cases want <;> rfl

theorem unwanted_of {j : Nat} {want : Bool} {d : Nat} {y : A} (h : RelG E G σ a w) (hg : o.guard = some (j, want)) (hd : (ops[j]?).bind (·.dst) = some d) (hy : σ.env[d]? = some y) (he : Eqv y (.l .und)) :
    Region.wanted o (yielded ops a.tmps) = false := by
  have hv := h.get (.tmp d)
  have hgy : getA σ (.tmp d) = y := by simp only [getA, List.getD_eq_getElem?_getD, hy]; rfl
  rw [hgy] at hv
  have hb : a.tmps.getD d undef = undef := (he.1 _ _ _ _ _).1 hv
  have hyl : yielded ops a.tmps j = none := by
    unfold yielded
    rw [hd]
    simp only [Option.bind_some]
    cases ht : a.tmps[d]? with
    | none => rfl
    | some u =>
      rw [Array.getD_eq_getD_getElem?, ht] at hb
      simp only [Option.getD_some] at hb
      subst hb; rfl
  simp only [Region.wanted, hg, hyl]
  cases want <;> rfl

theorem GuardF.wanted {run : Bool} (g : GuardF ops σ0.env.length es o e run) (h : RelG E G σ a w) (hSt : StS base k ds es S σ0 σ) (hpre : ∀ j ∈ e.an, S j) : Region.wanted o (yielded ops a.tmps) = run := by
  rcases g with ⟨h1, h2⟩ | ⟨j, want, d, h1, h2, h3, h4, e', h6, h7, h8, h9⟩
  · subst h2; simp [Region.wanted, h1]
  · have hlt : d < σ.env.length := by rw [hSt.len]; exact h3
    have hy : σ.env[d]? = some σ.env[d] := List.getElem?_eq_getElem hlt
    have hq := hSt.envS e' h6 (by rw [h7]; exact hpre j h4) d _ h8 hy
    rcases h9 with ⟨b, h5, h9⟩ | ⟨h5, h9⟩
    · rw [h5]
      exact wanted_of h h1 h2 hy (hq.trans h9)
    · rw [h5]
      exact unwanted_of h h1 h2 hy (hq.trans h9)

/-- One operation is run. -/
theorem run_step (hC : Ctrs C) (hk : 0 < k) (h : RelG E G σ a w) (hSt : StS base k ds es S σ0 σ) (hE : Ents base k N ds es) (hN : σ0.hp.length = N) (cl : ∀ e ∈ es, S e.i → ∀ j ∈ e.an, S j) (he : e ∈ es) (hS : ¬ S e.i) (hpre : ∀ j ∈ e.an, S j)
    (hdo : e.dst = o.dst) (hF : ∀ t, o.dst = some t → ¬ E.F t) (haf : ∀ e' ∈ es, S e'.i → e'.i < m ∧ ∃ o', ops[e'.i]? = some o' ∧ e'.dst = o'.dst ∧ ∀ d ∈ o'.after.toList, Region.binds .any d = true → d.on ∈ e'.an) (h0E : ∀ (t : Nat) (x : A), σ0.env[t]? = some x → ∀ id ∈ x.refs, id < base) (h0O : ∀ id x, σ0.ob id = some x → id < base ∧ ∀ j ∈ x.refs, j < base) {pt : Sg} {v1 : A} {σ1 : Sg} (R : RunF C ops th ds m base k σ0 es o e pt v1 σ1)
    (K : Act → World → Prop) (Q : Exit → Act → World → Prop) (hK : ∀ σ' a' w' G', RelG E G' σ' a' w' → StS base k ds es (fun i => S i ∨ i = e.i) σ0 σ' → Keep (Imm E G σ w) (Imm E G' σ' w') base base G G' w w' → K a' w') : o.wp C.P a w K Q := by
  have hlen : σ.hp.length = N := hSt.n.trans hN
  have hroom : base + e.i * k + k ≤ N := by have := hE.room e he; rw [Nat.add_mul, Nat.one_mul] at this; omega
  have p : Part σ pt := by
    refine ⟨by rw [R.elen, hSt.len], fun t x hx => ?_, fun id x hx => ?_, by rw [R.lo, hlen]; omega⟩
    · rcases R.env t x hx with rfl | ⟨h1, h2⟩
      · exact .inl rfl
      · refine .inr ⟨?_, A.bd_of x (by rw [R.lo]; exact h1)⟩
        rcases h2 with ⟨h2, h3⟩ | ⟨e', h2, h3, h4, h5⟩
        · refine ⟨x, ?_, fun _ _ _ _ _ hv => hv⟩
          rcases h2 with h2 | ⟨h2, h4⟩
          · rw [hSt.env0 t h2]; exact h3
          · rw [hSt.envU t h2 fun e' he' hs' hd' => ?_]
            · exact h3
            · obtain ⟨k1, o', k2, k3, k4⟩ := haf e' he' hs'
              rcases h4 e'.i o' k1 k2 (by rw [← k3]; exact hd') with h5 | ⟨d, h5, h6, h7⟩
              · exact hS (h5 ▸ hs')
              · exact hS (cl e' he' hs' _ (by rw [← h7]; exact k4 d h5 h6))
        · have hlt : t < σ.env.length := by rw [hSt.len, ← R.elen]; exact (List.getElem?_eq_some_iff.1 hx).1
          have hy : σ.env[t]? = some σ.env[t] := List.getElem?_eq_getElem hlt
          exact ⟨_, hy, fun I N G w v hv => (h5.1 I N G w v).2 (((hSt.envS e' h2 (hpre _ h3) t _ h4 hy).1 I N G w v).1 hv)⟩
    · obtain ⟨h1, h2⟩ := R.ob id x hx
      refine ⟨?_, Ob.bd_of x (by rw [R.lo]; exact h1)⟩
      rcases h2 with ⟨h2, h3, _⟩ | ⟨h2, e', h3, h4, h5, h6⟩
      · rw [hSt.ob0 id h2]; exact h3
      · rw [hSt.obS e' h3 (hpre _ h4) id h5 fun e2 he2 hs2 hi2 => hE.insD e he e2 he2 (fun hc => hS (hc ▸ hs2)) id h2 hi2]; exact h6
  have h1 := p.rel h
  obtain ⟨v', s', hk', kp, hx⟩ := opK_some (o := o) hC h1 R.op
  simp only [Option.some.injEq, Prod.mk.injEq] at hk'
  obtain ⟨rfl, rfl⟩ := hk'
  have f : Frz s' e.st := by
    rw [R.st]; split
    · exact frzA_frz _ _
    · exact .refl _
  let ids := e.ins ++ List.range' (base + e.i * k) k
  have hids : ∀ id, id ∈ ids ↔ (id ∈ e.ins ∨ seg base k e.i id) := fun id => by
    simp only [ids, List.mem_append]; rw [seg_iff]
  have hidlt : ∀ id, id ∈ ids → id < σ.hp.length := fun id hi => by
    rw [hlen]
    rcases (hids id).1 hi with hi | hi
    · exact (hE.insA e he id hi).2.1
    · have := hi.2; rw [Nat.add_mul, Nat.one_mul] at this; omega
  have hmob := mergeS_ob e.st ids
  have fin : ∀ {G' : Gh} {w' : World} {val : Value}, RelG (Eop E G σ pt w) G' s' a w' → (∀ id, id < pt.hp.length → (G' id).1 = (G id).1) → VA (Imm (Eop E G σ pt w) G' s' w') s'.hp.length G' w' v' val → K (a.put o.dst val) w' := by
    intro G' w' val hr hga hva
    have hr2 := f.rel hr
    have hva2 : VA (Imm (Eop E G σ pt w) G' e.st w') e.st.hp.length G' w' e.v val := by
      have h3 := hva.keep f.keep v'
      rw [R.v]
      split
      · rename_i ht
        refine thawA_some hr2 v' (fun id hi => ?_) h3
        rw [R.st, if_pos ht, frzA_ob, if_pos hi]
      · exact h3
    have hin : ∀ id, pt.hp.length ≤ id ∧ id < base + e.i * k + k ↔ seg base k e.i id := fun id => by
      rw [R.lo]; unfold seg; rw [Nat.add_mul, Nat.one_mul, Nat.add_assoc]
    have hsegS : ∀ j ∈ e.i :: e.an, S j ∨ j = e.i := fun j hj => by
      rcases List.mem_cons.1 hj with rfl | hj
      · exact .inr rfl
      · exact .inl (hpre j hj)
    have notseg : ∀ e' ∈ es, S e'.i → ∀ id, (id < base ∨ (base ≤ id ∧ (id - base) / k ∈ e'.i :: e'.an)) → ¬ seg base k e.i id := fun e' he' hs id hid hsg => by
      obtain ⟨s1, s2⟩ := seg_div hk hsg
      rcases hid with hid | ⟨_, hid⟩
      · omega
      · rw [s2] at hid
        rcases List.mem_cons.1 hid with hid | hid
        · exact hS (hid ▸ hs)
        · exact hS (cl e' he' hs _ hid)
    obtain ⟨G2, j1, j2, j3, j4, j5⟩ := p.join h (σ2 := mergeS σ e.st ids) (hi := base + e.i * k + k) hr2 hga R.hi (by rw [hlen]; exact hroom) (mergeS_len _ _ _) (mergeS_env _ _ _)
      (fun id x hx => by
        rw [hmob id σ] at hx
        split at hx
        · rename_i hc
          left
          refine ⟨?_, hx⟩
          rcases (hids id).1 hc.1 with h3 | h3
          · exact .inl (R.ins id h3)
          · exact .inr ((hin id).2 h3)
        · rename_i hc
          have hni : id ∉ ids := fun hi => hc ⟨hi, hidlt id hi⟩
          have hns : ¬ (pt.hp.length ≤ id ∧ id < base + e.i * k + k) := fun hi => hni ((hids id).2 (.inr ((hin id).1 hi)))
          cases hp : pt.ob id with
          | none => exact .inr ⟨⟨rfl, hns⟩, hx⟩
          | some x' =>
            left
            refine ⟨.inl rfl, ?_⟩
            obtain ⟨_, h3 | h3⟩ := R.ob id x' hp
            · have := (p.ob id x' hp).1
              rw [this] at hx
              obtain rfl := Option.some.inj hx
              exact h3.2.2
            · exact absurd ((hids id).2 (.inl h3.1)) hni)
      (fun t x hx id hi hc => by
        have hc := (hin id).1 hc
        by_cases ht : t ∈ ds
        · by_cases hex : ∃ e' ∈ es, S e'.i ∧ e'.dst = some t
          · obtain ⟨e', he', hs', hd'⟩ := hex
            have hq := hSt.envS e' he' hs' t x hd' hx
            rw [hq.2] at hi
            exact notseg e' he' hs' id (hE.refsV e' he' id hi) hc
          · rw [hSt.envU t ht fun e' he' hs' hd' => hex ⟨e', he', hs', hd'⟩] at hx
            have := h0E t x hx id hi
            have := (seg_div hk hc).1
            omega
        · rw [hSt.env0 t ht] at hx
          have := h0E t x hx id hi
          have := (seg_div hk hc).1
          omega)
      (fun id x hx i hi hc => by
        have hc := (hin i).1 hc
        rcases Nat.lt_or_ge id base with hb | hb
        · rw [hSt.ob0 id hb] at hx
          have := (h0O id x hx).2 i hi
          have := (seg_div hk hc).1
          omega
        · by_cases hex : ∃ e' ∈ es, S e'.i ∧ id ∈ e'.ins
          · obtain ⟨e', he', hs', hi'⟩ := hex
            rw [hSt.obI e' he' hs' id hi'] at hx
            exact notseg e' he' hs' i (hE.refsO e' he' id (.inl hi') x hx i hi) hc
          · by_cases hex2 : ∃ e' ∈ es, S e'.i ∧ seg base k e'.i id
            · obtain ⟨e', he', hs', hi'⟩ := hex2
              rw [hSt.obS e' he' hs' id hi' fun e2 h2 hs2 hi2 => hex ⟨e2, h2, hs2, hi2⟩] at hx
              exact notseg e' he' hs' i (hE.refsO e' he' id (.inr hi') x hx i hi) hc
            · rw [hSt.obN id hb fun e' he' hs' hi' => hex2 ⟨e', he', hs', hi'⟩] at hx
              simp at hx)
    have kv : VA (Imm E G2 (mergeS σ e.st ids) w') (mergeS σ e.st ids).hp.length G2 w' e.v val := by
      refine hva2.keep ⟨j4, fun _ _ => rfl, by rw [mergeS_len, hlen]; exact Nat.le_trans R.hi hroom, fun id hi => ?_⟩ e.v
      have hlt : id < base + e.i * k + k := Nat.lt_of_lt_of_le hi R.hi
      rcases Nat.lt_or_ge id pt.hp.length with hl | hl
      · rw [j3 id (by omega), hga id hl]
      · rw [j2 id hlt (.inr hl)]
    have hput : ∃ σ3, RelG E G2 σ3 (a.put o.dst val) w' ∧ σ3.hp = (mergeS σ e.st ids).hp ∧ σ3.env = match e.dst with
        | some d => σ.env.set d e.v
        | none => σ.env := by
      rw [hdo]
      cases hd : o.dst with
      | none => exact ⟨_, j1, rfl, mergeS_env _ _ _⟩
      | some d => exact ⟨_, j1.put d kv (hF d hd), rfl, by simp only [mergeS_env]⟩
    obtain ⟨σ3, r1, r2, r3⟩ := hput
    refine hK σ3 _ w' G2 r1 (hSt.step hk hE hN cl he hS hpre hids (by rw [r2, mergeS_len]) (fun id => ?_) r3) ?_
    · have : σ3.ob id = (mergeS σ e.st ids).ob id := by unfold Sg.ob; rw [r2]
      rw [this, hmob id σ]
    · have hi3 : ∀ b, Imm E G2 (mergeS σ e.st ids) w' b → Imm E G2 σ3 w' b := fun b hb => ⟨hb.1, hb.2.1, fun id o ho => hb.2.2 id o (by unfold Sg.ob at ho ⊢; rw [← r2]; exact ho)⟩
      refine ⟨fun b hb => hi3 b (j5 b hb).1, fun b hb => (j5 b hb).2, Nat.le_refl _, fun id hi => j3 id fun hc => ?_⟩
      rw [R.lo] at hc; omega
  unfold Oper.wp
  generalize (execOp a.eval o).run C.P w = x at hx
  cases x with
  | ok n w' =>
    cases n <;> simp only at hx <;> first | exact hx.elim | skip
    · obtain ⟨G', h2, h3, h4⟩ := hx
      exact fin h2 h3.g h4
    · obtain ⟨hv, G', h2, h3⟩ := hx
      exact fin h2 h3.g (by rw [hv]; trivial)
    · rename_i g args
      show Calls C.P g args w' _
      refine Calls.mono hx fun ex w'' hex => ?_
      obtain ⟨val, rfl, G', h2, h3, h4⟩ := hex
      exact fin h2 h3.g h4
  | halt ex w' => exact hx.elim

/-- One operation, run or not. -/
theorem any_step (hC : Ctrs C) (hk : 0 < k) (h : RelG E G σ a w) (hSt : StS base k ds es S σ0 σ) (hE : Ents base k N ds es) (hN : σ0.hp.length = N) (cl : ∀ e ∈ es, S e.i → ∀ j ∈ e.an, S j) (he : e ∈ es) (hS : ¬ S e.i) (hpre : ∀ j ∈ e.an, S j)
    (ho : ops[e.i]? = some o) (hdo : e.dst = o.dst) (hF : ∀ t, o.dst = some t → ¬ E.F t) (haf : ∀ e' ∈ es, S e'.i → e'.i < m ∧ ∃ o', ops[e'.i]? = some o' ∧ e'.dst = o'.dst ∧ ∀ d ∈ o'.after.toList, Region.binds .any d = true → d.on ∈ e'.an) (h0E : ∀ (t : Nat) (x : A), σ0.env[t]? = some x → ∀ id ∈ x.refs, id < base) (h0O : ∀ id x, σ0.ob id = some x → id < base ∧ ∀ j ∈ x.refs, j < base) (F : Fact C ops th ds m base k σ0 es o e)
    (K : Act → World → Prop) (Q : Exit → Act → World → Prop) (hK : ∀ σ' a' w' G', RelG E G' σ' a' w' → StS base k ds es (fun i => S i ∨ i = e.i) σ0 σ' → Keep (Imm E G σ w) (Imm E G' σ' w') base base G G' w w' → K a' w') : wpOp C.P ops Q e.i K a w := by
  unfold wpOp
  rw [ho]
  simp only
  rcases F with ⟨g, pt, v1, σ1, R⟩ | ⟨g, hv, hins, hst⟩
  · rw [if_pos (g.wanted h hSt hpre)]
    exact .inl (run_step hC hk h hSt hE hN cl he hS hpre hdo hF haf h0E h0O R K Q hK)
  · rw [if_neg (by rw [g.wanted h hSt hpre]; simp)]
    have hput : ∃ σ3, RelG E G σ3 (a.put o.dst undef) w ∧ σ3.hp = σ.hp ∧ σ3.env = match e.dst with
        | some d => σ.env.set d e.v
        | none => σ.env := by
      rw [hdo]
      cases hd : o.dst with
      | none => exact ⟨_, h, rfl, rfl⟩
      | some d => exact ⟨_, h.put d (x := e.v) (by rw [hv]; exact rfl) (hF d hd), rfl, rfl⟩
    obtain ⟨σ3, r1, r2, r3⟩ := hput
    refine hK σ3 _ w G r1 (hSt.step hk hE hN cl he hS hpre (ids := List.range' (base + e.i * k) k) (fun id => ?_) (by rw [r2]) (fun id => ?_) r3) ⟨fun b hb => ⟨hb.1, hb.2.1, fun id o ho => hb.2.2 id o (by unfold Sg.ob at ho ⊢; rw [← r2]; exact ho)⟩, fun _ _ => rfl, Nat.le_refl _, fun _ _ => rfl⟩
    · rw [hins, ← seg_iff]; simp
    · have : σ3.ob id = σ.ob id := by unfold Sg.ob; rw [r2]
      rw [this]
      split
      · rename_i hc
        rw [hst]
        have hsg := seg_iff.2 hc.1
        refine hSt.obN id (seg_div hk hsg).1 fun e' he' hs' hsg' => hS ?_
        have := (seg_div hk hsg).2
        rw [(seg_div hk hsg').2] at this
        rw [← this]; exact hs'
      · rfl

end
end Go.Proofs.Ytajlabmnpimeeaa.Eng
