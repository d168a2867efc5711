/-
  The engine, part 18. Taking values: what a loop keeps, what a function returns, what a call is given. No condition.
-/
import Derived.Test.YtajlabmnpimeeaaEng17
namespace Go.Proofs.Ytajlabmnpimeeaa.Eng
open Go
set_option linter.unusedVariables false
set_option linter.unusedSimpArgs false

section
variable {ρ : Type} {C : Ctx} {E : En} {G : Gh} {σ σ' : Sg} {a : Act} {w : World} {ids : List Nat}

/-- Objects of the call's own. -/
def Mine (σ : Sg) (ids : List Nat) : Prop := ∀ i ∈ ids, ∃ o, σ.ob i = some o ∧ o.ro = false

/-- Blocks that may be read, but for the first ones of given slices. -/
def Rdb (E : En) (G : Gh) (w : World) (ids : List Nat) (b : Nat) : Prop := Acc E w b ∧ ∀ i ∈ ids, (G i).2.head? ≠ some b

def nnSrc (x : L) : Prop := x = .nils ∨ ∃ t y, x = .dat true t y

theorem Imm.rdb (hm : Mine σ ids) {b : Nat} (h : Imm E G σ w b) : Rdb E G w ids b :=
  ⟨h.acc, fun i hi => by obtain ⟨o, ho, hr⟩ := hm i hi; exact h.2.2 i o ho hr⟩

theorem nil_rd {S : Nat → Prop} {t : Ty} : RdV S w (.list t) [] (.slice none 0 0) :=
  ⟨[.slice none 0 0], by simp only [RdC]; exact ⟨none, 0, 0, rfl, rfl, Nat.le_refl _, Nat.zero_le _, Nat.zero_le _, fun hne => absurd rfl hne⟩, rfl⟩

theorem rdL_gone {t : Ty} {x : L} {k : t.den → Option ρ} {r : ρ} {v : Value} (h : RelG E G σ a w) (hg : Gone σ σ' ids) (hm : Mine σ ids) (hk : rdL σ' t x k = some r)
    (hv : VL (Imm E G σ w) σ.hp.length G w x v) : ∃ y, k y = some r ∧ RdV (Rdb E G w ids) w t y v ∧ (okL σ' x = true → RdV (Imm E G σ w) w t y v) ∧ (nnSrc x → nnP t y v) := by
  have wide : ∀ {t : Ty} {y : t.den}, RdV (Imm E G σ w) w t y v → RdV (Rdb E G w ids) w t y v := fun hr => hr.mono (fun b hb => hb.rdb hm) fun _ _ => rfl
  unfold rdL at hk
  split at hk
  · rename_i nn t' y
    cases hc : castT t' t y with
    | none => simp [hc] at hk
    | some z =>
      simp only [hc, Option.bind_some] at hk
      obtain ⟨e, rfl⟩ := castT_some hc
      subst e
      exact ⟨_, hk, wide hv.1, fun _ => hv.1, fun hn => by
        rcases hn with hn | ⟨_, _, hn⟩
        · simp at hn
        · simp only [L.dat.injEq] at hn; exact hv.2 hn.1⟩
  · split at hk
    · simp only [VL] at hv
      subst hv
      exact ⟨_, hk, nil_rd, fun _ => nil_rd, fun _ _ => rfl⟩
    · simp at hk
  · rename_i id
    split at hk
    · rename_i ro dp e t' y ho
      cases hc : castT (.list t') t y with
      | none => simp [hc] at hk
      | some z =>
        simp only [hc, Option.bind_some] at hk
        obtain ⟨e', rfl⟩ := castT_some hc
        subst e'
        obtain ⟨hni, ho'⟩ := hg.sub ho
        obtain ⟨_, rfl, _⟩ := hv
        have hor := h.obs id _ ho'
        refine ⟨_, hk, ?_, fun hok => ?_, fun hn => by rcases hn with hn | ⟨_, _, hn⟩ <;> simp at hn⟩
        · cases ro with
          | true => simp only [OR] at hor; exact hor.mono (fun b hb => hb.rdb hm) fun _ _ => rfl
          | false =>
            simp only [OR] at hor
            refine hor.rd (fun b hb => hb.rdb hm) fun b hb => ⟨⟨(h.range id _ ho' rfl b hb).1, fun hB => h.xa b ((h.range id _ ho' rfl b hb).2 hB)⟩, fun i hi hh => ?_⟩
            obtain ⟨o, hoi, hr⟩ := hm i hi
            exact h.disj id i _ o ho' rfl hoi hr (fun e => hni (e ▸ hi)) b hb (List.mem_of_mem_head? hh)
        · simp only [okL, ho] at hok
          subst hok
          simpa only [OR] using hor
    · simp at hk
  · simp at hk

theorem nnL_some {t : Ty} {x : L} {y : t.den} {k : Option ρ} {r : ρ} {v : Value} (hk : nnL t x y k = some r) (hs : nnSrc x → nnP t y v) : k = some r ∧ nnP t y v := by
  unfold nnL at hk
  split at hk
  · exact ⟨hk, hs (.inl rfl)⟩
  · exact ⟨hk, hs (.inr ⟨_, _, rfl⟩)⟩
  · split at hk
    · rename_i t z
      unfold nneD at hk
      split at hk
      · simp at hk
      · rename_i hne
        exact ⟨hk, fun h0 => by simp only at h0; rw [h0] at hne; simp at hne⟩
    · rename_i hn
      refine ⟨hk, ?_⟩
      cases t with
      | list t => exact (hn t y rfl HEq.rfl).elim
      | _ => trivial

theorem nnK_some {nn : Bool} {t : Ty} {x : L} {y : t.den} {k : Option ρ} {r : ρ} {v : Value} (hk : nnK nn t x y k = some r) (hs : nnSrc x → nnP t y v) : k = some r ∧ (nn = true → nnP t y v) := by
  unfold nnK at hk
  split at hk
  · obtain ⟨h1, h2⟩ := nnL_some hk hs; exact ⟨h1, fun _ => h2⟩
  · exact ⟨hk, fun hf => by simp at hf⟩

theorem nnA_some {nn : Bool} {t : Ty} {x : A} {y : t.den} {k : Option ρ} {r : ρ} {v : Value} (hk : nnA nn t x y k = some r) (hs : (∀ l, x = .l l → nnSrc l) → nnP t y v) : k = some r ∧ (nn = true → nnP t y v) := by
  unfold nnA at hk
  split at hk
  · split at hk
    · obtain ⟨h1, h2⟩ := nnL_some hk fun hn => hs fun l hl => by simp only [A.l.injEq] at hl; subst hl; exact hn
      exact ⟨h1, fun _ => h2⟩
    · simp at hk
  · exact ⟨hk, fun hf => by simp at hf⟩

theorem rdLs_gone : (t : Ty) → {ls : List L} → {vs : List Value} → {k : t.den → List L → Option ρ} → {r : ρ} → (h : RelG E G σ a w) → (hg : Gone σ σ' ids) → (hm : Mine σ ids) → (hk : rdLs σ' t ls k = some r) →
    (hv : VLs (Imm E G σ w) σ.hp.length G w ls vs) → ∃ y ls' cs vs', k y ls' = some r ∧ vs = cs ++ vs' ∧ VLs (Imm E G σ w) σ.hp.length G w ls' vs' ∧ RdC (Rdb E G w ids) w t y cs ∧
      (ls.all (okL σ') = true → RdC (Imm E G σ w) w t y cs ∧ ls'.all (okL σ') = true)
  | .prod p q, ls, vs, k, r, h, hg, hm, hk, hv => by
    simp only [rdLs] at hk
    obtain ⟨y1, l1, c1, v1, hk1, rfl, hv1, r1, o1⟩ := rdLs_gone p h hg hm hk hv
    obtain ⟨y2, l2, c2, v2, hk2, rfl, hv2, r2, o2⟩ := rdLs_gone q h hg hm hk1 hv1
    refine ⟨(y1, y2), l2, c1 ++ c2, v2, hk2, by simp, hv2, ?_, fun hok => ?_⟩
    · simp only [RdC]; exact ⟨c1, c2, rfl, r1, r2⟩
    · obtain ⟨q1, q2⟩ := o1 hok
      obtain ⟨q3, q4⟩ := o2 q2
      simp only [RdC]; exact ⟨⟨c1, c2, rfl, q1, q3⟩, q4⟩
  | .list t, x :: ls, v :: vs, k, r, h, hg, hm, hk, hv => rdLs_one h hg hm (by simpa only [rdLs] using hk) hv
  | .int t, x :: ls, v :: vs, k, r, h, hg, hm, hk, hv => rdLs_one h hg hm (by simpa only [rdLs] using hk) hv
  | .bool, x :: ls, v :: vs, k, r, h, hg, hm, hk, hv => rdLs_one h hg hm (by simpa only [rdLs] using hk) hv
  | .str, x :: ls, v :: vs, k, r, h, hg, hm, hk, hv => rdLs_one h hg hm (by simpa only [rdLs] using hk) hv
  | .list t, [], vs, k, r, h, hg, hm, hk, hv => by simp [rdLs] at hk
  | .int kd, [], vs, k, r, h, hg, hm, hk, hv => by simp [rdLs] at hk
  | .bool, [], vs, k, r, h, hg, hm, hk, hv => by simp [rdLs] at hk
  | .str, [], vs, k, r, h, hg, hm, hk, hv => by simp [rdLs] at hk
  | .list t, _ :: _, [], k, r, h, hg, hm, hk, hv => hv.elim
  | .int kd, _ :: _, [], k, r, h, hg, hm, hk, hv => hv.elim
  | .bool, _ :: _, [], k, r, h, hg, hm, hk, hv => hv.elim
  | .str, _ :: _, [], k, r, h, hg, hm, hk, hv => hv.elim
where
  rdLs_one {t : Ty} {x : L} {ls : List L} {v : Value} {vs : List Value} {k : t.den → List L → Option ρ} {r : ρ} (h : RelG E G σ a w) (hg : Gone σ σ' ids) (hm : Mine σ ids) (hk : rdL σ' t x (fun y => k y ls) = some r)
      (hv : VLs (Imm E G σ w) σ.hp.length G w (x :: ls) (v :: vs)) : ∃ y ls' cs vs', k y ls' = some r ∧ v :: vs = cs ++ vs' ∧ VLs (Imm E G σ w) σ.hp.length G w ls' vs' ∧ RdC (Rdb E G w ids) w t y cs ∧
        ((x :: ls).all (okL σ') = true → RdC (Imm E G σ w) w t y cs ∧ ls'.all (okL σ') = true) := by
    obtain ⟨y, h1, h2, h3, _⟩ := rdL_gone h hg hm hk hv.1.1
    refine ⟨y, ls, [v], vs, h1, rfl, hv.2, ?_, fun hok => ?_⟩
    · have := h2.cells; rwa [cells_one hv.1.2] at this
    · simp only [List.all_cons, Bool.and_eq_true] at hok
      have := (h3 hok.1).cells
      rw [cells_one hv.1.2] at this
      exact ⟨this, hok.2⟩

theorem rdA_gone {t : Ty} {x : A} {k : t.den → Option ρ} {r : ρ} {v : Value} (h : RelG E G σ a w) (hg : Gone σ σ' ids) (hm : Mine σ ids) (hk : rdA σ' t x k = some r)
    (hv : VA (Imm E G σ w) σ.hp.length G w x v) : ∃ y, k y = some r ∧ RdV (Rdb E G w ids) w t y v ∧ (okA σ' x = true → RdV (Imm E G σ w) w t y v) ∧ ((∀ l, x = .l l → nnSrc l) → nnP t y v) := by
  unfold rdA at hk
  split at hk
  · obtain ⟨y, h1, h2, h3, h4⟩ := rdL_gone h hg hm hk hv
    exact ⟨y, h1, h2, h3, fun hl => h4 (hl _ rfl)⟩
  · split at hk
    · rename_i ls _ p q _
      obtain ⟨vs, rfl, hvs⟩ := hv
      obtain ⟨y, ls', cs, vs', hk, rfl, hv', hr, ho⟩ := rdLs_gone (.prod p q) h hg hm hk hvs
      split at hk
      · have : vs' = [] := by cases vs' with
          | nil => rfl
          | cons _ _ => exact hv'.elim
        subst this
        refine ⟨y, hk, ⟨cs, hr, by simp [mkV, Ty.isProd]⟩, fun hok => ⟨cs, (ho hok).1, by simp [mkV, Ty.isProd]⟩, fun _ => trivial⟩
      · simp at hk
    · simp at hk
  · simp at hk

/-- Claims out of the claims of given objects. -/
structure Cls (G : Gh) (ids : List Nat) (bss : List (List Nat)) : Prop where
  nodup : bss.flatten.Nodup
  mem : ∀ bs ∈ bss, ∀ b ∈ bs, ∃ id ∈ ids, b ∈ (G id).2
  head : ∀ bs ∈ bss, ∀ b, bs.head? = some b → ∃ id ∈ ids, (G id).2.head? = some b

theorem Cls.nil : Cls G [] [] := ⟨by simp, by simp, by simp⟩
theorem Cls.nil1 : Cls G [] [[]] := ⟨by simp, by simp, by simp⟩

theorem Cls.append (h : RelG E G σ a w) {n1 n2 : List Nat} {b1 b2 : List (List Nat)} (hm1 : Mine σ n1) (hm2 : Mine σ n2) (hd : ∀ i ∈ n2, i ∉ n1) (h1 : Cls G n1 b1) (h2 : Cls G n2 b2) : Cls G (n1 ++ n2) (b1 ++ b2) := by
  refine ⟨?_, fun bs hbs b hb => ?_, fun bs hbs b hb => ?_⟩
  · rw [List.flatten_append, List.nodup_append]
    refine ⟨h1.nodup, h2.nodup, fun b hb c hc hbc => ?_⟩
    subst hbc
    obtain ⟨q1, hq1, hb1⟩ := List.mem_flatten.1 hb
    obtain ⟨q2, hq2, hb2⟩ := List.mem_flatten.1 hc
    obtain ⟨i, hi, hbi⟩ := h1.mem q1 hq1 b hb1
    obtain ⟨j, hj, hbj⟩ := h2.mem q2 hq2 b hb2
    obtain ⟨o1, ho1, hr1⟩ := hm1 i hi
    obtain ⟨o2, ho2, hr2⟩ := hm2 j hj
    exact h.disj i j o1 o2 ho1 hr1 ho2 hr2 (fun e => hd j hj (e ▸ hi)) b hbi hbj
  · rcases List.mem_append.1 hbs with hbs | hbs
    · obtain ⟨i, hi, hx⟩ := h1.mem bs hbs b hb; exact ⟨i, List.mem_append_left _ hi, hx⟩
    · obtain ⟨i, hi, hx⟩ := h2.mem bs hbs b hb; exact ⟨i, List.mem_append_right _ hi, hx⟩
  · rcases List.mem_append.1 hbs with hbs | hbs
    · obtain ⟨i, hi, hx⟩ := h1.head bs hbs b hb; exact ⟨i, List.mem_append_left _ hi, hx⟩
    · obtain ⟨i, hi, hx⟩ := h2.head bs hbs b hb; exact ⟨i, List.mem_append_right _ hi, hx⟩

theorem Cls.adm (h : RelG E G σ a w) (hm : Mine σ ids) {bss : List (List Nat)} (hc : Cls G ids bss) {U : Nat → Prop} (hU : ∀ i ∈ ids, ∀ b ∈ (G i).2, ¬ U b) : Adm E (Imm E G σ w) U w bss := by
  refine ⟨hc.nodup, fun b hb => ?_, fun bs hbs b hb => ?_⟩
  · obtain ⟨q, hq, hbq⟩ := List.mem_flatten.1 hb
    obtain ⟨i, hi, hbi⟩ := hc.mem q hq b hbq
    obtain ⟨o, ho, hr⟩ := hm i hi
    have := h.range i o ho hr b hbi
    exact ⟨this.1, this.2, hU i hi b hbi⟩
  · obtain ⟨i, hi, hbi⟩ := hc.head bs hbs b hb
    obtain ⟨o, ho, hr⟩ := hm i hi
    exact ⟨h.hrange i o ho hr b hbi, fun hI => hI.2.2 i o ho hr hbi⟩

/-- What one step of taking gives. -/
structure Took (G : Gh) (σ σ2 : Sg) (ids new : List Nat) (bss : List (List Nat)) : Prop where
  gone : Gone σ σ2 (ids ++ new)
  mine : Mine σ new
  fresh : ∀ i ∈ new, i ∉ ids
  nodup : new.Nodup
  cls : Cls G new bss

theorem Took.none (hg : Gone σ σ' ids) : Took G σ σ' ids [] [] := ⟨by simpa using hg, by simp [Mine], by simp, by simp, Cls.nil⟩
theorem Took.none1 (hg : Gone σ σ' ids) : Took G σ σ' ids [] [[]] := ⟨by simpa using hg, by simp [Mine], by simp, by simp, Cls.nil1⟩

theorem Took.trans (h : RelG E G σ a w) {σ2 σ3 : Sg} {n1 n2 : List Nat} {b1 b2 : List (List Nat)} (h1 : Took G σ σ2 ids n1 b1) (h2 : Took G σ σ3 (ids ++ n1) n2 b2) : Took G σ σ3 ids (n1 ++ n2) (b1 ++ b2) := by
  have hd : ∀ i ∈ n2, i ∉ n1 := fun i hi hm => h2.fresh i hi (List.mem_append_right _ hm)
  refine ⟨by rw [← List.append_assoc]; exact h2.gone, fun i hi => ?_, fun i hi => ?_, ?_, Cls.append h h1.mine h2.mine hd h1.cls h2.cls⟩
  · rcases List.mem_append.1 hi with hi | hi
    · exact h1.mine i hi
    · exact h2.mine i hi
  · rcases List.mem_append.1 hi with hi | hi
    · exact h1.fresh i hi
    · exact fun hm => h2.fresh i hi (List.mem_append_left _ hm)
  · rw [List.nodup_append]
    exact ⟨h1.nodup, h2.nodup, fun b hb c hc hbc => hd c hc (hbc ▸ hb)⟩

theorem tkO_some {dp : Bool} {e : TypeId} {t : Ty} {x : L} {k : List t.den → Sg → Option ρ} {r : ρ} {v : Value} (h : RelG E G σ a w) (hg : Gone σ σ' ids) (hk : tkO σ' dp e t x k = some r)
    (hv : VL (Imm E G σ w) σ.hp.length G w x v) : ∃ y σ2 new bs, k y σ2 = some r ∧ Took G σ σ2 ids new [bs] ∧ OwnV (Imm E G σ w) w dp e t y v bs := by
  unfold tkO at hk
  split at hk
  · simp only [VL] at hv
    subst hv
    refine ⟨[], σ', [], [], hk, Took.none1 hg, ?_⟩
    exact OwnV.mk (cells := []) (bss := []) (by simp) ⟨by simp, .inl ⟨rfl, rfl⟩⟩ (by simp [Value.ownBlock]) (fun _ => rfl) (fun _ => rfl) ⟨by simp, fun i y hi => by simp at hi⟩
  · rename_i id
    split at hk
    · rename_i dp' e' t' y ho
      split at hk
      · rename_i hc
        simp only [Bool.and_eq_true, beq_iff_eq] at hc
        obtain ⟨hok, rfl⟩ := hc
        cases hca : castT (.list t') (.list t) y with
        | none => simp [hca] at hk
        | some z =>
          simp only [hca, Option.bind_some] at hk
          obtain ⟨e0, rfl⟩ := castT_some hca
          simp only [Ty.list.injEq] at e0
          subst e0
          obtain ⟨hni, ho'⟩ := hg.sub ho
          obtain ⟨_, rfl, _⟩ := hv
          have hor := h.obs id _ ho'
          simp only [OR] at hor
          have hmine : Mine σ [id] := fun i hi => by simp only [List.mem_singleton] at hi; subst hi; exact ⟨_, ho', rfl⟩
          -- claims that are the object's own
          have took : ∀ bs, bs.Nodup → (∀ b ∈ bs, b ∈ (G id).2) → (∀ b, bs.head? = some b → (G id).2.head? = some b) → Took G σ (setHp σ' id none) ids [id] [bs] := fun bs h1 h2 h3 =>
            ⟨hg.step ho, hmine, fun i hi => by simp only [List.mem_singleton] at hi; subst hi; exact hni, by simp, by simpa using h1,
              fun q hq b hb => by simp only [List.mem_singleton] at hq; subst hq; exact ⟨id, by simp, h2 b hb⟩,
              fun q hq b hb => by simp only [List.mem_singleton] at hq; subst hq; exact ⟨id, by simp, h3 b hb⟩⟩
          have hnd := h.nodup id _ ho' rfl
          by_cases hdd : dp = dp'
          · subst hdd
            exact ⟨_, _, [id], _, hk, took _ hnd (fun b hb => hb) (fun b hb => hb), hor⟩
          · cases dp with
            | false =>
              obtain ⟨cells, how, hl, hchk⟩ := h.shallow ho'
              obtain ⟨_, cells2, bss, _, hbs, _⟩ := hor.chk
              refine ⟨_, _, [id], (G id).1.ownBlock.toList, hk, took _ (by cases (G id).1.ownBlock <;> simp) (fun b hb => by rw [hbs]; exact List.mem_append_left _ hb) (fun b hb => ?_), ?_⟩
              · rw [hbs]
                cases hv : (G id).1.ownBlock with
                | none => rw [hv] at hb; simp at hb
                | some g => rw [hv] at hb; simpa using hb
              · exact OwnV.mk (cells := cells) (bss := []) hl how (by simp) (fun hf => by simp at hf) (fun _ => rfl) (by simpa using hchk)
            | true =>
              have hdp' : dp' = false := by cases dp' <;> simp_all
              subst hdp'
              have hf : t'.flat = true := by simpa [okDp] using hok
              obtain ⟨hl, cells, bss, how, hbs, _, hd2, hchk⟩ := hor.chk
              have hd2 := hd2 rfl
              subst hd2
              refine ⟨_, _, [id], _, hk, took _ hnd (fun b hb => hb) (fun b hb => hb), ?_⟩
              refine OwnV.mk (cells := cells) (bss := List.replicate y.length []) hl how (by rw [hbs]; simp) (fun _ => by simp) (fun hf => by simp at hf) ?_
              refine hchk.imp fun i y cs hi hy => ?_
              simp only [if_true, rep_get]
              simp only [Bool.false_eq_true, if_false] at hy
              exact flat_Dp t' hf hy
      · simp at hk
    · simp at hk
  · simp at hk

theorem decL_some {c : LK} {x : L} {k : c.den → Sg → Option ρ} {r : ρ} {v : Value} (h : RelG E G σ a w) (hg : Gone σ σ' ids) (hm : Mine σ ids) (hk : decL σ' c x k = some r)
    (hv : VL (Imm E G σ w) σ.hp.length G w x v) : ∃ y σ2 new bs, k y σ2 = some r ∧ Took G σ σ2 ids new [bs] ∧ LV (Imm E G σ w) w c y v bs := by
  unfold decL at hk
  split at hk
  · rename_i nn t
    split at hk
    · rename_i hok
      obtain ⟨y, h1, _, h3, h4⟩ := rdL_gone h hg hm hk hv
      obtain ⟨h5, h6⟩ := nnK_some h1 h4
      exact ⟨y, σ', [], [], h5, Took.none1 hg, h3 hok, h6, rfl⟩
    · simp at hk
  · obtain ⟨y, σ2, new, bs, h1, h2, h3⟩ := tkO_some h hg hk hv
    exact ⟨y, σ2, new, bs, h1, h2, h3⟩

theorem Mine.append {n1 n2 : List Nat} (h1 : Mine σ n1) (h2 : Mine σ n2) : Mine σ (n1 ++ n2) := fun i hi => by
  rcases List.mem_append.1 hi with hi | hi
  · exact h1 i hi
  · exact h2 i hi

theorem decLs_some : (cs : List LK) → {ids : List Nat} → {σ' : Sg} → {xs : List L} → {k : LKs.den cs → Sg → Option ρ} → {r : ρ} → {vs : List Value} → (h : RelG E G σ a w) → (hg : Gone σ σ' ids) → (hm : Mine σ ids) → (hk : decLs cs xs σ' k = some r) →
    (hv : VLs (Imm E G σ w) σ.hp.length G w xs vs) → ∃ y σ2 new bss, k y σ2 = some r ∧ Took G σ σ2 ids new bss ∧ LVs (Imm E G σ w) w cs y vs bss
  | [], ids, σ', [], k, r, [], h, hg, hm, hk, hv => ⟨(), σ', [], [], hk, Took.none hg, rfl⟩
  | [c], ids, σ', [x], k, r, [v], h, hg, hm, hk, hv => by
    simp only [decLs] at hk
    obtain ⟨y, σ2, new, bs, h1, h2, h3⟩ := decL_some h hg hm hk hv.1.1
    exact ⟨y, σ2, new, [bs], h1, h2, bs, rfl, h3, hv.1.2⟩
  | c :: c' :: r', ids, σ', x :: xs, k, r, v :: vs, h, hg, hm, hk, hv => by
    simp only [decLs] at hk
    obtain ⟨y, σ2, new, bs, h1, h2, h3⟩ := decL_some h hg hm hk hv.1.1
    obtain ⟨ys, σ3, new2, bss, k1, k2, k3⟩ := decLs_some (c' :: r') h h2.gone (hm.append h2.mine) h1 hv.2
    exact ⟨(y, ys), σ3, new ++ new2, bs :: bss, k1, Took.trans h h2 k2, bs, bss, rfl, ⟨h3, hv.1.2⟩, k3⟩
  | [], _, _, _ :: _, _, _, _, _, _, _, hk, _ => by simp [decLs] at hk
  | [_], _, _, [], _, _, _, _, _, _, hk, _ => by simp [decLs] at hk
  | [_], _, _, _ :: _ :: _, _, _, _, _, _, _, hk, _ => by simp [decLs] at hk
  | _ :: _ :: _, _, _, [], _, _, _, _, _, _, hk, _ => by simp [decLs] at hk
  | [], _, _, [], _, _, _ :: _, _, _, _, _, hv => hv.elim
  | [_], _, _, [_], _, _, [], _, _, _, _, hv => hv.elim
  | [_], _, _, [_], _, _, _ :: _ :: _, _, _, _, _, hv => hv.2.elim
  | _ :: _ :: _, _, _, _ :: _, _, _, [], _, _, _, _, hv => hv.elim

theorem splitD_ne : (t : Ty) → (x : t.den) → splitD t x ≠ []
  | .prod a b, x => by simp only [splitD]; intro h; exact splitD_ne a x.1 (List.append_eq_nil_iff.1 h).1
  | .int _, x => by simp [splitD]
  | .bool, x => by simp [splitD]
  | .str, x => by simp [splitD]
  | .list _, x => by simp [splitD]

theorem decS_some {c : SK} {x : A} {k : c.den → Sg → Option ρ} {r : ρ} {v : Value} (h : RelG E G σ a w) (hg : Gone σ σ' ids) (hm : Mine σ ids) (hk : decS c x σ' k = some r)
    (hv : VA (Imm E G σ w) σ.hp.length G w x v) : ∃ y σ2 new bss, k y σ2 = some r ∧ Took G σ σ2 ids new bss ∧ SV (Imm E G σ w) w c y v bss := by
  unfold decS at hk
  split at hk
  · split at hk
    · obtain ⟨y, σ2, new, bs, h1, h2, h3⟩ := decL_some h hg hm hk hv
      exact ⟨y, σ2, new, [bs], h1, h2, bs, rfl, h3⟩
    · split at hk
      · split at hk
        · rename_i hok
          obtain ⟨y, h1, _, h3, h4⟩ := rdA_gone h hg hm hk hv
          exact ⟨y, σ', [], [[]], h1, Took.none1 hg, [], rfl, h3 hok, fun _ => h4 fun l hl => by simp at hl, rfl⟩
        · simp at hk
      · simp at hk
    · simp at hk
  · split at hk
    · obtain ⟨vs, rfl, hvs⟩ := hv
      obtain ⟨y, σ2, new, bss, h1, h2, h3⟩ := decLs_some _ h hg hm hk hvs
      exact ⟨y, σ2, new, bss, h1, h2, vs, rfl, h3⟩
    · rename_i nn p q z
      have hvs := cellsA_VLs hv (splitD_ne (.prod p q) z)
      obtain ⟨cs, hcs, rfl⟩ := hv.1
      have e1 : (mkV (.prod p q) cs).cells.toList = cs := by simp [mkV, Ty.isProd, Value.cells]
      rw [e1] at hvs
      obtain ⟨y, σ2, new, bss, h1, h2, h3⟩ := decLs_some _ h hg hm hk hvs
      exact ⟨y, σ2, new, bss, h1, h2, cs, by simp [mkV, Ty.isProd], h3⟩
    · simp at hk
  · split at hk
    · rename_i id
      split at hk
      · rename_i e' ls ho
        split at hk
        · rename_i hee
          rw [beq_iff_eq] at hee
          subst hee
          obtain ⟨hni, ho'⟩ := hg.sub ho
          obtain ⟨_, b, hgv, rfl⟩ := hv
          have hor := h.obs id _ ho'
          simp only [OR, Bool.false_eq_true, if_false] at hor
          obtain ⟨b', arr, hg', hh, hcs, hG⟩ := hor
          rw [hgv] at hg'
          simp only [Value.pointer.injEq, Option.some.injEq, Addr.mk.injEq, and_true] at hg'
          subst hg'
          have hmine : Mine σ [id] := fun i hi => by simp only [List.mem_singleton] at hi; subst hi; exact ⟨_, ho', rfl⟩
          have t1 : Took G σ (setHp σ' id none) ids [id] [[b]] := ⟨hg.step ho, hmine, fun i hi => by simp only [List.mem_singleton] at hi; subst hi; exact hni, by simp, by simp,
              fun q hq c hc => by simp only [List.mem_singleton] at hq; subst hq; exact ⟨id, by simp, by rw [hG]; exact hc⟩,
              fun q hq c hc => by simp only [List.mem_singleton] at hq; subst hq; exact ⟨id, by simp, by rw [hG]; exact hc⟩⟩
          obtain ⟨y, σ2, new, bss, h1, h2, h3⟩ := decLs_some _ h t1.gone (hm.append hmine) hk hcs
          have t2 := Took.trans h t1 h2
          refine ⟨y, σ2, [id] ++ new, bss ++ [[b]], h1, ⟨t2.gone, t2.mine, t2.fresh, t2.nodup, ?_⟩, b, arr, bss, rfl, hh, h3, rfl⟩
          have hc := t2.cls
          refine ⟨?_, fun q hq => hc.mem q ((List.mem_append.1 hq).elim (List.mem_append_right _) (List.mem_append_left _)), fun q hq => hc.head q ((List.mem_append.1 hq).elim (List.mem_append_right _) (List.mem_append_left _))⟩
          have := hc.nodup
          rw [List.flatten_append] at this ⊢
          exact (List.perm_append_comm).nodup_iff.1 this
        · simp at hk
      · simp at hk
    · simp at hk

theorem decSs_some : (cs : List SK) → {ids : List Nat} → {σ' : Sg} → {xs : List A} → {k : SKs.den cs → Sg → Option ρ} → {r : ρ} → {vs : List Value} → (h : RelG E G σ a w) → (hg : Gone σ σ' ids) → (hm : Mine σ ids) → (hk : decSs cs xs σ' k = some r) →
    (hv : VAs (Imm E G σ w) σ.hp.length G w xs vs) → ∃ y σ2 new bss, k y σ2 = some r ∧ Took G σ σ2 ids new bss ∧ SVs (Imm E G σ w) w cs y vs bss
  | [], ids, σ', [], k, r, [], h, hg, hm, hk, hv => ⟨(), σ', [], [], hk, Took.none hg, rfl⟩
  | [c], ids, σ', [x], k, r, [v], h, hg, hm, hk, hv => by
    simp only [decSs] at hk
    exact decS_some h hg hm hk hv.1
  | c :: c' :: r', ids, σ', x :: xs, k, r, v :: vs, h, hg, hm, hk, hv => by
    simp only [decSs] at hk
    obtain ⟨y, σ2, new, bs, h1, h2, h3⟩ := decS_some h hg hm hk hv.1
    obtain ⟨ys, σ3, new2, bss, k1, k2, k3⟩ := decSs_some (c' :: r') h h2.gone (hm.append h2.mine) h1 hv.2
    exact ⟨(y, ys), σ3, new ++ new2, bs ++ bss, k1, Took.trans h h2 k2, bs, bss, rfl, h3, k3⟩
  | [], _, _, _ :: _, _, _, _, _, _, _, hk, _ => by simp [decSs] at hk
  | [_], _, _, [], _, _, _, _, _, _, hk, _ => by simp [decSs] at hk
  | [_], _, _, _ :: _ :: _, _, _, _, _, _, _, hk, _ => by simp [decSs] at hk
  | _ :: _ :: _, _, _, [], _, _, _, _, _, _, hk, _ => by simp [decSs] at hk
  | [], _, _, [], _, _, _ :: _, _, _, _, _, hv => hv.elim
  | [_], _, _, [_], _, _, [], _, _, _, _, hv => hv.elim
  | [_], _, _, [_], _, _, _ :: _ :: _, _, _, _, _, hv => hv.2.elim
  | _ :: _ :: _, _, _, _ :: _, _, _, [], _, _, _, _, hv => hv.elim

/-- States that differ in what is frozen. -/
inductive Frz : Sg → Sg → Prop
  | refl (σ : Sg) : Frz σ σ
  | step {σ σ' : Sg} (x : L) : Frz σ σ' → Frz σ (freezeL σ' x)

theorem Frz.trans {s1 s2 s3 : Sg} (h : Frz s1 s2) (k : Frz s2 s3) : Frz s1 s3 := by
  induction k with
  | refl => exact h
  | step x _ ih => exact .step x ih

theorem Frz.rel {s : Sg} (f : Frz σ s) (h : RelG E G σ a w) : RelG E G s a w := by
  induction f with
  | refl => exact h
  | step x _ ih => exact ih.freezeL x

theorem Frz.keep {s : Sg} (f : Frz σ s) : Keep (Imm E G σ w) (Imm E G s w) σ.hp.length s.hp.length G G w w := by
  induction f with
  | refl => exact ⟨fun _ hb => hb, fun _ _ => rfl, Nat.le_refl _, fun _ _ => rfl⟩
  | step x _ ih => exact ⟨fun b hb => (keepFreeze x).imm b (ih.imm b hb), fun _ _ => rfl, Nat.le_trans ih.n (keepFreeze (E := E) (G := G) (w := w) x).n, fun _ _ => rfl⟩

theorem Frz.kp {s : Sg} (f : Frz σ s) : Kp σ s := by
  induction f with
  | refl => exact Kp.refl _
  | step x _ ih => exact ih.trans (Kp.freezeL _ x)

theorem Frz.len {s : Sg} (f : Frz σ s) : s.hp.length = σ.hp.length := by
  induction f with
  | refl => rfl
  | step x _ ih => rw [freezeL_len]; exact ih

theorem Frz.foldl (ls : List L) : ∀ {s : Sg}, Frz σ s → Frz σ (ls.foldl freezeL s) := by
  induction ls with
  | nil => exact fun h => h
  | cons x ls ih => exact fun h => ih (.step x h)

theorem frzL_frz (c : LK) (x : L) (σ : Sg) : Frz σ (frzL σ c x) := by
  cases c with
  | d nn t => exact .step x (.refl _)
  | o dp e t => exact .refl _

theorem frzLs_frz : (cs : List LK) → (xs : List L) → (σ : Sg) → Frz σ (frzLs cs xs σ)
  | [], _, σ => by simp only [frzLs]; exact .refl _
  | _ :: _, [], σ => by simp only [frzLs]; exact .refl _
  | c :: cs, x :: xs, σ => by simp only [frzLs]; exact (frzL_frz c x σ).trans (frzLs_frz cs xs _)

theorem frzS_frz (c : SK) (x : A) (σ : Sg) : Frz σ (frzS c x σ) := by
  unfold frzS
  split
  · split
    · exact frzL_frz _ _ _
    · exact Frz.foldl _ (.refl _)
    · exact .refl _
  · exact frzLs_frz _ _ _
  · split
    · split
      · exact frzLs_frz _ _ _
      · exact .refl _
    · exact .refl _

theorem frzSs_frz : (cs : List SK) → (xs : List A) → (σ : Sg) → Frz σ (frzSs cs xs σ)
  | [], _, σ => by simp only [frzSs]; exact .refl _
  | _ :: _, [], σ => by simp only [frzSs]; exact .refl _
  | c :: cs, x :: xs, σ => by simp only [frzSs]; exact (frzS_frz c x σ).trans (frzSs_frz cs xs _)

/-- Taking: from a state in which what is read is frozen. -/
theorem takeSs_some (cs : List SK) {xs : List A} {k : SKs.den cs → Sg → Option ρ} {r : ρ} {vs : List Value} (h : RelG E G σ a w) (hk : takeSs σ cs xs k = some r) (hv : VAs (Imm E G σ w) σ.hp.length G w xs vs) :
    ∃ σ1 y σ2 new bss, Frz σ σ1 ∧ k y σ2 = some r ∧ RelG E G σ1 a w ∧ Took G σ1 σ2 [] new bss ∧ SVs (Imm E G σ1 w) w cs y vs bss := by
  unfold takeSs at hk
  have f := frzSs_frz cs xs σ
  have h1 := f.rel h
  obtain ⟨y, σ2, new, bss, k1, k2, k3⟩ := decSs_some cs h1 (Gone.refl _) (by simp [Mine]) hk (hv.keep f.keep _)
  exact ⟨_, y, σ2, new, bss, f, k1, h1, k2, k3⟩

end
end Go.Proofs.Ytajlabmnpimeeaa.Eng
