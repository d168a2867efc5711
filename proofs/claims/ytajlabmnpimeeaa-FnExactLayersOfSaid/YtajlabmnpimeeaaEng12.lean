/-
  The engine, part 12. Taking elements over. No condition.
-/
import Derived.Test.YtajlabmnpimeeaaEng11
namespace Go.Proofs.Ytajlabmnpimeeaa.Eng
open Go
set_option linter.unusedVariables false
set_option linter.unusedSimpArgs false

section
variable {ρ : Type} {C : Ctx} {E : En} {G : Gh} {σ : Sg} {a : Act} {w : World}

theorem Imm.freezeL {x : L} {b : Nat} (h : Imm E G σ w b) : Imm E G (freezeL σ x) w b := by
  refine ⟨h.1, h.2.1, fun i o ho hr => ?_⟩
  unfold Eng.freezeL at ho
  split at ho
  · split at ho
    · rename_i id o' ho'
      rw [ob_setHp] at ho
      split at ho
      · obtain rfl := Option.some.inj ho
        cases o' <;> simp [Ob.freeze, Ob.ro] at hr
      · exact h.2.2 i o ho hr
    · exact h.2.2 i o ho hr
  · exact h.2.2 i o ho hr

theorem keepFreeze (x : L) : Keep (Imm E G σ w) (Imm E G (freezeL σ x) w) σ.hp.length (freezeL σ x).hp.length G G w w :=
  ⟨fun b hb => hb.freezeL, fun _ _ => rfl, by rw [freezeL_len]; exact Nat.le_refl _, fun _ _ => rfl⟩

/-- Data that is read, frozen: its cells do not change any more. -/
theorem rdL_freeze {t : Ty} {x : L} {k : t.den → Option ρ} {r : ρ} {v : Value} (h : RelG E G σ a w) (hk : rdL σ t x k = some r)
    (hv : VL (Imm E G σ w) σ.hp.length G w x v) : ∃ y, k y = some r ∧ RdV (Imm E G (freezeL σ x) w) w t y v := by
  obtain ⟨y, h1, h2, h3, h4⟩ := rdL_some h hk hv
  refine ⟨y, h1, ?_⟩
  by_cases hx : ∃ id, x = .ref id
  · obtain ⟨id, rfl⟩ := hx
    obtain ⟨ro, dp, e, t', z, ho, rfl, hz⟩ := h4 id rfl
    have hz := eq_of_heq hz
    subst hz
    have hf := h.freeze id _ ho
    have hor := hf.obs id (.own true dp e t' z) (by rw [ob_setHp, if_pos ⟨rfl, Sg.ob_lt ho⟩]; rfl)
    simp only [OR] at hor
    have e1 : freezeL σ (.ref id) = setHp σ id (some (Ob.own ro dp e t' z).freeze) := by simp [Eng.freezeL, ho]
    rw [e1, hv.2.1]
    exact hor
  · exact (h3 fun id he => hx ⟨id, he⟩).mono (fun b hb => hb.freezeL) fun _ _ => rfl

theorem cells_one {v : Value} (h : v.oneCell' = true) : v.cells.toList = [v] := by
  cases v <;> first | rfl | (simp [Value.oneCell'] at h)

theorem tkF_some : (t : Ty) → {σ : Sg} → {ls : List L} → {vs : List Value} → {k : t.den → List L → Sg → Option ρ} → {r : ρ} → (h : RelG E G σ a w) → (hk : tkLs false t σ ls k = some r) →
    (hv : VLs (Imm E G σ w) σ.hp.length G w ls vs) → ∃ y ls' σ' cs vs', k y ls' σ' = some r ∧ vs = cs ++ vs' ∧ RelG E G σ' a w ∧ Kp σ σ' ∧
      Keep (Imm E G σ w) (Imm E G σ' w) σ.hp.length σ'.hp.length G G w w ∧ VLs (Imm E G σ' w) σ'.hp.length G w ls' vs' ∧ RdC (Imm E G σ' w) w t y cs
  | .prod p q, σ, ls, vs, k, r, h, hk, hv => by
    simp only [tkLs] at hk
    obtain ⟨y1, l1, σ1, c1, v1, hk1, rfl, r1, kp1, ke1, hv1, rd1⟩ := tkF_some p h hk hv
    obtain ⟨y2, l2, σ2, c2, v2, hk2, rfl, r2, kp2, ke2, hv2, rd2⟩ := tkF_some q r1 hk1 hv1
    refine ⟨(y1, y2), l2, σ2, c1 ++ c2, v2, hk2, by simp, r2, kp1.trans kp2, ⟨fun b hb => ke2.imm b (ke1.imm b hb), fun _ _ => rfl, Nat.le_trans ke1.n ke2.n, fun _ _ => rfl⟩, hv2, ?_⟩
    simp only [RdC]
    exact ⟨c1, c2, rfl, rd1.mono ke2.imm (fun _ _ => rfl) p, rd2⟩
  | .list t, σ, x :: ls, v :: vs, k, r, h, hk, hv => by
    simp only [tkLs, Bool.false_eq_true, if_false] at hk
    obtain ⟨y, hk, hrd⟩ := rdL_freeze h hk hv.1.1
    refine ⟨y, ls, _, [v], vs, hk, rfl, h.freezeL x, Kp.freezeL σ x, keepFreeze x, hv.2.keep (keepFreeze x) _, ?_⟩
    have := hrd.cells
    rwa [cells_one hv.1.2] at this
  | .int kd, σ, x :: ls, v :: vs, k, r, h, hk, hv => by
    simp only [tkLs] at hk
    obtain ⟨y, hk, hrd, h3, h4⟩ := rdL_some h hk hv.1.1
    refine ⟨y, ls, σ, [v], vs, hk, rfl, h, Kp.refl _, ⟨fun _ hb => hb, fun _ _ => rfl, Nat.le_refl _, fun _ _ => rfl⟩, hv.2, ?_⟩
    rw [RdV_int] at hrd; subst hrd; rfl
  | .bool, σ, x :: ls, v :: vs, k, r, h, hk, hv => by
    simp only [tkLs] at hk
    obtain ⟨y, hk, hrd, h3, h4⟩ := rdL_some h hk hv.1.1
    refine ⟨y, ls, σ, [v], vs, hk, rfl, h, Kp.refl _, ⟨fun _ hb => hb, fun _ _ => rfl, Nat.le_refl _, fun _ _ => rfl⟩, hv.2, ?_⟩
    rw [RdV_bool] at hrd; subst hrd; rfl
  | .str, σ, x :: ls, v :: vs, k, r, h, hk, hv => by
    simp only [tkLs] at hk
    obtain ⟨y, hk, hrd, h3, h4⟩ := rdL_some h hk hv.1.1
    refine ⟨y, ls, σ, [v], vs, hk, rfl, h, Kp.refl _, ⟨fun _ hb => hb, fun _ _ => rfl, Nat.le_refl _, fun _ _ => rfl⟩, hv.2, ?_⟩
    rw [RdV_str] at hrd; obtain ⟨hrd, hs⟩ := hrd; subst hrd; exact ⟨rfl, hs⟩
  | .list t, σ, [], vs, k, r, h, hk, hv => by simp [tkLs] at hk
  | .int kd, σ, [], vs, k, r, h, hk, hv => by simp [tkLs] at hk
  | .bool, σ, [], vs, k, r, h, hk, hv => by simp [tkLs] at hk
  | .str, σ, [], vs, k, r, h, hk, hv => by simp [tkLs] at hk
  | .list t, σ, _ :: _, [], k, r, h, hk, hv => hv.elim
  | .int kd, σ, _ :: _, [], k, r, h, hk, hv => hv.elim
  | .bool, σ, _ :: _, [], k, r, h, hk, hv => hv.elim
  | .str, σ, _ :: _, [], k, r, h, hk, hv => hv.elim

/-- Given up so far: 'ids'. -/
structure Gone (σ σ' : Sg) (ids : List Nat) : Prop where
  ob : ∀ i, σ'.ob i = if i ∈ ids then none else σ.ob i
  env : σ'.env = σ.env
  len : σ'.hp.length = σ.hp.length

theorem Gone.sub {σ σ' : Sg} {ids : List Nat} (h : Gone σ σ' ids) {i : Nat} {o : Ob} (ho : σ'.ob i = some o) : i ∉ ids ∧ σ.ob i = some o := by
  rw [h.ob i] at ho
  split at ho
  · simp at ho
  · exact ⟨‹_›, ho⟩

theorem Gone.refl (σ : Sg) : Gone σ σ [] := ⟨fun i => by simp, rfl, rfl⟩

theorem Gone.step {σ σ' : Sg} {ids : List Nat} (h : Gone σ σ' ids) {id : Nat} {o : Ob} (ho : σ'.ob id = some o) : Gone σ (setHp σ' id none) (ids ++ [id]) :=
  ⟨fun i => by
    have := Sg.ob_lt ho
    rw [ob_setHp, h.ob i]
    by_cases hi : i = id
    · simp [hi, this]
    · simp [hi], h.env, by simp [h.len]⟩

/-- A slice of the call's own, deep, as one element of another. -/
theorem OwnV.dpC {I : Nat → Prop} {dp : Bool} {e : TypeId} {t : Ty} {x : List t.den} {v : Value} {bs : List Nat} (h : OwnV I w dp e t x v bs) (hd : dp = true ∨ t.flat = true) : DpC 0 w (.list t) x [v] bs := by
  obtain ⟨hl, cells, bss, ho, hbs, h1, h2, hc⟩ := h.chk
  simp only [DpC]
  rcases ho.2 with ⟨rfl, hn⟩ | ⟨g, cap, cur, rfl, hg, hh, hnc, hcm, hcs, htake⟩
  · have hx : x = [] := List.eq_nil_of_length_eq_zero hn
    refine ⟨none, 0, 0, rfl, by simp [hx], Nat.le_refl _, Nat.zero_le _, Nat.zero_le _, .inl ⟨hx, ?_, rfl, rfl⟩⟩
    have hb0 : bss = [] := by
      cases dp with
      | true => exact List.eq_nil_of_length_eq_zero (by rw [h1 rfl, hn])
      | false => exact h2 rfl
    rw [hbs, hb0]; rfl
  · refine ⟨_, _, _, rfl, rfl, hnc, hcm, hl, .inr ⟨g, 0, cur, e, if dp = true then bss else List.replicate x.length [], rfl, ?_, ?_, Nat.zero_le _, ⟨hh, rfl, hcs⟩, fun i y hi => ?_⟩⟩
    · rw [hbs]
      cases dp with
      | true => simp [Value.ownBlock]
      | false => simp [Value.ownBlock, h2 rfl]
    · cases dp with
      | true => simpa using h1 rfl
      | false => simp
    · obtain ⟨ys, hy1, hy2, hy3⟩ := hc.2 i y hi
      have hil := (List.getElem?_eq_some_iff.1 hi).1
      refine ⟨ys, hy1, fun j hj => ?_, ?_⟩
      · rw [← hy2 j hj, Nat.zero_add, ← htake, List.getElem?_take, if_pos (chunk_lt hil hj), Array.getElem?_toList]
      · cases dp with
        | true => simpa using hy3
        | false =>
          have hf : t.flat = true := by rcases hd with hd | hd
                                        · simp at hd
                                        · exact hd
          simp only [Bool.false_eq_true, if_false] at hy3 ⊢
          have : (List.replicate x.length ([] : List Nat))[i]?.getD [] = [] := by
            rw [List.getElem?_replicate]; split <;> rfl
          rw [this]
          exact flat_Dp t hf hy3

theorem tkT_some : (t : Ty) → {σ' : Sg} → {ids : List Nat} → {ls : List L} → {vs : List Value} → {k : t.den → List L → Sg → Option ρ} → {r : ρ} → (h : RelG E G σ a w) → (hg : Gone σ σ' ids) →
    (hk : tkLs true t σ' ls k = some r) → (hv : VLs (Imm E G σ w) σ.hp.length G w ls vs) →
    ∃ y ls' σ2 cs vs' new, k y ls' σ2 = some r ∧ vs = cs ++ vs' ∧ Gone σ σ2 (ids ++ new) ∧ VLs (Imm E G σ w) σ.hp.length G w ls' vs' ∧
      (∀ i ∈ new, i ∉ ids ∧ ∃ o, σ.ob i = some o ∧ o.ro = false) ∧ new.Nodup ∧ DpC 0 w t y cs (new.flatMap fun i => (G i).2)
  | .prod p q, σ', ids, ls, vs, k, r, h, hg, hk, hv => by
    simp only [tkLs] at hk
    obtain ⟨y1, l1, σ1, c1, v1, n1, hk1, rfl, g1, hv1, ho1, nd1, d1⟩ := tkT_some p h hg hk hv
    obtain ⟨y2, l2, σ2, c2, v2, n2, hk2, rfl, g2, hv2, ho2, nd2, d2⟩ := tkT_some q h g1 hk1 hv1
    refine ⟨(y1, y2), l2, σ2, c1 ++ c2, v2, n1 ++ n2, hk2, by simp, by rw [← List.append_assoc]; exact g2, hv2, fun i hi => ?_, ?_, ?_⟩
    · rcases List.mem_append.1 hi with hi | hi
      · exact ho1 i hi
      · have := ho2 i hi; exact ⟨fun hm => this.1 (List.mem_append_left _ hm), this.2⟩
    · rw [List.nodup_append]
      exact ⟨nd1, nd2, fun b hb c hc hbc => (ho2 c hc).1 (List.mem_append_right _ (hbc ▸ hb))⟩
    · simp only [DpC, List.flatMap_append]
      exact ⟨c1, c2, _, _, rfl, rfl, d1, d2⟩
  | .list t, σ', ids, x :: ls, v :: vs, k, r, h, hg, hk, hv => by
    simp only [tkLs, if_true] at hk
    split at hk
    · have hv1 := hv.1.1
      simp only [VL] at hv1
      subst hv1
      refine ⟨[], ls, σ', [.slice none 0 0], vs, [], hk, rfl, by simpa using hg, hv.2, by simp, by simp, ?_⟩
      exact ⟨none, 0, 0, rfl, rfl, Nat.le_refl _, Nat.zero_le _, Nat.zero_le _, .inl ⟨rfl, rfl, rfl, rfl⟩⟩
    · rename_i id
      split at hk
      · rename_i dp' e t' y ho
        split at hk
        · rename_i hok
          cases hc : castT (.list t') (.list t) y with
          | none => simp [hc] at hk
          | some z =>
            simp only [hc, Option.bind_some] at hk
            obtain ⟨e0, rfl⟩ := castT_some hc
            simp only [Ty.list.injEq] at e0
            subst e0
            obtain ⟨hni, ho'⟩ := hg.sub ho
            have hor := h.obs id _ ho'
            simp only [OR] at hor
            obtain ⟨_, rfl, _⟩ := hv.1.1
            refine ⟨_, ls, _, [(G id).1], vs, [id], hk, rfl, hg.step ho, hv.2, fun i hi => ?_, by simp, ?_⟩
            · simp only [List.mem_singleton] at hi; subst hi; exact ⟨hni, _, ho', rfl⟩
            · have := hor.dpC (by unfold okDp at hok; simpa using hok)
              simpa using this
        · simp at hk
      · simp at hk
    · simp at hk
  | .int kd, σ', ids, x :: ls, v :: vs, k, r, h, hg, hk, hv => by
    simp only [tkLs] at hk
    unfold rdL at hk
    split at hk
    · rename_i nn t' y
      cases hc : castT t' (.int kd) y with
      | none => simp [hc] at hk
      | some z =>
        simp only [hc, Option.bind_some] at hk
        obtain ⟨e0, rfl⟩ := castT_some hc
        subst e0
        have := RdV_int.1 hv.1.1.1
        subst this
        exact ⟨_, ls, σ', [.int kd y], vs, [], hk, rfl, by simpa using hg, hv.2, by simp, by simp, rfl, rfl⟩
    · simp at hk
    · split at hk
      · rename_i t' y _
        cases hc : castT (.list t') (.int kd) y with
        | none => simp [hc] at hk
        | some z => obtain ⟨e0, _⟩ := castT_some hc; simp at e0
      · simp at hk
    · simp at hk
  | .bool, σ', ids, x :: ls, v :: vs, k, r, h, hg, hk, hv => by
    simp only [tkLs] at hk
    unfold rdL at hk
    split at hk
    · rename_i nn t' y
      cases hc : castT t' .bool y with
      | none => simp [hc] at hk
      | some z =>
        simp only [hc, Option.bind_some] at hk
        obtain ⟨e0, rfl⟩ := castT_some hc
        subst e0
        have := RdV_bool.1 hv.1.1.1
        subst this
        exact ⟨_, ls, σ', [.bool y], vs, [], hk, rfl, by simpa using hg, hv.2, by simp, by simp, rfl, rfl⟩
    · simp at hk
    · split at hk
      · rename_i t' y _
        cases hc : castT (.list t') .bool y with
        | none => simp [hc] at hk
        | some z => obtain ⟨e0, _⟩ := castT_some hc; simp at e0
      · simp at hk
    · simp at hk
  | .str, σ', ids, x :: ls, v :: vs, k, r, h, hg, hk, hv => by
    simp only [tkLs] at hk
    unfold rdL at hk
    split at hk
    · rename_i nn t' y
      cases hc : castT t' .str y with
      | none => simp [hc] at hk
      | some z =>
        simp only [hc, Option.bind_some] at hk
        obtain ⟨e0, rfl⟩ := castT_some hc
        subst e0
        obtain ⟨this, hs⟩ := RdV_str.1 hv.1.1.1
        subst this
        exact ⟨_, ls, σ', [.string y], vs, [], hk, rfl, by simpa using hg, hv.2, by simp, by simp, rfl, hs, rfl⟩
    · simp at hk
    · split at hk
      · rename_i t' y _
        cases hc : castT (.list t') .str y with
        | none => simp [hc] at hk
        | some z => obtain ⟨e0, _⟩ := castT_some hc; simp at e0
      · simp at hk
    · simp at hk
  | .list t, σ', ids, [], vs, k, r, h, hg, hk, hv => by simp [tkLs] at hk
  | .int kd, σ', ids, [], vs, k, r, h, hg, hk, hv => by simp [tkLs] at hk
  | .bool, σ', ids, [], vs, k, r, h, hg, hk, hv => by simp [tkLs] at hk
  | .str, σ', ids, [], vs, k, r, h, hg, hk, hv => by simp [tkLs] at hk
  | .list t, σ', ids, _ :: _, [], k, r, h, hg, hk, hv => hv.elim
  | .int kd, σ', ids, _ :: _, [], k, r, h, hg, hk, hv => hv.elim
  | .bool, σ', ids, _ :: _, [], k, r, h, hg, hk, hv => hv.elim
  | .str, σ', ids, _ :: _, [], k, r, h, hg, hk, hv => hv.elim

end
end Go.Proofs.Ytajlabmnpimeeaa.Eng
