/-
  The engine, part 11. Append, make, literals, stores, parts of own slices. No condition.
-/
import Derived.Test.YtajlabmnpimeeaaEng10
namespace Go.Proofs.Ytajlabmnpimeeaa.Eng
open Go
set_option linter.unusedVariables false
set_option linter.unusedSimpArgs false

section
variable {ρ : Type} {C : Ctx} {E : En} {G : Gh} {σ : Sg} {a : Act} {w : World}

theorem appD_some {α β : Type} {n : Nat} {xs ys : List α} {k : List α → Option β} {r : β} (h : (appD n xs ys).bind k = some r) :
    (xs.length + ys.length) * n ≤ lim ∧ xs.length + ys.length ≤ lim ∧ k (xs ++ ys) = some r := by
  unfold appD at h
  split at h
  · rename_i hc; exact ⟨hc.1, hc.2, h⟩
  · simp at h

theorem appendK_some {ts : Array TypeId} {s x : A} {k : A → Sg → Option ρ} {r : ρ} {v u : Value} (h : RelG E G σ a w) (hk : appendK C σ ts s x k = some r)
    (hv : VA (Imm E G σ w) σ.hp.length G w s v) (hu : VA (Imm E G σ w) σ.hp.length G w x u) :
    ∃ v' w', (∀ tyy, (Builtin.append_ ts tyy #[v, u]).run C.P w = .ok v' w') ∧ OpOut C E G σ a w k r (.ok (.value v') w') := by
  unfold appendK at hk
  split at hk
  · rename_i tS tX hts
    obtain ⟨rfl⟩ : ts = #[tS, tX] := by
      cases ts with
      | mk l => simp at hts; rw [hts]
    split at hk
    · rename_i e he
      split at hk
      · rename_i ty by_ hlook hby
        split at hk
        · rename_i hc
          obtain ⟨hsz, rfl, hz⟩ := hc
          split at hk
          · -- nil
            simp only [VA, VL] at hv
            subst hv
            obtain ⟨dp', ys, σ2, hk, hyl, hsrc, hcase⟩ := srcK_some h (fun i o ho => ho) hk hu
            obtain ⟨hb1, hb2, hk⟩ := appD_some hk
            rcases hcase with ⟨rfl, rfl⟩ | ⟨id2, e2, hu2, ho2, rfl, _, rfl⟩
            · obtain ⟨v', w', hrun, G', hrel, hga, hvl⟩ := append_core (C := C) (σ2 := σ2) (xs := []) (dp := true) (ds := []) (ds2 := []) h ⟨.inl ⟨rfl, rfl, rfl, rfl⟩⟩ hsrc (.inl ⟨rfl, rfl⟩) (fun i => by simp) rfl rfl he hsz hby hz hb2 hb1
              exact ⟨v', w', hrun, _, _, hk, Kp.add _ _, G', hrel, hga, hvl⟩
            · obtain ⟨v', w', hrun, G', hrel, hga, hvl⟩ := append_core (C := C) (σ2 := setHp σ id2 none) (xs := []) (dp := true) (ds := []) (ds2 := [id2]) h ⟨.inl ⟨rfl, rfl, rfl, rfl⟩⟩ hsrc (.inr ⟨id2, e2, rfl, hu2, ho2, rfl, rfl, by simp⟩)
                (fun i => by rw [ob_setHp]; have := Sg.ob_lt ho2; by_cases hi : i = id2 <;> simp [hi, this]) rfl (by simp) he hsz hby hz hb2 hb1
              exact ⟨v', w', hrun, _, _, hk, (Kp.set _ ho2 rfl).trans (Kp.add _ _), G', hrel, hga, hvl⟩
          · rename_i id
            obtain ⟨hid, rfl, _⟩ := hv
            split at hk
            · rename_i dp e' ty' xs ho
              split at hk
              · rename_i he'
                subst he'
                cases hca : castT (.list ty') (.list ty) xs with
                | none => simp [hca] at hk
                | some xs2 =>
                  simp only [hca, Option.bind_some] at hk
                  obtain ⟨e0, rfl⟩ := castT_some hca
                  simp only [Ty.list.injEq] at e0
                  subst e0
                  have hlt := Sg.ob_lt ho
                  have hsub : ∀ i o, (setHp σ id none).ob i = some o → σ.ob i = some o := fun i o hi => by
                    rw [ob_setHp] at hi; split at hi
                    · simp at hi
                    · exact hi
                  obtain ⟨dp', ys, σ2, hk, hyl, hsrc, hcase⟩ := srcK_some h hsub hk hu
                  obtain ⟨hb1, hb2, hk⟩ := appD_some hk
                  rcases hcase with ⟨rfl, rfl⟩ | ⟨id2, e2, hu2, ho2, rfl, rfl, rfl⟩
                  · obtain ⟨v', w', hrun, G', hrel, hga, hvl⟩ := append_core (C := C) (σ2 := setHp σ id none) (ds := [id]) (ds2 := []) h ⟨.inr ⟨id, rfl, rfl, ho⟩⟩ hsrc (.inl ⟨rfl, rfl⟩)
                      (fun i => by rw [ob_setHp]; by_cases hi : i = id <;> simp [hi, hlt]) rfl (by simp) he hsz hby hz hb2 hb1
                    exact ⟨v', w', hrun, _, _, hk, (Kp.set _ ho rfl).trans (Kp.add _ _), G', hrel, hga, hvl⟩
                  · have hne : id2 ≠ id := fun e => by
                      subst e; rw [ob_setHp] at ho2; simp [hlt] at ho2
                    obtain ⟨v', w', hrun, G', hrel, hga, hvl⟩ := append_core (C := C) (σ2 := setHp (setHp σ id none) id2 none) (ds := [id]) (ds2 := [id2]) h ⟨.inr ⟨id, rfl, rfl, ho⟩⟩ hsrc (.inr ⟨id2, e2, rfl, hu2, hsub _ _ ho2, rfl, rfl, by simpa using hne⟩)
                      (fun i => by
                        have h2 := Sg.ob_lt ho2
                        rw [ob_setHp, ob_setHp]
                        by_cases hi : i = id2
                        · simp [hi, h2] at h2 ⊢; omega
                        · by_cases hi' : i = id <;> simp [hi, hi', hlt]) rfl (by simp) he hsz hby hz hb2 hb1
                    exact ⟨v', w', hrun, _, _, hk, ((Kp.set _ ho rfl).trans (Kp.set _ ho2 rfl)).trans (Kp.add _ _), G', hrel, hga, hvl⟩
              · simp at hk
            · simp at hk
          · simp at hk
        · simp at hk
      · simp at hk
    · simp at hk
  · simp at hk

end
end Go.Proofs.Ytajlabmnpimeeaa.Eng
