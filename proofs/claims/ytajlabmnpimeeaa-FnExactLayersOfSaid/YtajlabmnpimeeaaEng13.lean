/-
  The engine, part 13. Literals and make. No condition.
-/
import Derived.Test.YtajlabmnpimeeaaEng12
namespace Go.Proofs.Ytajlabmnpimeeaa.Eng
open Go
set_option linter.unusedVariables false
set_option linter.unusedSimpArgs false

section
variable {ρ : Type} {C : Ctx} {E : En} {G : Gh} {σ : Sg} {a : Act} {w : World}

/-- Values one by one. -/
def VAs (I : Nat → Prop) (N : Nat) (G : Gh) (w : World) : List A → List Value → Prop
  | [], [] => True
  | x :: xs, v :: vs => VA I N G w x v ∧ VAs I N G w xs vs
  | _, _ => False

theorem VAs.keep {I I' : Nat → Prop} {N N' : Nat} {G G' : Gh} {w w' : World} (k : Keep I I' N N' G G' w w') : (l : List A) → {v : List Value} → VAs I N G w l v → VAs I' N' G' w' l v
  | [], [], _ => trivial
  | l :: ls, v :: vs, h => ⟨h.1.keep k l, VAs.keep k ls h.2⟩
  | [], _ :: _, h => h.elim
  | _ :: _, [], h => h.elim

theorem VAs.length {I : Nat → Prop} {N : Nat} : (l : List A) → {v : List Value} → VAs I N G w l v → l.length = v.length
  | [], [], _ => rfl
  | _ :: ls, _ :: vs, h => by simp [VAs.length ls h.2]
  | [], _ :: _, h => h.elim
  | _ :: _, [], h => h.elim

theorem Chk.cons {t : Ty} {y : t.den} {ys : List t.den} {c cs : List Value} {R R' : Nat → t.den → List Value → Prop} (h1 : c.length = t.wid) (hr : R' 0 y c) (h2 : Chk t ys cs R)
    (hR : ∀ i y d, ys[i]? = some y → R i y d → R' (i + 1) y d) : Chk t (y :: ys) (c ++ cs) R' := by
  refine ⟨by rw [List.length_append, h1, h2.1, List.length_cons, Nat.add_mul]; omega, fun i z hi => ?_⟩
  cases i with
  | zero =>
    simp at hi; subst hi
    exact ⟨c, h1, fun j hj => by rw [Nat.zero_mul, Nat.zero_add, List.getElem?_append_left (by omega)], hr⟩
  | succ i =>
    simp at hi
    obtain ⟨d, hd1, hd2, hd3⟩ := h2.2 i z hi
    refine ⟨d, hd1, fun j hj => ?_, hR i z d hi hd3⟩
    rw [← hd2 j hj, List.getElem?_append_right (by rw [h1, Nat.add_mul]; omega)]
    congr 1
    rw [h1, Nat.add_mul]; omega

theorem cellsA_of_tk {dp : Bool} {t : Ty} {x : A} {k : t.den → List L → Sg → Option ρ} {r : ρ} (hk : tkLs dp t σ (cellsA x) k = some r) : cellsA x ≠ [] := by
  intro h0
  rw [h0] at hk
  have : ∀ (t : Ty) (k : t.den → List L → Sg → Option ρ), tkLs dp t σ [] k = none := by
    intro t
    induction t with
    | prod p q ih1 ih2 => intro k; simp only [tkLs]; exact ih1 _
    | _ => intro k; simp [tkLs]
  rw [this] at hk
  simp at hk

theorem elemsF_some (ty : Ty) : (xs : List A) → {σ : Sg} → {us : List Value} → {k : List ty.den → Sg → Option ρ} → {r : ρ} → RelG E G σ a w → elemsK false ty σ xs k = some r →
    VAs (Imm E G σ w) σ.hp.length G w xs us → ∃ ys σ', k ys σ' = some r ∧ ys.length = xs.length ∧ RelG E G σ' a w ∧ Kp σ σ' ∧
      Keep (Imm E G σ w) (Imm E G σ' w) σ.hp.length σ'.hp.length G G w w ∧ (∀ u ∈ us, u.cells.size = ty.wid) ∧ Chk ty ys (us.flatMap fun u => u.cells.toList) fun _ y cs => RdC (Imm E G σ' w) w ty y cs
  | [], σ, [], k, r, h, hk, hv => ⟨[], σ, hk, rfl, h, Kp.refl _, ⟨fun _ hb => hb, fun _ _ => rfl, Nat.le_refl _, fun _ _ => rfl⟩, by simp, ⟨by simp, fun i y hi => by simp at hi⟩⟩
  | x :: xs, σ, u :: us, k, r, h, hk, hv => by
    simp only [elemsK] at hk
    have hne := cellsA_of_tk hk
    obtain ⟨y, ls', σ1, cs, vs', hk1, hvs, h1, kp1, ke1, hv1, hrd⟩ := tkF_some ty h hk (cellsA_VLs hv.1 hne)
    cases ls' with
    | cons _ _ => simp at hk1
    | nil =>
      have hvs0 : vs' = [] := by cases vs' with
        | nil => rfl
        | cons _ _ => exact hv1.elim
      subst hvs0
      simp only [List.append_nil] at hvs
      obtain ⟨ys, σ2, hk2, hl, h2, kp2, ke2, hus, hchk⟩ := elemsF_some ty xs h1 hk1 (hv.2.keep ke1 xs)
      have hlen := hrd.length
      refine ⟨y :: ys, σ2, hk2, by simp [hl], h2, kp1.trans kp2, ⟨fun b hb => ke2.imm b (ke1.imm b hb), fun _ _ => rfl, Nat.le_trans ke1.n ke2.n, fun _ _ => rfl⟩, ?_, ?_⟩
      · intro u' hu'
        rcases List.mem_cons.1 hu' with rfl | hu'
        · have : u'.cells.toList.length = ty.wid := by rw [hvs]; exact hlen
          simpa using this
        · exact hus u' hu'
      · rw [List.flatMap_cons, hvs]
        exact hchk.cons hlen (hrd.mono ke2.imm (fun _ _ => rfl) ty) fun i y d _ hd => hd
  | [], _, _ :: _, _, _, _, _, hv => hv.elim
  | _ :: _, _, [], _, _, _, _, hv => hv.elim

theorem elemsT_some (ty : Ty) (h : RelG E G σ a w) : (xs : List A) → {σ' : Sg} → {ids : List Nat} → {us : List Value} → {k : List ty.den → Sg → Option ρ} → {r : ρ} → Gone σ σ' ids → elemsK true ty σ' xs k = some r →
    VAs (Imm E G σ w) σ.hp.length G w xs us → ∃ (ys : List ty.den) (σ2 : Sg) (news : List (List Nat)), k ys σ2 = some r ∧ ys.length = xs.length ∧ news.length = xs.length ∧ Gone σ σ2 (ids ++ news.flatten) ∧
      (∀ i ∈ news.flatten, i ∉ ids ∧ ∃ o, σ.ob i = some o ∧ o.ro = false) ∧ news.flatten.Nodup ∧ (∀ u ∈ us, u.cells.size = ty.wid) ∧
      Chk ty ys (us.flatMap fun u => u.cells.toList) fun i y cs => DpC 0 w ty y cs ((news[i]?.getD []).flatMap fun i => (G i).2)
  | [], σ', ids, [], k, r, hg, hk, hv => ⟨[], σ', [], hk, rfl, rfl, by simpa using hg, by simp, by simp, by simp, ⟨by simp, fun i y hi => by simp at hi⟩⟩
  | x :: xs, σ', ids, u :: us, k, r, hg, hk, hv => by
    simp only [elemsK] at hk
    have hne := cellsA_of_tk hk
    obtain ⟨y, ls', σ1, cs, vs', new, hk1, hvs, g1, hv1, ho1, nd1, hrd⟩ := tkT_some ty h hg hk (cellsA_VLs hv.1 hne)
    cases ls' with
    | cons _ _ => simp at hk1
    | nil =>
      have hvs0 : vs' = [] := by cases vs' with
        | nil => rfl
        | cons _ _ => exact hv1.elim
      subst hvs0
      simp only [List.append_nil] at hvs
      obtain ⟨ys, σ2, news, hk2, hl, hnl, g2, ho2, nd2, hus, hchk⟩ := elemsT_some ty h xs g1 hk1 hv.2
      have hlen := hrd.length
      refine ⟨y :: ys, σ2, new :: news, hk2, by simp [hl], by simp [hnl], by rw [List.flatten_cons, ← List.append_assoc]; exact g2, fun i hi => ?_, ?_, ?_, ?_⟩
      · rw [List.flatten_cons] at hi
        rcases List.mem_append.1 hi with hi | hi
        · exact ho1 i hi
        · have := ho2 i hi; exact ⟨fun hm => this.1 (List.mem_append_left _ hm), this.2⟩
      · rw [List.flatten_cons, List.nodup_append]
        exact ⟨nd1, nd2, fun b hb c hc hbc => (ho2 c hc).1 (List.mem_append_right _ (hbc ▸ hb))⟩
      · intro u' hu'
        rcases List.mem_cons.1 hu' with rfl | hu'
        · have : u'.cells.toList.length = ty.wid := by rw [hvs]; exact hlen
          simpa using this
        · exact hus u' hu'
      · rw [List.flatMap_cons, hvs]
        exact hchk.cons hlen (by simpa using hrd) fun i y d _ hd => by simpa using hd
  | [], _, _, _ :: _, _, _, _, _, hv => hv.elim
  | _ :: _, _, _, [], _, _, _, _, hv => hv.elim

theorem fill_full (size : Nat) : (ps : List (Nat × Value)) → (n : Nat) → (cells : Array Value) → (∀ i p, ps[i]? = some p → p.1 = n + i ∧ p.2.cells.size = size) → (n + ps.length) * size ≤ cells.size →
    ∃ arr, Instr.fill (fun i => some (i * size, size)) cells ps = some arr ∧ arr.toList = cells.toList.take (n * size) ++ (ps.flatMap fun p => p.2.cells.toList) ++ cells.toList.drop ((n + ps.length) * size)
  | [], n, cells, _, _ => ⟨cells, rfl, by simp⟩
  | (i, v) :: ps, n, cells, hp, hc => by
    obtain ⟨hi, hv⟩ := hp 0 _ rfl
    simp only [Nat.add_zero] at hi hv
    subst hi
    have hc' : i * size + size ≤ cells.size := by
      refine Nat.le_trans ?_ hc
      rw [List.length_cons]
      calc i * size + size = (i + 1) * size := by rw [Nat.add_mul, Nat.one_mul]
        _ ≤ (i + (ps.length + 1)) * size := Nat.mul_le_mul_right _ (by omega)
    have hset := foldl_set (i * size) v.cells.toList 0 cells (by simp [hv]; exact hc')
    have e : (v.cells.zipIdx.foldl (fun cs p => cs.setIfInBounds (i * size + p.2) p.1) cells).toList = cells.toList.take (i * size) ++ v.cells.toList ++ cells.toList.drop (i * size + size) := by
      rw [← Array.foldl_toList, Array.toList_zipIdx, hset]
      simp [hv]
    have hsz : (v.cells.zipIdx.foldl (fun cs p => cs.setIfInBounds (i * size + p.2) p.1) cells).size = cells.size := by
      rw [← Array.length_toList, e]
      simp [hv]; omega
    obtain ⟨arr, h1, h2⟩ := fill_full size ps (i + 1) (v.cells.zipIdx.foldl (fun cs p => cs.setIfInBounds (i * size + p.2) p.1) cells)
      (fun j p hj => by have := hp (j + 1) p (by simpa using hj); exact ⟨by omega, this.2⟩) (by rw [hsz]; rw [List.length_cons] at hc; rwa [show i + 1 + ps.length = i + (ps.length + 1) from by omega])
    refine ⟨arr, ?_, ?_⟩
    · simp only [Instr.fill]
      rw [if_neg (by simp [hv]; omega)]
      exact h1
    · rw [h2, e]
      have l1 : (cells.toList.take (i * size)).length = i * size := by simp; omega
      have l2 : v.cells.toList.length = size := by simp [hv]
      have e1 : (i + 1) * size = i * size + size := by rw [Nat.add_mul, Nat.one_mul]
      rw [List.flatMap_cons, List.length_cons]
      have t1 : (cells.toList.take (i * size) ++ v.cells.toList ++ cells.toList.drop (i * size + size)).take ((i + 1) * size) = cells.toList.take (i * size) ++ v.cells.toList := by
        rw [List.take_append_of_le_length (by simp [hv]; omega), List.take_of_length_le (by simp [hv]; omega)]
      have t2 : (cells.toList.take (i * size) ++ v.cells.toList ++ cells.toList.drop (i * size + size)).drop ((i + 1 + ps.length) * size) = cells.toList.drop ((i + (ps.length + 1)) * size) := by
        rw [List.drop_append, List.drop_of_length_le (by simp [hv]; rw [Nat.add_mul (i + 1)]; omega), List.nil_append, List.drop_drop]
        congr 1
        simp [hv]
        have : (i + 1 + ps.length) * size = i * size + size + ps.length * size := by rw [Nat.add_mul, Nat.add_mul, Nat.one_mul]
        have : (i + (ps.length + 1)) * size = i * size + (ps.length * size + size) := by rw [Nat.add_mul, Nat.add_mul, Nat.one_mul]
        omega
      rw [t1, t2]
      simp

theorem inOrder_at : (n : Nat) → (ps : List (Nat × Operand)) → inOrder n ps = true → ∀ i p, ps[i]? = some p → p.1 = n + i
  | _, [], _, i, p, hi => by simp at hi
  | n, (j, x) :: ps, h, i, p, hi => by
    simp only [inOrder, Bool.and_eq_true, beq_iff_eq] at h
    cases i with
    | zero => simp at hi; subst hi; exact h.1
    | succ i => simp at hi; have := inOrder_at (n + 1) ps h.2 i p hi; omega

theorem run_buildSlice {t e : TypeId} {size : Nat} {parts : Array (Nat × Value)} {P : Program} (ht : P.underlying t = some (.slice e)) {i : TypeInfo} (hi : P.info? e = some i) (hs : i.size = size)
    {z : Value} (hz : i.zero = some z) (hp : ∀ (j : Nat) (p : Nat × Value), parts.toList[j]? = some p → p.1 = j ∧ p.2.cells.size = size) (hl : parts.size * size ≤ 16777216) :
    ∃ arr : Array Value, arr.toList = (parts.toList.flatMap fun p => p.2.cells.toList) ∧
      (Instr.buildSlice t parts.size parts).run P w = .ok (.slice (some ⟨w.heap.size, 0, none⟩) parts.size parts.size) (w.alloc (.cells arr e)) := by
  subst hs
  have key : ∀ (base : Array Value), base.size = parts.size * i.size → ∃ arr : Array Value, Instr.fill (fun j => some (j * i.size, i.size)) base parts.toList = some arr ∧ arr.toList = (parts.toList.flatMap fun p => p.2.cells.toList) := fun base hb => by
    obtain ⟨arr, h1, h2⟩ := fill_full i.size parts.toList 0 base (fun j p hj => by have := hp j p hj; exact ⟨by omega, this.2⟩) (by simp [hb])
    refine ⟨arr, h1, ?_⟩
    rw [h2]
    simp [hb]
  by_cases h0 : parts.size * i.size = 0
  · obtain ⟨arr, h1, h2⟩ := key ((Array.range (parts.size * i.size)).map ((#[] : Array Value)[· % (#[] : Array Value).size]!)) (by simp)
    refine ⟨arr, h2, ?_⟩
    simp only [Instr.buildSlice, Sem.run_bind, run_underlying ht, sizeOf, typeInfo, hi, Result.andThen_ok, Sem.run_pure, run_program]
    rw [if_neg (by omega)]
    simp only [h0, if_true, Sem.run_bind, Sem.run_pure, Result.andThen_ok] at h1 ⊢
    simp only [h1]
    simp [newRow]
  · obtain ⟨arr, h1, h2⟩ := key ((Array.range (parts.size * i.size)).map (z.cells[· % z.cells.size]!)) (by simp)
    refine ⟨arr, h2, ?_⟩
    simp only [Instr.buildSlice, Sem.run_bind, run_underlying ht, sizeOf, typeInfo, hi, Result.andThen_ok, Sem.run_pure, run_program]
    rw [if_neg (by omega)]
    simp only [h0, if_false, Sem.run_bind, Sem.run_pure, Result.andThen_ok, zeroValue, typeInfo, run_program, hi, hz]
    simp only [h1]
    simp [newRow]

end
end Go.Proofs.Ytajlabmnpimeeaa.Eng
