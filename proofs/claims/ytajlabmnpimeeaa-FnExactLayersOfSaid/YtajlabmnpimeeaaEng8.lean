/-
  The engine, part 8. New variables and structs. No condition.
-/
import Derived.Test.YtajlabmnpimeeaaEng7
import Derived.Laws.Tables
namespace Go.Proofs.Ytajlabmnpimeeaa.Eng
open Go
set_option linter.unusedVariables false
set_option linter.unusedSimpArgs false

section
variable {I : Nat → Prop} {N : Nat} {G : Gh} {w : World}

theorem VLs.length : (cs : List L) → {vs : List Value} → VLs I N G w cs vs → cs.length = vs.length
  | [], [], _ => rfl
  | _ :: cs, _ :: vs, h => by simp [VLs.length cs h.2]
  | [], _ :: _, h => h.elim
  | _ :: _, [], h => h.elim

theorem VLs.append : (cs : List L) → {vs : List Value} → {cs' : List L} → {vs' : List Value} → VLs I N G w cs vs → VLs I N G w cs' vs' → VLs I N G w (cs ++ cs') (vs ++ vs')
  | [], [], _, _, _, h => h
  | _ :: cs, _ :: vs, _, _, h, h' => ⟨h.1, VLs.append cs h.2 h'⟩
  | [], _ :: _, _, _, h, _ => h.elim
  | _ :: _, [], _, _, h, _ => h.elim

theorem VLs.take : (n : Nat) → (cs : List L) → {vs : List Value} → VLs I N G w cs vs → VLs I N G w (cs.take n) (vs.take n)
  | 0, _, _, _ => by simp [VLs]
  | n + 1, [], [], _ => trivial
  | n + 1, _ :: cs, _ :: vs, h => ⟨h.1, VLs.take n cs h.2⟩
  | _ + 1, [], _ :: _, h => h.elim
  | _ + 1, _ :: _, [], h => h.elim

theorem VLs.drop : (n : Nat) → (cs : List L) → {vs : List Value} → VLs I N G w cs vs → VLs I N G w (cs.drop n) (vs.drop n)
  | 0, _, _, h => h
  | n + 1, [], [], _ => trivial
  | n + 1, _ :: cs, _ :: vs, h => VLs.drop n cs h.2
  | _ + 1, [], _ :: _, h => h.elim
  | _ + 1, _ :: _, [], h => h.elim

theorem VLs.one : (cs : List L) → {vs : List Value} → VLs I N G w cs vs → ∀ v ∈ vs, v.oneCell' = true
  | [], [], _, v, hv => by simp at hv
  | _ :: cs, u :: vs, h, v, hv => by
    rcases List.mem_cons.1 hv with rfl | hv
    · exact h.1.2
    · exact VLs.one cs h.2 v hv
  | [], _ :: _, h, _, _ => h.elim
  | _ :: _, [], h, _, _ => h.elim

theorem splitD_VLs : (t : Ty) → {x : t.den} → {cs : List Value} → RdC I w t x cs → VLs I N G w (splitD t x) cs
  | .int k, x, cs, h => by
    have h0 := h
    simp only [RdC] at h; subst h
    exact ⟨⟨⟨⟨_, h0, rfl⟩, fun hn => by simp at hn⟩, rfl⟩, trivial⟩
  | .bool, x, cs, h => by
    have h0 := h
    simp only [RdC] at h; subst h
    exact ⟨⟨⟨⟨_, h0, rfl⟩, fun hn => by simp at hn⟩, rfl⟩, trivial⟩
  | .str, x, cs, h => by
    have h0 := h
    simp only [RdC] at h; obtain ⟨h, _⟩ := h; subst h
    exact ⟨⟨⟨⟨_, h0, rfl⟩, fun hn => by simp at hn⟩, rfl⟩, trivial⟩
  | .list t, x, cs, h => by
    have h0 := h
    simp only [RdC] at h; obtain ⟨p, n, c, h, _⟩ := h; subst h
    exact ⟨⟨⟨⟨_, h0, rfl⟩, fun hn => by simp at hn⟩, rfl⟩, trivial⟩
  | .prod p q, x, cs, h => by
    simp only [RdC] at h
    obtain ⟨c1, c2, rfl, h1, h2⟩ := h
    exact (splitD_VLs p h1).append _ (splitD_VLs q h2)

theorem cellsA_VLs {x : A} {v : Value} (hv : VA I N G w x v) (hne : cellsA x ≠ []) : VLs I N G w (cellsA x) v.cells.toList := by
  unfold cellsA at hne ⊢
  split at hne
  · exact absurd rfl hne
  · exact absurd rfl hne
  · exact splitD_VLs _ hv.1.cells
  · rename_i x h1 h0 h2
    have key : v.oneCell' = true ∧ v.cells.toList = [v] := by
      cases x with
      | unk => exact absurd rfl h1
      | nils => simp only [VA, VL] at hv; subst hv; exact ⟨rfl, rfl⟩
      | dat nn t y =>
        cases t with
        | prod p q => exact absurd rfl (h2 nn p q y)
        | int k => have := RdV_int.1 hv.1; subst this; exact ⟨rfl, rfl⟩
        | bool => have := RdV_bool.1 hv.1; subst this; exact ⟨rfl, rfl⟩
        | str => obtain ⟨this, _⟩ := RdV_str.1 hv.1; subst this; exact ⟨rfl, rfl⟩
        | list t => obtain ⟨p, c, rfl, _⟩ := RdV_list hv.1; exact ⟨rfl, rfl⟩
      | cptr t y => obtain ⟨b, o, cs, rfl, _⟩ := hv; exact ⟨rfl, rfl⟩
      | ref id =>
        obtain ⟨_, _, h3⟩ := hv
        refine ⟨h3, ?_⟩
        cases v <;> first | rfl | (simp [Value.oneCell'] at h3)
      | optr id wid i => obtain ⟨_, b, n, c, _, rfl⟩ := hv; exact ⟨rfl, rfl⟩
      | bptr id j => obtain ⟨_, b, _, rfl⟩ := hv; exact ⟨rfl, rfl⟩
      | fn f => simp only [VA, VL] at hv; subst hv; exact ⟨rfl, rfl⟩
      | clo f ids => obtain ⟨rfl, _⟩ := hv; exact ⟨rfl, rfl⟩
      | und => exact absurd rfl h0
      | sub id wid l m => obtain ⟨_, p, n, c, _, rfl⟩ := hv; exact ⟨rfl, rfl⟩
    rw [key.2]
    exact ⟨⟨hv, key.1⟩, trivial⟩
  · obtain ⟨vs, rfl, hvs⟩ := hv
    simpa [Value.cells] using hvs
  · exact absurd rfl hne

theorem foldl_set (off : Nat) : ∀ (l : List Value) (n : Nat) (arr : Array Value), off + n + l.length ≤ arr.size →
    ((l.zipIdx n).foldl (fun cs p => cs.setIfInBounds (off + p.2) p.1) arr).toList = arr.toList.take (off + n) ++ l ++ arr.toList.drop (off + n + l.length)
  | [], n, arr, h => by simp
  | v :: l, n, arr, h => by
    simp only [List.zipIdx_cons, List.foldl_cons, List.length_cons] at h ⊢
    rw [foldl_set off l (n + 1) _ (by simp; omega)]
    simp only [Array.toList_setIfInBounds]
    have hlt : off + n < arr.toList.length := by simp; omega
    rw [show off + (n + 1) = (off + n) + 1 from by omega, List.take_set, List.drop_set]
    rw [List.take_succ_eq_append_getElem hlt]
    rw [if_pos (by omega)]
    have e1 : ((arr.toList.take (off + n) ++ [arr.toList[off + n]]).set (off + n) v) = arr.toList.take (off + n) ++ [v] := by
      have hl : (arr.toList.take (off + n)).length = off + n := by rw [List.length_take]; omega
      rw [List.set_append_right _ _ (by omega), hl]
      simp
    rw [e1, show off + n + 1 + l.length = off + n + (l.length + 1) from by omega]
    simp

theorem fill_some (place : Nat → Option (Nat × Nat)) : ∀ (ps : List (Nat × List L)) (qs : List (Nat × Value)) (cs : List L) (cells : Array Value) (ls : List L),
    fillLs place cs ps = some ls → VLs I N G w cs cells.toList → ps.length = qs.length →
    (∀ (i : Nat) (p : Nat × List L) (q : Nat × Value), ps[i]? = some p → qs[i]? = some q → p.1 = q.1 ∧ (p.2 ≠ [] → VLs I N G w p.2 q.2.cells.toList)) →
    ∃ arr, Instr.fill place cells qs = some arr ∧ VLs I N G w ls arr.toList
  | [], [], cs, cells, ls, hk, hv, _, _ => by
    simp only [fillLs, Option.some.injEq] at hk
    subst hk
    exact ⟨cells, rfl, hv⟩
  | [], _ :: _, _, _, _, _, _, hl, _ => by simp at hl
  | _ :: _, [], _, _, _, _, _, hl, _ => by simp at hl
  | (i, l) :: ps, (j, v) :: qs, cs, cells, ls, hk, hv, hl, hp => by
    simp only [fillLs] at hk
    obtain ⟨hij, hvl⟩ := hp 0 _ _ rfl rfl
    simp only at hij hvl
    subst hij
    split at hk
    · rename_i off sz hpl
      split at hk
      · rename_i hc
        obtain ⟨hc1, hc2, hc3⟩ := hc
        have hv1 := hvl (by intro h0; rw [h0] at hc3; simp at hc3)
        have hlen := hv1.length
        have hcl := hv.length
        have hcl' : cs.length = cells.size := by simpa using hcl
        have hvs : v.cells.size = sz := by simp at hlen; omega
        have hset := foldl_set off v.cells.toList 0 cells (by simp; omega)
        have := fill_some place ps qs _ (v.cells.zipIdx.foldl (fun cs p => cs.setIfInBounds (off + p.2) p.1) cells) ls hk ?_ (by simpa using hl) (fun i p q h1 h2 => hp (i + 1) p q (by simpa using h1) (by simpa using h2))
        · obtain ⟨arr, h1, h2⟩ := this
          refine ⟨arr, ?_, h2⟩
          simp only [Instr.fill, hpl]
          rw [if_neg (by simp [hvs]; omega)]
          exact h1
        · have e : (v.cells.zipIdx.foldl (fun cs p => cs.setIfInBounds (off + p.2) p.1) cells).toList = cells.toList.take off ++ v.cells.toList ++ cells.toList.drop (off + sz) := by
            rw [← Array.foldl_toList, Array.toList_zipIdx]
            rw [hset]
            simp [hvs]
          rw [e]
          exact ((hv.take off _).append _ hv1).append _ (hv.drop (off + sz) _)
      · simp at hk
    · simp at hk

theorem zeroL_VL (v : Value) : VL I N G w (zeroL v) v := by
  unfold zeroL
  split
  · exact ⟨RdV_int.2 rfl, fun _ => trivial⟩
  · exact ⟨RdV_bool.2 rfl, fun _ => trivial⟩
  · split
    · rename_i hs; exact ⟨RdV_str.2 ⟨rfl, by rw [hs]; exact Nat.zero_le _⟩, fun _ => trivial⟩
    · trivial
  · rfl
  · trivial

theorem zeroLs_some {C : Ctx} {t : TypeId} {zs : List L} (h : zeroLs C t = some zs) : ∃ i z, C.P.info? t = some i ∧ i.zero = some z ∧ VLs I N G w zs z.cells.toList := by
  unfold zeroLs at h
  cases hi : C.P.info? t with
  | none => simp [hi] at h
  | some i =>
    simp only [hi, Option.bind_some] at h
    cases hz : i.zero with
    | none => simp [hz] at h
    | some z =>
      simp only [hz, Option.bind_some] at h
      split at h
      · rename_i hall
        obtain rfl := Option.some.inj h
        refine ⟨i, z, rfl, hz, ?_⟩
        have : ∀ (vs : List Value), vs.all Value.oneCell' = true → VLs I N G w (vs.map zeroL) vs := by
          intro vs
          induction vs with
          | nil => intro _; trivial
          | cons v vs ih => intro hv; simp at hv; exact ⟨⟨zeroL_VL v, hv.1⟩, ih (by simpa using hv.2)⟩
        exact this _ hall
      · simp at h

end

section
variable {ρ : Type} {C : Ctx} {E : En} {G : Gh} {σ : Sg} {a : Act} {w : World}

/-- A new variable in memory. -/
theorem RelG.newBox (h : RelG E G σ a w) (e : TypeId) (cs : List L) (arr : Array Value) (hvs : VLs (Imm E G σ w) σ.hp.length G w cs arr.toList) :
    ∃ G', RelG E G' (addHp σ (.box false e cs)) a (w.alloc (.cells arr e)) ∧ GA E σ (addHp σ (.box false e cs)) G G' w (w.alloc (.cells arr e)) ∧
      VL (Imm E G' (addHp σ (.box false e cs)) (w.alloc (.cells arr e))) (addHp σ (.box false e cs)).hp.length G' (w.alloc (.cells arr e)) (.bptr σ.hp.length 0) (.pointer (some ⟨w.heap.size, 0, none⟩)) := by
  obtain ⟨G', h1, h2, h3⟩ := h.add (Ext.alloc w (.cells arr e)) (.box false e cs) (.pointer (some ⟨w.heap.size, 0, none⟩)) [w.heap.size] rfl (by simp) (by simp)
    fun I G' k hG => by
      simp only [OR, hG]
      refine ⟨w.heap.size, arr, rfl, heap_alloc_new w _, hvs.keep k _, by simp⟩
  exact ⟨G', h1, h3, by simp [addHp], w.heap.size, h2, rfl⟩

theorem alloc_some {e : TypeId} {zs : List L} {k : A → Sg → Option ρ} {r : ρ} (h : RelG E G σ a w) (hz : zeroLs C e = some zs)
    (hk : k (.l (.bptr σ.hp.length 0)) (addHp σ (.box false e zs)) = some r) :
    ∃ v w', (Instr.alloc e true (.tuple #[])).run C.P w = .ok v w' ∧ OpOut C E G σ a w k r (.ok (.value v) w') := by
  obtain ⟨i, z, hi, hz', hvs⟩ := zeroLs_some (I := Imm E G σ w) (N := σ.hp.length) (G := G) (w := w) hz
  obtain ⟨G', h1, hga, h2⟩ := h.newBox e zs z.cells hvs
  exact ⟨_, _, by simp [Instr.alloc, zeroValue, typeInfo, hi, hz', newVar, newRow], _, _, hk, Kp.add _ _, G', h1, hga, h2⟩

theorem box_some {e : TypeId} {x : A} {v : Value} {k : A → Sg → Option ρ} {r : ρ} (h : RelG E G σ a w) (hv : VA (Imm E G σ w) σ.hp.length G w x v) (hne : cellsA x ≠ [])
    (hk : k (.l (.bptr σ.hp.length 0)) (addHp σ (.box false e (cellsA x))) = some r) :
    ∃ u w', (Instr.box e v).run C.P w = .ok u w' ∧ OpOut C E G σ a w k r (.ok (.value u) w') := by
  obtain ⟨G', h1, hga, h2⟩ := h.newBox e _ v.cells (cellsA_VLs hv hne)
  exact ⟨_, _, by simp [Instr.box, newVar, newRow], _, _, hk, Kp.add _ _, G', h1, hga, h2⟩

theorem build_some {t : TypeId} {parts : Array (Nat × Operand)} {k : A → Option ρ} {r : ρ} (h : RelG E G σ a w) (hk : buildK C σ t parts k = some r) :
    ∃ z u, k z = some r ∧ (Instr.build t (parts.map fun (i, x) => (i, a.eval x))).run C.P w = .ok u w ∧ VA (Imm E G σ w) σ.hp.length G w z u := by
  unfold buildK at hk
  split at hk
  · rename_i fs hu
    split at hk
    · rename_i zs places hz hp
      split at hk
      · rename_i ls hf
        obtain ⟨i, z, hi, hz', hvs⟩ := zeroLs_some (I := Imm E G σ w) (N := σ.hp.length) (G := G) (w := w) hz
        obtain ⟨arr, h1, h2⟩ := fill_some (I := Imm E G σ w) (N := σ.hp.length) (G := G) (w := w) (places.toArray[·]?) _ (parts.map fun (i, x) => (i, a.eval x)).toList zs z.cells ls hf hvs (by simp)
          (fun i p q hp hq => by
            simp only [List.getElem?_map, Array.toList_map] at hp hq
            cases hpi : parts.toList[i]? with
            | none => simp [hpi] at hp
            | some b =>
              simp only [hpi, Option.map_some, Option.some.injEq] at hp hq
              subst hp; subst hq
              exact ⟨rfl, fun hne => cellsA_VLs (h.get b.2) hne⟩)
        refine ⟨_, .agg arr, hk, run_build w t _ arr ?_, arr.toList, rfl, h2⟩
        unfold Program.built
        rw [hi, hu]
        simp only [hz', hp]
        exact h1
      · simp at hk
    · simp at hk
  · simp at hk

end
end Go.Proofs.Ytajlabmnpimeeaa.Eng
