/-
  The engine, part 7. Addresses, loads, lengths, parts of slices and strings. No condition.
-/
import Derived.Test.YtajlabmnpimeeaaEng6
import Derived.Laws.Slices
namespace Go.Proofs.Ytajlabmnpimeeaa.Eng
open Go
set_option linter.unusedVariables false
set_option linter.unusedSimpArgs false

section
variable {ρ : Type} {C : Ctx} {E : En} {G : Gh} {σ : Sg} {a : Act} {w : World}

theorem add_none (b o n : Nat) : (⟨b, o, none⟩ : Addr).add n = ⟨b, o + n, none⟩ := by
  unfold Addr.add; split <;> simp_all

theorem fieldK_some {I : Nat → Prop} : ∀ (n : Nat) (t : Ty) (y : t.den) (i off : Nat) (cs : List Value) {k : (t' : Ty) → t'.den → Nat → Option ρ} {r : ρ},
    fieldK n t y i off k = some r → RdC I w t y cs → ∃ t' y' d cs', k t' y' (off + d) = some r ∧ d + t'.wid ≤ t.wid ∧ RdC I w t' y' cs' ∧ ∀ j, j < t'.wid → cs'[j]? = cs[d + j]?
  | 0, _, _, _, _, _, _, _, hk, _ => by simp [fieldK] at hk
  | 1, t, y, 0, off, cs, k, r, hk, hr => by
    simp only [fieldK] at hk
    exact ⟨t, y, 0, cs, hk, by simp, hr, fun j _ => by simp⟩
  | 1, t, y, i + 1, off, cs, k, r, hk, hr => by simp [fieldK] at hk
  | n + 2, .prod p q, y, 0, off, cs, k, r, hk, hr => by
    simp only [fieldK] at hk
    simp only [RdC] at hr
    obtain ⟨c1, c2, rfl, h1, h2⟩ := hr
    have hl := h1.length
    refine ⟨p, y.1, 0, c1, hk, by simp [Ty.wid], h1, fun j hj => ?_⟩
    rw [Nat.zero_add, List.getElem?_append_left (by omega)]
  | n + 2, .prod p q, y, i + 1, off, cs, k, r, hk, hr => by
    simp only [fieldK] at hk
    simp only [RdC] at hr
    obtain ⟨c1, c2, rfl, h1, h2⟩ := hr
    have hl := h1.length
    obtain ⟨t', y', d, cs', hk', hd, hr', hc⟩ := fieldK_some (n + 1) q y.2 i (off + p.wid) c2 hk h2
    refine ⟨t', y', p.wid + d, cs', by rw [← Nat.add_assoc]; exact hk', by simp only [Ty.wid]; omega, hr', fun j hj => ?_⟩
    rw [hc j hj, List.getElem?_append_right (by omega)]
    congr 1; omega
  | n + 2, .int _, _, _, _, _, _, _, hk, _ => by simp [fieldK] at hk
  | n + 2, .bool, _, _, _, _, _, _, hk, _ => by simp [fieldK] at hk
  | n + 2, .str, _, _, _, _, _, _, hk, _ => by simp [fieldK] at hk
  | n + 2, .list _, _, _, _, _, _, _, hk, _ => by simp [fieldK] at hk

theorem fieldAddrK_some {s : TypeId} {f : Nat} {x : A} {k : A → Option ρ} {r : ρ} {v : Value} {I : Nat → Prop} {N : Nat} (hk : fieldAddrK C s f x k = some r) (hv : VA I N G w x v) :
    ∃ z u, k z = some r ∧ (Instr.fieldAt s v f).run C.P w = .ok u w ∧ VA I N G w z u := by
  unfold fieldAddrK at hk
  split at hk
  · rename_i fs hfs
    split at hk
    · rename_i fd hfd
      split at hk
      · rename_i n hsz
        have hso := run_sizeOf hsz w
        split at hk
        · rename_i id j
          obtain ⟨hid, b, hg, rfl⟩ := hv
          refine ⟨_, .pointer (some ⟨b, j + fd.offset, none⟩), hk, ?_, hid, b, hg, rfl⟩
          simp [Instr.fieldAt, run_underlying hfs, hfd, Instr.sureAddr, fieldPlace, hso, add_none]
        · rename_i t y
          obtain ⟨b, o, cs, rfl, hb, hc, hr⟩ := hv
          obtain ⟨t', y', d, cs', hk', hd, hr', hc'⟩ := fieldK_some _ _ _ _ _ _ hk hr
          split at hk'
          · rename_i he
            rw [Nat.zero_add] at he
            refine ⟨_, .pointer (some ⟨b, o + fd.offset, none⟩), hk', ?_, b, o + fd.offset, cs', rfl, hb, fun j hj => ?_, hr'⟩
            · simp [Instr.fieldAt, run_underlying hfs, hfd, Instr.sureAddr, fieldPlace, hso, add_none]
            · rw [hc' j hj, ← he, Nat.add_assoc]; exact hc (d + j) (by omega)
          · simp at hk'
        · simp at hk
      · simp at hk
    · simp at hk
  · simp at hk

theorem idx_some {α β : Type} {xs : List α} {i : Int} {k : α → Option β} {r : β} (h : (idx xs i).bind k = some r) : ∃ y, 0 ≤ i ∧ i < xs.length ∧ xs[i.toNat]? = some y ∧ k y = some r := by
  unfold idx at h
  split at h
  · rename_i h0
    cases hx : xs[i.toNat]? with
    | none => simp [hx] at h
    | some y =>
      have hl := (List.getElem?_eq_some_iff.1 hx).1
      exact ⟨y, h0, by omega, rfl, by simpa [hx] using h⟩
  · simp at h

theorem index_dat {I : Nat → Prop} {N : Nat} {t e : TypeId} {ty : Ty} {xs : List ty.den} {y : ty.den} {i : Int} {kd : IntKind} {v : Value} (hut : C.P.underlying t = some (.slice e))
    (hsz : szT C e = some ty.wid) (h0 : 0 ≤ i) (h1 : i < xs.length) (hy : xs[i.toNat]? = some y) (hv : RdV I w (.list ty) xs v) :
    ∃ s, (Instr.indexAt t v (.int kd i)).run C.P w = .ok s w ∧ VA I N G w (.l (.cptr ty y)) s := by
  obtain ⟨p, c, rfl, hc1, hc2, hc3, hc4⟩ := RdV_list hv
  obtain ⟨b, o, rfl, hb, hel⟩ := hc4 (by intro hn; rw [hn] at h1; simp at h1; omega)
  obtain ⟨ys, hy1, hy2, hy3⟩ := hel _ _ hy
  refine ⟨.pointer (some ⟨b, o + i.toNat * ty.wid, none⟩), ?_, b, o + i.toNat * ty.wid, ys, rfl, hb, hy2, hy3⟩
  simp [Instr.indexAt, run_underlying hut, asIntOf, h0, h1, run_sizeOf hsz, add_none]

theorem indexAddrK_some {t : TypeId} {x i : A} {k : A → Option ρ} {r : ρ} {v u : Value} (h : RelG E G σ a w) (hk : indexAddrK C σ t x i k = some r)
    (hv : VA (Imm E G σ w) σ.hp.length G w x v) (hu : VA (Imm E G σ w) σ.hp.length G w i u) :
    ∃ z s, k z = some r ∧ (Instr.indexAt t v u).run C.P w = .ok s w ∧ VA (Imm E G σ w) σ.hp.length G w z s := by
  unfold indexAddrK at hk
  split at hk
  · rename_i e _ _ i he
    have hut := elT_some he
    have := datInt hu; subst this
    split at hk
    · rename_i nn ty xs
      split at hk
      · rename_i hsz
        obtain ⟨y, h0, h1, hy, hk⟩ := idx_some hk
        obtain ⟨s, hs1, hs2⟩ := index_dat (C := C) (G := G) (N := σ.hp.length) (kd := _) hut hsz h0 h1 hy hv.1
        exact ⟨_, s, hk, hs1, hs2⟩
      · simp at hk
    · rename_i id
      obtain ⟨hid, rfl, _⟩ := hv
      split at hk
      · rename_i dp e' ty xs ho
        split at hk
        · rename_i hsz
          have hor := h.obs id _ ho
          simp only [OR] at hor
          obtain ⟨y, h0, h1, hy, hk⟩ := idx_some hk
          obtain ⟨s, hs1, hs2⟩ := index_dat (C := C) (G := G) (N := σ.hp.length) (kd := _) hut hsz h0 h1 hy hor
          exact ⟨_, s, hk, hs1, hs2⟩
        · simp at hk
      · rename_i dp e' ty xs ho
        split at hk
        · rename_i hsz
          unfold inIdx at hk
          split at hk
          · rename_i hin
            simp only [Option.bind_some] at hk
            have hor := h.obs id _ ho
            have hg : ∃ b n c, (G id).1 = .slice (some ⟨b, 0, none⟩) n c ∧ n = xs.length := by
              simp only [OR] at hor
              obtain ⟨_, cells, bss, how, _⟩ := hor
              rcases how.2 with ⟨_, hn⟩ | ⟨g, cap, cur, hg, _⟩
              · rw [hn] at hin; simp at hin; omega
              · exact ⟨g, _, cap, hg, rfl⟩
            obtain ⟨b, n, c, hg, rfl⟩ := hg
            refine ⟨_, .pointer (some ⟨b, i.toNat * ty.wid, none⟩), hk, ?_, hid, b, _, c, hg, rfl⟩
            rw [hg]
            simp [Instr.indexAt, run_underlying hut, asIntOf, hin.1, hin.2, run_sizeOf hsz, add_none]
          · simp at hk
        · simp at hk
      · simp at hk
    · simp at hk
  · simp at hk

/-! Loads. -/

theorem run_load_data {S : Nat → Prop} {t : TypeId} {ty : Ty} {y : ty.den} {b o : Nat} {cs : List Value} (hf : fitT C t ty = true)
    (hc : ∀ j, j < ty.wid → w.cell? ⟨b, o + j, none⟩ = cs[j]?) (hr : RdC S w ty y cs) :
    (Instr.loadAt t (.pointer (some ⟨b, o, none⟩))).run C.P w = .ok (mkV ty cs) w := by
  unfold fitT at hf
  simp only [Bool.and_eq_true, beq_iff_eq] at hf
  have hag := isAggT_run hf.1 w
  have hsz := run_sizeOf hf.2 w
  have hl := hr.length
  simp only [Instr.loadAt, Instr.sureAddr, Sem.run_bind, Sem.run_pure, Result.andThen_ok, loadVar, hag]
  cases hp : ty.isProd with
  | true =>
    have hlc := run_loadCells_list (P := C.P) w ⟨b, o, none⟩ cs fun j v hj => by
      have hj' := (List.getElem?_eq_some_iff.1 hj).1
      rw [add_none, hc j (by omega), hj]
    rw [hl] at hlc
    simp [hsz, hlc, mkV, hp]
  | false =>
    have hw : ty.wid = 1 := by cases ty <;> simp_all [Ty.wid, Ty.isProd]
    have h0 := hc 0 (by omega)
    cases cs with
    | nil => simp [hw] at hl
    | cons c cs =>
      simp only [Nat.add_zero, List.getElem?_cons_zero] at h0
      simp [mkV, hp, load, Sem.run, h0]

theorem loadK_some {t : TypeId} {x : A} {k : A → Option ρ} {r : ρ} {v : Value} (h : RelG E G σ a w) (hk : loadK C σ t x k = some r)
    (hv : VA (Imm E G σ w) σ.hp.length G w x v) :
    ∃ z s, k z = some r ∧ (Instr.loadAt t v).run C.P w = .ok s w ∧ VA (Imm E G σ w) σ.hp.length G w z s := by
  unfold loadK at hk
  split at hk
  · rename_i ty y
    split at hk
    · rename_i hf
      obtain ⟨b, o, cs, rfl, hb, hc, hr⟩ := hv
      exact ⟨_, _, hk, run_load_data hf hc hr, ⟨cs, hr, rfl⟩, fun hn => by simp at hn⟩
    · simp at hk
  · rename_i id wid i
    obtain ⟨hid, b, n, c, hg, rfl⟩ := hv
    split at hk
    · rename_i ro dp e ty xs ho
      split at hk
      · rename_i hf
        obtain ⟨rfl, hf⟩ := hf
        obtain ⟨y, h0, h1, hy, hk⟩ := idx_some hk
        simp only [Int.toNat_natCast] at hy
        have hor := h.obs id _ ho
        cases ro with
        | true =>
          simp only [OR] at hor
          obtain ⟨p, c', he, _, _, _, hc4⟩ := RdV_list hor
          obtain ⟨b', o', hp, hb, hel⟩ := hc4 (by intro hn; rw [hn] at hy; simp at hy)
          rw [hg] at he
          simp only [Value.slice.injEq] at he
          rw [hp] at he
          simp only [Option.some.injEq, Addr.mk.injEq, and_true] at he
          obtain ⟨⟨rfl, rfl⟩, _, _⟩ := he
          obtain ⟨ys, hy1, hy2, hy3⟩ := hel _ _ hy
          exact ⟨_, _, hk, run_load_data hf (fun j hj => by rw [← hy2 j hj]; simp) hy3, ⟨ys, hy3, rfl⟩, fun hn => by simp at hn⟩
        | false =>
          have hrg := h.range id _ ho rfl
          have hnd := h.nodup id _ ho rfl
          simp only [OR] at hor
          obtain ⟨hl, cells, bss, how, hbs, hd1, hd2, hel⟩ := hor
          obtain ⟨ys, hy1, hy2, hy3⟩ := hel _ _ hy
          rcases how.2 with ⟨hn, _⟩ | ⟨g, cap, cur, hgv, _, hh, hnc, hcm, hcs, htake⟩
          · rw [hg] at hn; simp at hn
          · rw [hg] at hgv
            simp only [Value.slice.injEq, Option.some.injEq, Addr.mk.injEq, and_true, true_and] at hgv
            obtain ⟨rfl, _, _⟩ := hgv
            have hil : i < xs.length := by omega
            have hcell : ∀ j, j < ty.wid → w.cell? ⟨b, i * ty.wid + j, none⟩ = ys[j]? := fun j hj => by
              rw [← hy2 j hj, cell_of_row w b _ cur e (0, 0) hh, ← htake, List.getElem?_take, if_pos, Array.getElem?_toList]
              calc i * ty.wid + j < i * ty.wid + ty.wid := by omega
                _ = (i + 1) * ty.wid := by rw [Nat.add_mul, Nat.one_mul]
                _ ≤ xs.length * ty.wid := Nat.mul_le_mul_right _ hil
            have hrd : RdC (Imm E G σ w) w ty y ys := by
              cases dp with
              | false => simpa using hy3
              | true =>
                simp only [if_true] at hy3
                refine hy3.rd ty fun b' hb' => ?_
                have hmem : b' ∈ bss.flatten := by
                  cases hgi : bss[i]? with
                  | none => simp [hgi] at hb'
                  | some l =>
                    simp only [hgi, Option.getD_some] at hb'
                    exact List.mem_flatten.2 ⟨l, List.mem_of_getElem? hgi, hb'⟩
                have hin : b' ∈ (G id).2 := by rw [hbs]; exact List.mem_append_right _ hmem
                refine ⟨(hrg b' hin).1, fun hB => h.xa b' ((hrg b' hin).2 hB), fun j o' ho' hr' hhd => ?_⟩
                by_cases hij : j = id
                · subst hij
                  rw [hbs, hg] at hhd hnd
                  simp only [Value.ownBlock, Option.toList_some, List.singleton_append, List.head?_cons, Option.some.injEq] at hhd hnd
                  subst hhd
                  exact (List.nodup_cons.1 hnd).1 hmem
                · exact h.disj j id o' _ ho' hr' ho rfl hij b' (List.mem_of_mem_head? hhd) hin
            exact ⟨_, _, hk, run_load_data hf hcell hrd, ⟨ys, hrd, rfl⟩, fun hn => by simp at hn⟩
      · simp at hk
    · simp at hk
  · rename_i id j
    obtain ⟨hid, b, hg, rfl⟩ := hv
    split at hk
    · rename_i ro e cs ho
      have hor := h.obs id _ ho
      simp only [OR] at hor
      obtain ⟨b', arr, hg', hh, hvs, _⟩ := hor
      rw [hg] at hg'
      simp only [Value.pointer.injEq, Option.some.injEq, Addr.mk.injEq, and_true] at hg'
      subst hg'
      split at hk
      · rename_i hag
        split at hk
        · rename_i hsz
          obtain ⟨hsz, rfl⟩ := hsz
          have hlen : ∀ (cs : List L) (vs : List Value), VLs (Imm E G σ w) σ.hp.length G w cs vs → cs.length = vs.length := by
            intro cs
            induction cs with
            | nil => intro vs hh; cases vs with
              | nil => rfl
              | cons _ _ => exact hh.elim
            | cons c cs ih => intro vs hh; cases vs with
              | nil => exact hh.elim
              | cons v vs => simp [ih vs hh.2]
          have hl := hlen _ _ hvs
          refine ⟨_, .agg arr, hk, ?_, arr.toList, rfl, hvs⟩
          have hlc := run_loadCells_list (P := C.P) w ⟨b, 0, none⟩ arr.toList fun j v hj => by
            rw [add_none, Nat.zero_add, cell_of_row w b _ arr e (0, 0) hh]; simpa using hj
          rw [← hl] at hlc
          simp [Instr.loadAt, Instr.sureAddr, loadVar, isAggT_run hag w, run_sizeOf hsz w, hlc]
        · simp at hk
      · rename_i hag
        split at hk
        · rename_i y hj
          have key : ∀ (cs : List L) (vs : List Value) (j : Nat) (y : L), VLs (Imm E G σ w) σ.hp.length G w cs vs → cs[j]? = some y → ∃ u, vs[j]? = some u ∧ VL (Imm E G σ w) σ.hp.length G w y u := by
            intro cs
            induction cs with
            | nil => intro vs j y _ hy; simp at hy
            | cons c cs ih => intro vs j y hh hy; cases vs with
              | nil => exact hh.elim
              | cons v vs => cases j with
                | zero => simp at hy; subst hy; exact ⟨v, rfl, hh.1.1⟩
                | succ j => simp at hy ⊢; exact ih vs j y hh.2 hy
          obtain ⟨u, hu, hvu⟩ := key _ _ _ _ hvs hj
          refine ⟨_, u, hk, ?_, hvu⟩
          have hcell : w.cell? ⟨b, j, none⟩ = some u := by rw [cell_of_row w b _ arr e (0, 0) hh]; simpa using hu
          simp [Instr.loadAt, Instr.sureAddr, loadVar, isAggT_run hag w, load, Sem.run, hcell]
        · simp at hk
      · simp at hk
    · simp at hk
  · simp at hk

theorem lenK_some {t : TypeId} {x : A} {k : A → Option ρ} {r : ρ} {v : Value} (h : RelG E G σ a w) (hk : lenK C σ t x k = some r)
    (hv : VA (Imm E G σ w) σ.hp.length G w x v) :
    ∃ z s, k z = some r ∧ (∀ ty, (Builtin.len_ #[t] ty #[v]).run C.P w = .ok s w) ∧ VA (Imm E G σ w) σ.hp.length G w z s := by
  unfold lenK at hk
  split at hk
  · split at hk
    · rename_i hu
      obtain ⟨rfl, _⟩ := datStr hv
      exact ⟨_, _, hk, fun ty => by simp [Builtin.len_, run_underlying hu]; rfl, intVA⟩
    · simp at hk
  · cases he : elT C t with
    | none => simp [he] at hk
    | some e =>
      simp only [he, Option.bind_some] at hk
      obtain ⟨p, c, rfl, _⟩ := RdV_list hv.1
      exact ⟨_, _, hk, fun ty => by simp [Builtin.len_, run_underlying (elT_some he)]; rfl, intVA⟩
  · cases he : elT C t with
    | none => simp [he] at hk
    | some e =>
      simp only [he, Option.bind_some] at hk
      simp only [VA, VL] at hv; subst hv
      exact ⟨_, _, hk, fun ty => by simp [Builtin.len_, run_underlying (elT_some he)]; rfl, intVA⟩
  · split at hk
    · rename_i ho
      cases he : elT C t with
      | none => simp [he] at hk
      | some e =>
        simp only [he, Option.bind_some] at hk
        obtain ⟨p, c, hg, _⟩ := RdV_list (h.ownRd ho)
        obtain ⟨_, rfl, _⟩ := hv
        exact ⟨_, _, hk, fun ty => by rw [hg]; simp [Builtin.len_, run_underlying (elT_some he)]; rfl, intVA⟩
    · simp at hk
  · simp at hk

theorem indexK_some {t : TypeId} {x i : A} {k : A → Option ρ} {r : ρ} {v u : Value} {I : Nat → Prop} {N : Nat} (hk : indexK C t x i k = some r)
    (hv : VA I N G w x v) (hu : VA I N G w i u) : ∃ z s, k z = some r ∧ (Instr.index t v u).run C.P w = .ok s w ∧ VA I N G w z s := by
  unfold indexK at hk
  split at hk
  · rename_i s _ _ i hut
    obtain ⟨rfl, _⟩ := datStr hv
    have := datInt hu; subst this
    obtain ⟨y, h0, h1, hy, hk⟩ := idx_some hk
    refine ⟨_, _, hk, ?_, intVA⟩
    have hsz : i.toNat < s.size := by simp [← ByteArray.size_data] at h1 ⊢; omega
    have hget : s[i.toNat]? = some y := by
      rw [getElem?_pos s i.toNat hsz]
      simp at hy
      rw [Array.getElem?_eq_getElem (by simpa using hsz)] at hy
      have hy := Option.some.inj hy
      rw [← hy]; rfl
    simp [Instr.index, asIntOf, run_underlying hut, h0, hget]
  · simp at hk

end
end Go.Proofs.Ytajlabmnpimeeaa.Eng
