/-
  The engine, part 9. Slices of the call's own: literals, make, append. No condition.
-/
import Derived.Test.YtajlabmnpimeeaaEng8
namespace Go.Proofs.Ytajlabmnpimeeaa.Eng
open Go
set_option linter.unusedVariables false
set_option linter.unusedSimpArgs false

section
variable {P : Program} {w : World}

theorem run_app (t ty e : TypeId) (i : TypeInfo) (z : Value) (ht : P.underlying t = some (.slice e)) (hi : P.info? e = some i) (hz : i.zero = some z)
    (hzs : z.cells.size = i.size) (hsz : 0 < i.size) (v : Value) (n : Nat) (xs : List Value) (hown : w.ownsRow 0 e i.size v n xs)
    (ad : Addr) (m c : Nat) (news : List Value) (hl : news.length = m * i.size) (hnews : ∀ j u, news[j]? = some u → w.cell? (ad.add j) = some u) (h1 : ∀ u ∈ news, u.oneCell' = true)
    (h63 : n + m ≤ lim) (hbytes : (n + m) * i.bytes ≤ lim) :
    ∃ v' w', (Builtin.append_ #[t, t] ty #[v, .slice (some ad) m c]).run P w = .ok v' w' ∧ w'.ownsRow 0 e i.size v' (n + m) (xs ++ news) ∧ w.grownBy w' v.ownBlock ∧
      (∀ b, v'.ownBlock = some b → v.ownBlock = some b ∨ (w.heap.size ≤ b ∧ b < w'.heap.size)) := by
  unfold lim at h63 hbytes
  obtain ⟨v', w', hr, h2, h3, h4⟩ := run_append_own (P := P) w 0 t ty e i z i.size i.bytes ht hi hz rfl rfl hzs hsz v n xs hown ad m c news hl hnews h1 (by unfold maxLen; omega) hbytes (Nat.zero_le _)
  refine ⟨v', w', hr, h2, h3, fun b hb => ?_⟩
  have hlt := (h2.lt b hb).2
  have fresh : ∀ (p q : Nat) (W : World), (Builtin.append_ #[t, t] ty #[v, .slice (some ad) m c]).run P w = .ok (.slice (some ⟨w.heap.size, 0, none⟩) p q) W → w.heap.size ≤ b := fun p q W hx => by
    rw [hx] at hr
    simp only [Result.ok.injEq] at hr
    obtain ⟨rfl, _⟩ := hr
    simp [Value.ownBlock] at hb
    omega
  rcases hown.2 with ⟨rfl, rfl⟩ | ⟨g, cap, cur, rfl, hbg, hg, hnc, hcm, hcs, htake⟩
  · by_cases hm : m = 0
    · have := h4.2 ⟨rfl, hm⟩
      subst this
      simp [Value.ownBlock] at hb
    · exact .inr ⟨fresh _ _ _ (run_append_nil (P := P) w t ty e i z ht hi hz ad m c news hl hnews (by omega) (by omega) (by simp only [Nat.zero_add] at hbytes; omega)), hlt⟩
  · by_cases hroom : n + m ≤ cap
    · obtain ⟨w2, hr2, _⟩ := run_append_fits (P := P) w 0 t ty e i i.size ht hi rfl g n cap xs hown ad m c news hl hnews h1 hroom
      rw [hr2] at hr
      simp only [Result.ok.injEq] at hr
      obtain ⟨rfl, _⟩ := hr
      exact .inl (by simpa [Value.ownBlock] using hb)
    · have holds : ∀ j u, xs[j]? = some u → w.cell? ((⟨g, 0, none⟩ : Addr).add j) = some u := hown.cells (g := g) rfl
      exact .inr ⟨fresh _ _ _ (run_append_grow (P := P) w t ty e i z ht hi hz ⟨g, 0, none⟩ n cap xs hown.1 holds ad m c news hl hnews (by omega) (by omega) (growslice_fits (by omega) hbytes)), hlt⟩

theorem run_app_none (t ty e : TypeId) (i : TypeInfo) (ht : P.underlying t = some (.slice e)) (hi : P.info? e = some i)
    (v : Value) (n : Nat) (xs : List Value) (hown : w.ownsRow 0 e i.size v n xs) (c : Nat) :
    (Builtin.append_ #[t, t] ty #[v, .slice none 0 c]).run P w = .ok v w := by
  rcases hown.2 with ⟨rfl, rfl⟩ | ⟨g, cap, cur, rfl, _, _, hnc, _⟩
  · simp [Builtin.append_, run_underlying ht, sizeOf, typeInfo, hi, Builtin.lenOf, Builtin.firstCells]
  · simp [Builtin.append_, run_underlying ht, sizeOf, typeInfo, hi, Builtin.lenOf, Builtin.firstCells, hnc, storeCells]

end

section
variable {I : Nat → Prop} {w : World}

theorem RdC.one : (t : Ty) → {x : t.den} → {cs : List Value} → RdC I w t x cs → ∀ v ∈ cs, v.oneCell' = true
  | .int _, _, _, h, v, hv => by simp only [RdC] at h; subst h; simp at hv; subst hv; rfl
  | .bool, _, _, h, v, hv => by simp only [RdC] at h; subst h; simp at hv; subst hv; rfl
  | .str, _, _, h, v, hv => by simp only [RdC] at h; obtain ⟨h, _⟩ := h; subst h; simp at hv; subst hv; rfl
  | .list _, _, _, h, v, hv => by simp only [RdC] at h; obtain ⟨_, _, _, h, _⟩ := h; subst h; simp at hv; subst hv; rfl
  | .prod a b, _, _, h, v, hv => by
    simp only [RdC] at h
    obtain ⟨c1, c2, rfl, h1, h2⟩ := h
    rcases List.mem_append.1 hv with hv | hv
    · exact RdC.one a h1 v hv
    · exact RdC.one b h2 v hv

/-- Elements laid one behind the other. -/
def Chk (t : Ty) (xs : List t.den) (cells : List Value) (R : Nat → t.den → List Value → Prop) : Prop :=
  cells.length = xs.length * t.wid ∧ ∀ i y, xs[i]? = some y → ∃ ys, ys.length = t.wid ∧ (∀ j, j < t.wid → cells[i * t.wid + j]? = ys[j]?) ∧ R i y ys

theorem chunk_lt {i j n k : Nat} (hi : i < n) (hj : j < k) : i * k + j < n * k := by
  calc i * k + j < i * k + k := by omega
    _ = (i + 1) * k := by rw [Nat.add_mul, Nat.one_mul]
    _ ≤ n * k := Nat.mul_le_mul_right _ hi

theorem Chk.append {t : Ty} {xs ys : List t.den} {c1 c2 : List Value} {R1 R2 R : Nat → t.den → List Value → Prop} (h1 : Chk t xs c1 R1) (h2 : Chk t ys c2 R2)
    (hR1 : ∀ i y cs, i < xs.length → R1 i y cs → R i y cs) (hR2 : ∀ i y cs, i < ys.length → R2 i y cs → R (xs.length + i) y cs) : Chk t (xs ++ ys) (c1 ++ c2) R := by
  refine ⟨by rw [List.length_append, List.length_append, h1.1, h2.1, Nat.add_mul], fun i y hi => ?_⟩
  by_cases hlt : i < xs.length
  · rw [List.getElem?_append_left hlt] at hi
    obtain ⟨cs, hc1, hc2, hc3⟩ := h1.2 i y hi
    refine ⟨cs, hc1, fun j hj => ?_, hR1 i y cs hlt hc3⟩
    rw [← hc2 j hj, List.getElem?_append_left (by rw [h1.1]; exact chunk_lt hlt hj)]
  · rw [List.getElem?_append_right (by omega)] at hi
    obtain ⟨cs, hc1, hc2, hc3⟩ := h2.2 _ y hi
    refine ⟨cs, hc1, fun j hj => ?_, ?_⟩
    · rw [← hc2 j hj, List.getElem?_append_right]
      · congr 1
        rw [h1.1]
        have : i = xs.length + (i - xs.length) := by omega
        rw [this, Nat.add_mul]; simp; omega
      · rw [h1.1]
        have : xs.length * t.wid ≤ i * t.wid := Nat.mul_le_mul_right _ (by omega)
        omega
    · have := hR2 (i - xs.length) y cs (by have := (List.getElem?_eq_some_iff.1 hi).1; omega) hc3
      rwa [show xs.length + (i - xs.length) = i from by omega] at this

theorem Chk.imp {t : Ty} {xs : List t.den} {cs : List Value} {R R' : Nat → t.den → List Value → Prop} (h : Chk t xs cs R) (hR : ∀ i y cs, xs[i]? = some y → R i y cs → R' i y cs) : Chk t xs cs R' :=
  ⟨h.1, fun i y hi => let ⟨ys, h1, h2, h3⟩ := h.2 i y hi; ⟨ys, h1, h2, hR i y ys hi h3⟩⟩

/-- Cells that read as a slice's elements. -/
theorem rd_chk {t : Ty} {xs : List t.den} {b o : Nat} (h : ∀ i y, xs[i]? = some y → ∃ ys, ys.length = t.wid ∧ (∀ j, j < t.wid → w.cell? ⟨b, o + i * t.wid + j, none⟩ = ys[j]?) ∧ RdC I w t y ys) :
    ∃ cells, Chk t xs cells (fun _ y ys => RdC I w t y ys) ∧ ∀ j u, cells[j]? = some u → w.cell? ⟨b, o + j, none⟩ = some u := by
  have hw := t.wid_pos
  have hsome : ∀ j, j < xs.length * t.wid → ∃ u, w.cell? ⟨b, o + j, none⟩ = some u := fun j hj => by
    have hi : j / t.wid < xs.length := by rw [Nat.div_lt_iff_lt_mul hw]; exact hj
    obtain ⟨ys, h1, h2, _⟩ := h (j / t.wid) _ (List.getElem?_eq_getElem hi)
    have hm := Nat.mod_lt j hw
    have := h2 (j % t.wid) hm
    rw [show o + j / t.wid * t.wid + j % t.wid = o + j from by have := Nat.div_add_mod j t.wid; rw [Nat.mul_comm] at this; omega] at this
    exact ⟨_, this.trans (List.getElem?_eq_getElem (by omega))⟩
  refine ⟨(List.range (xs.length * t.wid)).map fun j => (w.cell? ⟨b, o + j, none⟩).getD undef, ⟨by simp, fun i y hi => ?_⟩, fun j u hj => ?_⟩
  · obtain ⟨ys, h1, h2, h3⟩ := h i y hi
    refine ⟨ys, h1, fun j hj => ?_, h3⟩
    have hlt := chunk_lt (List.getElem?_eq_some_iff.1 hi).1 hj
    rw [List.getElem?_map, List.getElem?_range hlt]
    have := h2 j hj
    obtain ⟨u, hu⟩ := hsome _ hlt
    rw [show o + (i * t.wid + j) = o + i * t.wid + j from by omega] at hu
    rw [hu] at this
    simp only [Option.map_some]
    rw [show o + (i * t.wid + j) = o + i * t.wid + j from by omega, hu, ← this]
    rfl
  · rw [List.getElem?_map] at hj
    cases hr : (List.range (xs.length * t.wid))[j]? with
    | none => simp [hr] at hj
    | some q =>
      have hq := List.getElem?_eq_some_iff.1 hr
      obtain ⟨hq1, hq2⟩ := hq
      simp at hq1 hq2
      subst hq2
      obtain ⟨u', hu'⟩ := hsome _ hq1
      simp [hr, hu'] at hj
      subst hj; exact hu'

theorem Chk.one {t : Ty} {xs : List t.den} {cells : List Value} (h : Chk t xs cells (fun _ y ys => RdC I w t y ys)) : ∀ v ∈ cells, v.oneCell' = true := by
  intro v hv
  have hw := t.wid_pos
  obtain ⟨j, hj, rfl⟩ := List.getElem_of_mem hv
  rw [h.1] at hj
  have hi : j / t.wid < xs.length := by rw [Nat.div_lt_iff_lt_mul hw]; exact hj
  obtain ⟨ys, h1, h2, h3⟩ := h.2 (j / t.wid) _ (List.getElem?_eq_getElem hi)
  have hm := Nat.mod_lt j hw
  have h4 := h2 (j % t.wid) hm
  rw [show j / t.wid * t.wid + j % t.wid = j from by have := Nat.div_add_mod j t.wid; rw [Nat.mul_comm] at this; omega] at h4
  rw [List.getElem?_eq_getElem (by rw [h.1]; exact hj), List.getElem?_eq_getElem (by omega)] at h4
  have h4 := Option.some.inj h4
  rw [h4]
  exact h3.one t _ (List.getElem_mem _)

theorem flat_Dp {B : Nat} : (t : Ty) → t.flat = true → {x : t.den} → {cs : List Value} → RdC I w t x cs → DpC B w t x cs []
  | .int _, _, _, _, h => by simp only [RdC] at h; exact ⟨h, rfl⟩
  | .bool, _, _, _, h => by simp only [RdC] at h; exact ⟨h, rfl⟩
  | .str, _, _, _, h => by simp only [RdC] at h; exact ⟨h.1, h.2, rfl⟩
  | .list _, hf, _, _, _ => by simp [Ty.flat] at hf
  | .prod a b, hf, _, _, h => by
    simp only [Ty.flat, Bool.and_eq_true] at hf
    simp only [RdC] at h
    obtain ⟨c1, c2, rfl, h1, h2⟩ := h
    simp only [DpC]
    exact ⟨c1, c2, [], [], rfl, rfl, flat_Dp a hf.1 h1, flat_Dp b hf.2 h2⟩

theorem flat_RdC {I' : Nat → Prop} {w' : World} : (t : Ty) → t.flat = true → {x : t.den} → {cs : List Value} → RdC I w t x cs → RdC I' w' t x cs
  | .int _, _, _, _, h => by simpa only [RdC] using h
  | .bool, _, _, _, h => by simpa only [RdC] using h
  | .str, _, _, _, h => by simpa only [RdC] using h
  | .list _, hf, _, _, _ => by simp [Ty.flat] at hf
  | .prod a b, hf, _, _, h => by
    simp only [Ty.flat, Bool.and_eq_true] at hf
    simp only [RdC] at h ⊢
    obtain ⟨c1, c2, rfl, h1, h2⟩ := h
    exact ⟨c1, c2, rfl, flat_RdC a hf.1 h1, flat_RdC b hf.2 h2⟩

/-- Own slices out of chunks. -/
theorem OwnV.mk {dp : Bool} {e : TypeId} {t : Ty} {x : List t.den} {v : Value} {bs : List Nat} {cells : List Value} {bss : List (List Nat)} (hl : x.length ≤ lim) (ho : w.ownsRow 0 e t.wid v x.length cells)
    (hbs : bs = v.ownBlock.toList ++ bss.flatten) (h1 : dp = true → bss.length = x.length) (h2 : dp = false → bss = [])
    (hc : Chk t x cells fun i y ys => if dp then DpC 0 w t y ys (bss[i]?.getD []) else RdC I w t y ys) : OwnV I w dp e t x v bs :=
  ⟨hl, cells, bss, ho, hbs, h1, h2, hc.2⟩

theorem OwnV.chk {dp : Bool} {e : TypeId} {t : Ty} {x : List t.den} {v : Value} {bs : List Nat} (h : OwnV I w dp e t x v bs) :
    x.length ≤ lim ∧ ∃ cells bss, w.ownsRow 0 e t.wid v x.length cells ∧ bs = v.ownBlock.toList ++ bss.flatten ∧ (dp = true → bss.length = x.length) ∧ (dp = false → bss = []) ∧
      Chk t x cells fun i y ys => if dp then DpC 0 w t y ys (bss[i]?.getD []) else RdC I w t y ys := by
  obtain ⟨h1, cells, bss, h2, h3, h4, h5, h6⟩ := h
  exact ⟨h1, cells, bss, h2, h3, h4, h5, h2.1, h6⟩

end
end Go.Proofs.Ytajlabmnpimeeaa.Eng
