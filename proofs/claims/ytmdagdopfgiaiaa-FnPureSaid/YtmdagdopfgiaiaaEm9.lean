/-
  The engine: laws whose later part stands on a state of plain data. No condition.
-/
import Derived.Test.YtmdagdopfgiaiaaEm8
namespace Go.Proofs.Ytmdagdopfgiaiaa.Eng
open Go
set_option linter.unusedVariables false
set_option linter.unusedSimpArgs false
/-- A struct's cells as one value. -/
def joinLs : List L → Option ((t : Ty) × t.den)
  | [] => none
  | l :: r => match l with
    | .dat _ t x => match r with
      | [] => some ⟨t, x⟩
      | _ => match joinLs r with
        | some ⟨t', x'⟩ => some ⟨.prod t t', (x, x')⟩
        | none => none
    | _ => none
/-- A slot as plain data. -/
def baseA (σ : Sg) (x : A) : A :=
  match x with
  | .l (.bptr i 0) => match σ.ob i with
    | some (.box _ _ cs) => match joinLs cs with
      | some ⟨t, x⟩ => .l (.cptr t x)
      | none => .l .unk
    | _ => .l .unk
  | .l (.dat nn t x) => .l (.dat nn t x)
  | .l (.cptr t x) => .l (.cptr t x)
  | .l (.ref i) => match σ.ob i with
    | some (.own _ _ _ t x) => .l (.dat false (.list t) x)
    | _ => .l .unk
  | .l .nils => .l .nils
  | _ => .l .unk
def baseS (σ : Sg) : Sg := ⟨σ.env.map (baseA σ), []⟩
section
variable {ρ : Type} (C : Ctx)
def endB (ps : List PM) (rl : Nat) (e : AEx) (σ : Sg) : Option (ResB (hasIo ps) Bool (PMo.den ps)) :=
  match e with
  | .exit _ => none
  | _ => match getA σ (.tmp rl) with
    | .l (.dat _ .bool (b : Bool)) => (ioU ps).bind fun o => some (resJ (hasIo ps) b o)
    | _ => none
abbrev rsB : List SK := [.l (.d false .bool)]
end
/-- What a later start keeps of an earlier one. -/
structure Reb (E E' : En) : Prop where
  os : E'.w0.os = E.w0.os
  tape : E'.w0.tape = E.w0.tape
  output : Out E.d E'.w0 E.w0
  size : E.B ≤ E'.B
  frame : ∀ b, b < E.B → ¬ E.H b → E'.w0.heap[b]? = E.w0.heap[b]?
  H : ∀ b, b < E.B → E'.H b → E.H b
  d : E'.d = E.d
theorem Reb.refl (E : En) : Reb E E := ⟨rfl, rfl, .refl _, Nat.le_refl _, fun _ _ _ => rfl, fun _ _ h => h, rfl⟩
section
variable {ρ : Type} {C : Ctx} {E : En} {G : Gh} {σ : Sg} {a : Act} {w : World}
theorem joinLs_some {I : Nat → Prop} {N : Nat} : (cs : List L) → {vs : List Value} → {t : Ty} → {x : t.den} → joinLs cs = some ⟨t, x⟩ → VLs I N G w cs vs → RdC I w t x vs
  | [], vs, t, x, h, _ => by simp [joinLs] at h
  | l :: r, vs, t, x, h, hv => by
    match vs, hv with
    | v :: vs, hv =>
      unfold joinLs at h
      split at h
      · rename_i nn t' x' 
        obtain ⟨⟨⟨hr, _⟩, hone⟩, hvs⟩ := hv
        have hr := hr.cells
        rw [oneCells hone] at hr
        split at h
        · simp only [Option.some.injEq, Sigma.mk.injEq] at h
          obtain ⟨rfl, h⟩ := h
          obtain rfl := eq_of_heq h
          match vs, hvs with
          | [], _ => exact hr
        · split at h
          · rename_i t2 x2 h2
            simp only [Option.some.injEq, Sigma.mk.injEq] at h
            obtain ⟨rfl, h⟩ := h
            obtain rfl := eq_of_heq h
            exact ⟨[v], vs, rfl, hr, joinLs_some _ h2 hvs⟩
          · cases h
      · cases h
theorem baseA_ok (h : RelG E G σ a w) {x : A} {v : Value} (hv : VA (Imm E G σ w) σ.hp.length G w x v) : ∃ l, baseA σ x = .l l ∧ ∀ (I : Nat → Prop) (N : Nat) (G' : Gh), (∀ b, b < w.heap.size → I b) → VL I N G' w l v := by
  have himm : ∀ b, Imm E G σ w b → b < w.heap.size := fun b hb => hb.1
  unfold baseA
  split
  · rename_i i
    split
    · rename_i ro e cs ho
      split
      · rename_i t x hj
        have hor := h.obs i _ ho
        obtain ⟨b, arr, hg, hh, hls, _⟩ := hor
        obtain ⟨_, b', hg', hv⟩ := hv
        rw [hg] at hg'
        simp only [Value.pointer.injEq, Option.some.injEq, Addr.mk.injEq, and_true] at hg'
        subst hg'
        have hrd := joinLs_some cs hj hls
        refine ⟨_, rfl, fun I N G' hI => ⟨b, 0, arr.toList, hv, hI b (Array.getElem?_eq_some_iff.1 hh).1, fun j hj => ?_, hrd.mono (fun b hb => hI b (himm b hb)) (fun _ _ => rfl) t⟩⟩
        rw [cellEq hh, Nat.zero_add, Array.getElem?_toList]
      · exact ⟨_, rfl, fun _ _ _ _ => trivial⟩
    · exact ⟨_, rfl, fun _ _ _ _ => trivial⟩
  · exact ⟨_, rfl, fun I N G' hI => ⟨RdV.mono (fun b hb => hI b (himm b hb)) (fun _ _ => rfl) hv.1, hv.2⟩⟩
  · obtain ⟨b, o, cs, h1, h2, h3, h4⟩ := hv
    exact ⟨_, rfl, fun I N G' hI => ⟨b, o, cs, h1, hI b (himm b h2), h3, h4.mono (fun b hb => hI b (himm b hb)) (fun _ _ => rfl) _⟩⟩
  · rename_i i
    split
    · rename_i ro dp e t x ho
      obtain ⟨_, hv, _⟩ := hv
      have hor := h.obs i _ ho
      refine ⟨_, rfl, fun I N G' hI => ⟨?_, fun hf => by cases hf⟩⟩
      rw [hv]
      cases ro with
      | true =>
        simp only [OR] at hor
        exact RdV.mono (fun b hb => hI b (himm b hb)) (fun _ _ => rfl) hor
      | false =>
        simp only [OR] at hor
        exact OwnV.rd hor (fun b hb => hI b (himm b hb)) fun b hb => hI b (h.range i _ ho rfl b hb).1
    · exact ⟨_, rfl, fun _ _ _ _ => trivial⟩
  · exact ⟨_, rfl, fun _ _ _ _ => hv⟩
  · exact ⟨_, rfl, fun _ _ _ _ => trivial⟩
end
end Go.Proofs.Ytmdagdopfgiaiaa.Eng
