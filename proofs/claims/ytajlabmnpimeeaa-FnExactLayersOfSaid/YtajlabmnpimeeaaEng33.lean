/-
  The engine, part 33. Contracts of functions that the evaluator runs. No condition.
-/
import Derived.Test.YtajlabmnpimeeaaEng35
namespace Go.Proofs.Ytajlabmnpimeeaa.Eng
open Go
set_option linter.unusedVariables false

def AllC (P : Program) : List CallE → Prop
  | [] => True
  | e :: r => (FnOk P e.f ∧ Ctr P e) ∧ AllC P r

def AllI (P : Program) : List InE → Prop
  | [] => True
  | e :: r => (FnOk P e.f ∧ InOk P e) ∧ AllI P r

theorem ctrs_of {C : Ctx} (hm : C.P.follows .mixedOrders = true) (h : AllC C.P C.O) (hi : AllI C.P C.I) : Ctrs C := by
  refine ⟨hm, ?_, ?_⟩
  · generalize C.O = l at h
    induction l with
    | nil => intro e he; simp at he
    | cons a l ih =>
      intro e he
      rcases List.mem_cons.1 he with rfl | he
      · exact h.1
      · exact ih h.2 e he
  · generalize C.I = l at hi
    induction l with
    | nil => intro e he; simp at he
    | cons a l ih =>
      intro e he
      rcases List.mem_cons.1 he with rfl | he
      · exact hi.1
      · exact ih hi.2 e he

def ioOk (ws : List Nat) : Nat → List PM → Bool
  | _, [] => true
  | i, p :: r => (!isIo p || !ws.contains i) && ioOk ws (i + 1) r

theorem ioOk_some {ws : List Nat} : (ps : List PM) → (i : Nat) → ioOk ws i ps = true → ∀ (j : Nat) (p : PM), ps[j]? = some p → isIo p = true → i + j ∉ ws
  | [], i, h, j, p, hp, _ => by simp at hp
  | q :: ps, i, h, j, p, hp, hi => by
    simp only [ioOk, Bool.and_eq_true, Bool.or_eq_true, Bool.not_eq_true'] at h
    cases j with
    | zero =>
      simp at hp; subst hp
      rcases h.1 with h1 | h1
      · rw [hi] at h1; simp at h1
      · simpa using h1
    | succ j =>
      have := ioOk_some ps (i + 1) h.2 j p (by simpa using hp) hi
      rwa [show i + (j + 1) = i + 1 + j from by omega]

def okFn (fn : Func) (ps : List PM) : Bool := !(fn.name == "runtime.NumGoroutine") && (match fn.body with
  | some c => ioOk (wrC c) 0 ps
  | none => false) && decide (ps.length ≤ fn.ntmps)

/-- The entry of a function that is run in its caller's state. -/
theorem mkInl {C : Ctx} {fn : Func} {f : FuncId} (hm : C.P.follows .mixedOrders = true) (h : AllC C.P C.O) (hf : C.P.funcs[f]? = some fn) (hok : okFn fn [] = true) (hi : AllI C.P C.I := by trivial) : FnOk C.P f ∧ InOk C.P ⟨f, false, inlK C fn⟩ := by
  unfold okFn at hok
  simp only [Bool.and_eq_true, Bool.not_eq_true', decide_eq_true_eq] at hok
  obtain ⟨⟨h1, h2⟩, h3⟩ := hok
  split at h2
  · rename_i c hc
    exact ⟨⟨fn, c, hf, h1, hc⟩, inlK_ok (ctrs_of hm h hi) false (fun hd => by simp at hd) hf hc⟩
  · simp at h2

/-- The same for functions without loops, whose calls may stand in drawn regions. -/
theorem mkInlD {C : Ctx} {fn : Func} {f : FuncId} (hm : C.P.follows .mixedOrders = true) (h : AllC C.P C.O) (hf : C.P.funcs[f]? = some fn) (hok : okFn fn [] = true) (hs : (fn.body.map simpleC) = some true) (hI : C.I = []) : FnOk C.P f ∧ InOk C.P ⟨f, true, inlK C fn⟩ := by
  unfold okFn at hok
  simp only [Bool.and_eq_true, Bool.not_eq_true', decide_eq_true_eq] at hok
  obtain ⟨⟨h1, h2⟩, h3⟩ := hok
  split at h2
  · rename_i c hc
    rw [hc] at hs
    exact ⟨⟨fn, c, hf, h1, hc⟩, inlK_ok (ctrs_of hm h (by rw [hI]; trivial)) true (fun _ => ⟨by simpa using hs, hI⟩) hf hc⟩
  · simp at h2

theorem mkCtr {C : Ctx} {e : CallE} {fn : Func} (hm : C.P.follows .mixedOrders = true) (h : AllC C.P C.O) (hf : C.P.funcs[e.f]? = some fn) (hok : okFn fn e.ps = true)
    (hF : ∀ x, funK C fn e.ps e.rs x = e.F x) (hi : AllI C.P C.I := by trivial) : FnOk C.P e.f ∧ Ctr C.P e := by
  unfold okFn at hok
  simp only [Bool.and_eq_true, Bool.not_eq_true', decide_eq_true_eq] at hok
  obtain ⟨⟨h1, h2⟩, h3⟩ := hok
  split at h2
  · rename_i c hc
    exact funK_ctr (ctrs_of hm h hi) hf h1 hc h3 (fun i p hp hi => by
      have := ioOk_some e.ps 0 h2 i p hp hi
      rwa [Nat.zero_add] at this) fun x r hx => (hF x).trans hx
  · simp at h2

end Go.Proofs.Ytajlabmnpimeeaa.Eng
