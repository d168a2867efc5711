/-
  The engine, part 26. What an operation gives does not hang on what comes behind it. No condition.
-/
import Derived.Test.YtajlabmnpimeeaaEng23
namespace Go.Proofs.Ytajlabmnpimeeaa.Eng
open Go
set_option linter.unusedVariables false
set_option linter.unusedSimpArgs false

section
variable {ρ : Type} {C : Ctx} {σ : Sg}

theorem rdL_nat {t : Ty} {x : L} (k : t.den → Option ρ) : rdL σ t x k = (rdL σ t x some).bind k := by
  cases x with
  | nils => cases t <;> simp [rdL]
  | dat nn t' y => simp [rdL]
  | ref id =>
    simp only [rdL]
    split
    · simp
    · rfl
  | _ => simp [rdL]

theorem rdLs_nat : (t : Ty) → (ls : List L) → (ρ : Type) → (k : t.den → List L → Option ρ) → rdLs σ t ls k = (rdLs σ t ls fun y r => some (y, r)).bind fun p => k p.1 p.2
  | .prod a b, ls, ρ, k => by
    simp only [rdLs]
    rw [rdLs_nat a ls ρ, rdLs_nat a ls ((Ty.prod a b).den × List L)]
    rw [Option.bind_assoc]
    congr 1
    funext p
    rw [rdLs_nat b p.2 ρ, rdLs_nat b p.2 ((Ty.prod a b).den × List L), Option.bind_assoc]
    rfl
  | .int kd, x :: r, ρ, k => by simp only [rdLs]; rw [rdL_nat (ρ := ρ), rdL_nat (ρ := (Ty.int kd).den × List L), Option.bind_assoc]; rfl
  | .bool, x :: r, ρ, k => by simp only [rdLs]; rw [rdL_nat (ρ := ρ), rdL_nat (ρ := Ty.bool.den × List L), Option.bind_assoc]; rfl
  | .str, x :: r, ρ, k => by simp only [rdLs]; rw [rdL_nat (ρ := ρ), rdL_nat (ρ := Ty.str.den × List L), Option.bind_assoc]; rfl
  | .list t, x :: r, ρ, k => by simp only [rdLs]; rw [rdL_nat (ρ := ρ), rdL_nat (ρ := (Ty.list t).den × List L), Option.bind_assoc]; rfl
  | .int _, [], ρ, k => by simp [rdLs]
  | .bool, [], ρ, k => by simp [rdLs]
  | .str, [], ρ, k => by simp [rdLs]
  | .list _, [], ρ, k => by simp [rdLs]

theorem rdA_nat {t : Ty} {x : A} (k : t.den → Option ρ) : rdA σ t x k = (rdA σ t x some).bind k := by
  cases x with
  | l x => exact rdL_nat k
  | a ls =>
    cases t with
    | prod p q =>
      simp only [rdA]
      rw [rdLs_nat _ _ ρ, rdLs_nat _ _ (Ty.prod p q).den, Option.bind_assoc]
      congr 1
      funext z
      split <;> rfl
    | _ => rfl
  | t _ => rfl

theorem nnL_nat {t : Ty} {x : L} {y : t.den} (k : Option ρ) : nnL t x y k = (nnL t x y (some ())).bind fun _ => k := by
  unfold nnL
  repeat' split
  all_goals simp [Option.bind_assoc]

theorem nnA_nat {nn : Bool} {t : Ty} {x : A} {y : t.den} (k : Option ρ) : nnA nn t x y k = (nnA nn t x y (some ())).bind fun _ => k := by
  unfold nnA
  split
  · split
    · exact nnL_nat k
    · rfl
  · rfl

theorem tkO_nat {dp : Bool} {e : TypeId} {t : Ty} {x : L} (k : List t.den → Sg → Option ρ) : tkO σ dp e t x k = (tkO σ dp e t x fun y s => some (y, s)).bind fun p => k p.1 p.2 := by
  unfold tkO
  repeat' split
  all_goals simp [Option.bind_assoc]

theorem intOpK_nat {op : BinOp} {kd : IntKind} {p q : Int} (k : A → Option ρ) : intOpK op kd p q k = (intOpK op kd p q some).bind k := by
  unfold intOpK
  split <;> simp [Option.bind_assoc]

theorem nilK_nat {x : L} (k : Bool → Option ρ) : nilK σ x k = (nilK σ x some).bind k := by
  unfold nilK
  repeat' split
  all_goals simp [Option.bind_assoc]

theorem binK_nat {op : BinOp} {t : TypeId} {x y : A} (k : A → Option ρ) : binK C op t σ x y k = (binK C op t σ x y some).bind k := by
  unfold binK
  split
  · split
    · simp [Option.bind_assoc]
    · simp [Option.bind_assoc]
    · split
      · exact intOpK_nat k
      · rfl
  · split <;> simp [Option.bind_assoc]
  · split
    · split <;> simp
    · rfl
  · split
    · split
      · rw [nilK_nat, nilK_nat (ρ := A), Option.bind_assoc]; rfl
      · rw [nilK_nat, nilK_nat (ρ := A), Option.bind_assoc]; rfl
      · rfl
    · rfl
  · rfl

theorem unK_nat {op : UnOp} {x : A} (k : A → Option ρ) : unK op x k = (unK op x some).bind k := by
  unfold unK
  split <;> simp

theorem fieldK_nat : (n : Nat) → (t : Ty) → (x : t.den) → (i off : Nat) → (k : (t' : Ty) → t'.den → Nat → Option ρ) → fieldK n t x i off k = (fieldK n t x i off fun t' y o => some (⟨t', y, o⟩ : (t' : Ty) × t'.den × Nat)).bind fun p => k p.1 p.2.1 p.2.2
  | 0, t, x, i, off, k => by simp [fieldK]
  | 1, t, x, 0, off, k => by simp [fieldK]
  | 1, t, x, i + 1, off, k => by simp [fieldK]
  | n + 2, .prod a b, x, 0, off, k => by simp [fieldK]
  | n + 2, .prod a b, x, i + 1, off, k => by simp only [fieldK]; exact fieldK_nat (n + 1) b x.2 i (off + a.wid) k
  | n + 2, .int _, x, i, off, k => by simp [fieldK]
  | n + 2, .bool, x, i, off, k => by simp [fieldK]
  | n + 2, .str, x, i, off, k => by simp [fieldK]
  | n + 2, .list _, x, i, off, k => by simp [fieldK]

theorem fieldAddrK_nat {s : TypeId} {f : Nat} {x : A} (k : A → Option ρ) : fieldAddrK C s f x k = (fieldAddrK C s f x some).bind k := by
  unfold fieldAddrK
  repeat' split
  all_goals first
    | rfl
    | (rw [fieldK_nat, fieldK_nat (ρ := A), Option.bind_assoc]; congr 1; funext p; split <;> rfl)

theorem indexAddrK_nat {t : TypeId} {x i : A} (k : A → Option ρ) : indexAddrK C σ t x i k = (indexAddrK C σ t x i some).bind k := by
  unfold indexAddrK
  repeat' split
  all_goals simp [Option.bind_assoc]

theorem loadK_nat {t : TypeId} {x : A} (k : A → Option ρ) : loadK C σ t x k = (loadK C σ t x some).bind k := by
  unfold loadK
  repeat' split
  all_goals simp [Option.bind_assoc]

theorem tkLs_nat (dp : Bool) : (t : Ty) → (σ : Sg) → (ls : List L) → (ρ : Type) → (k : t.den → List L → Sg → Option ρ) → tkLs dp t σ ls k = (tkLs dp t σ ls fun y r s => some (y, r, s)).bind fun p => k p.1 p.2.1 p.2.2
  | .prod a b, σ, ls, ρ, k => by
    simp only [tkLs]
    rw [tkLs_nat dp a σ ls ρ, tkLs_nat dp a σ ls ((Ty.prod a b).den × List L × Sg), Option.bind_assoc]
    congr 1
    funext p
    rw [tkLs_nat dp b _ _ ρ, tkLs_nat dp b _ _ ((Ty.prod a b).den × List L × Sg), Option.bind_assoc]
    rfl
  | .list t, σ, x :: r, ρ, k => by
    simp only [tkLs]
    split
    · repeat' split
      all_goals simp [Option.bind_assoc]
    · rw [rdL_nat (ρ := ρ), rdL_nat (ρ := (Ty.list t).den × List L × Sg), Option.bind_assoc]; rfl
  | .int kd, σ, x :: r, ρ, k => by simp only [tkLs]; rw [rdL_nat (ρ := ρ), rdL_nat (ρ := (Ty.int kd).den × List L × Sg), Option.bind_assoc]; rfl
  | .bool, σ, x :: r, ρ, k => by simp only [tkLs]; rw [rdL_nat (ρ := ρ), rdL_nat (ρ := Ty.bool.den × List L × Sg), Option.bind_assoc]; rfl
  | .str, σ, x :: r, ρ, k => by simp only [tkLs]; rw [rdL_nat (ρ := ρ), rdL_nat (ρ := Ty.str.den × List L × Sg), Option.bind_assoc]; rfl
  | .int _, σ, [], ρ, k => by simp [tkLs]
  | .bool, σ, [], ρ, k => by simp [tkLs]
  | .str, σ, [], ρ, k => by simp [tkLs]
  | .list _, σ, [], ρ, k => by simp [tkLs]

theorem storeK_nat {t : TypeId} {x v : A} (k : Sg → Option ρ) : storeK C σ t x v k = (storeK C σ t x v some).bind k := by
  unfold storeK
  split
  · split
    · simp only; split <;> simp
    · rfl
  · split
    · split
      · rw [tkLs_nat _ _ _ _ ρ, tkLs_nat _ _ _ _ Sg, Option.bind_assoc]
        congr 1
        funext p
        repeat' split
        all_goals simp [Option.bind_assoc]
      · rfl
    · rfl
  · rfl

theorem buildK_nat {t : TypeId} {parts : Array (Nat × Operand)} (k : A → Option ρ) : buildK C σ t parts k = (buildK C σ t parts some).bind k := by
  unfold buildK
  repeat' split
  all_goals simp

theorem elemsK_nat (dp : Bool) (ty : Ty) : (xs : List A) → (σ : Sg) → (ρ : Type) → (k : List ty.den → Sg → Option ρ) → elemsK dp ty σ xs k = (elemsK dp ty σ xs fun y s => some (y, s)).bind fun p => k p.1 p.2
  | [], σ, ρ, k => by simp [elemsK]
  | x :: r, σ, ρ, k => by
    simp only [elemsK]
    rw [tkLs_nat _ _ _ _ ρ, tkLs_nat _ _ _ _ (List ty.den × Sg), Option.bind_assoc]
    congr 1
    funext p
    split
    · rw [elemsK_nat dp ty r _ ρ, elemsK_nat dp ty r _ (List ty.den × Sg) fun ys σ => some (_ :: ys, σ), Option.bind_assoc]; rfl
    · rfl

theorem buildSliceK_nat {t : TypeId} {len : Nat} {parts : Array (Nat × Operand)} (k : A → Sg → Option ρ) : buildSliceK C σ t len parts k = (buildSliceK C σ t len parts fun v s => some (v, s)).bind fun p => k p.1 p.2 := by
  unfold buildSliceK
  split
  · split
    · simp only
      split
      · rw [elemsK_nat _ _ _ _ ρ, elemsK_nat _ _ _ _ (A × Sg), Option.bind_assoc]; rfl
      · rfl
    · rfl
  · rfl

theorem makeSliceK_nat {t : TypeId} {l c : Operand} (k : A → Sg → Option ρ) : makeSliceK C σ t l c k = (makeSliceK C σ t l c fun v s => some (v, s)).bind fun p => k p.1 p.2 := by
  unfold makeSliceK
  repeat' split
  all_goals simp [Option.bind_assoc]

theorem intOptK_nat {x : Option Operand} {d : Int} (k : Int → Option ρ) : intOptK σ x d k = (intOptK σ x d some).bind k := by
  unfold intOptK
  repeat' split
  all_goals simp

theorem sliceK_nat {t : TypeId} {x : A} {lo hi : Option Operand} {vw : Bool} (k : A → Sg → Option ρ) : sliceK C σ t x lo hi vw k = (sliceK C σ t x lo hi vw fun v s => some (v, s)).bind fun p => k p.1 p.2 := by
  unfold sliceK
  repeat' split
  all_goals first
    | rfl
    | (rw [intOptK_nat (ρ := ρ), intOptK_nat (ρ := A × Sg), Option.bind_assoc]
       congr 1; funext l
       first
        | (rw [intOptK_nat (ρ := ρ), intOptK_nat (ρ := A × Sg), Option.bind_assoc]
           congr 1; funext m
           rw [Option.bind_assoc]; rfl)
        | (rw [Option.bind_assoc]; rfl))

theorem extractK_nat {x : A} {i : Nat} (k : A → Option ρ) : extractK x i k = (extractK x i some).bind k := by
  unfold extractK
  repeat' split
  all_goals simp

theorem convertK_nat {src dst : TypeId} {x : A} (k : A → Option ρ) : convertK C σ src dst x k = (convertK C σ src dst x some).bind k := by
  unfold convertK
  repeat' split
  all_goals first
    | rfl
    | (rw [rdL_nat (ρ := ρ), rdL_nat (ρ := A), Option.bind_assoc]; rfl)

theorem indexK_nat {t : TypeId} {x i : A} (k : A → Option ρ) : indexK C t x i k = (indexK C t x i some).bind k := by
  unfold indexK
  split
  · simp [Option.bind_assoc]
  · rfl

theorem lenK_nat {t : TypeId} {x : A} (k : A → Option ρ) : lenK C σ t x k = (lenK C σ t x some).bind k := by
  unfold lenK
  repeat' split
  all_goals simp [Option.bind_assoc]

theorem srcK_nat {dp : Bool} {ty : Ty} {x : A} (k : Bool → List ty.den → Sg → Option ρ) : srcK σ dp ty x k = (srcK σ dp ty x fun d y s => some (d, y, s)).bind fun p => k p.1 p.2.1 p.2.2 := by
  unfold srcK
  repeat' split
  all_goals first
    | rfl
    | (rw [rdL_nat (ρ := ρ), rdL_nat (ρ := Bool × List ty.den × Sg), Option.bind_assoc]; rfl)
    | simp [Option.bind_assoc]

theorem appendK_nat {ts : Array TypeId} {s x : A} (k : A → Sg → Option ρ) : appendK C σ ts s x k = (appendK C σ ts s x fun v s => some (v, s)).bind fun p => k p.1 p.2 := by
  unfold appendK
  repeat' split
  all_goals first
    | rfl
    | (rw [srcK_nat (ρ := ρ), srcK_nat (ρ := A × Sg), Option.bind_assoc]; congr 1; funext p; rw [Option.bind_assoc]; rfl)
    | (rw [Option.bind_assoc]; congr 1; funext z
       rw [srcK_nat (ρ := ρ), srcK_nat (ρ := A × Sg), Option.bind_assoc]; congr 1; funext p; rw [Option.bind_assoc]; rfl)

theorem max2K_nat {op : Bool} {x y : A} (k : A → Option ρ) : max2K op x y k = (max2K op x y some).bind k := by
  unfold max2K
  split <;> simp

/-- A family of continuations' takers that hand on what they find. -/
def Nat1 {β : Type} (f : {ρ : Type} → (β → Sg → Option ρ) → Option ρ) : Prop := ∀ (ρ : Type) (k : β → Sg → Option ρ), f k = (f fun y s => some (y, s)).bind fun p => k p.1 p.2

theorem argK_nat {β : Type} {al : Bool} {p : PM} {x : A} {rest : {ρ : Type} → Sg → (β → Sg → Option ρ) → Option ρ} (hr : ∀ s, Nat1 (fun {ρ} => rest (ρ := ρ) s)) (k : p.den → β → Sg → Option ρ) :
    argK al p x σ rest k = (argK al p x σ rest fun y ys s => some (y, ys, s)).bind fun q => k q.1 q.2.1 q.2.2 := by
  have hr : ∀ (s : Sg) (ρ : Type) (k : β → Sg → Option ρ), rest s k = (rest s fun y s => some (y, s)).bind fun p => k p.1 p.2 := fun s ρ k => hr s ρ k
  unfold argK
  split
  · rw [hr σ ρ, hr σ (_ × β × Sg), Option.bind_assoc]
    congr 1; funext q
    split
    · rw [rdA_nat (ρ := ρ), rdA_nat (ρ := _ × β × Sg), Option.bind_assoc]
      congr 1; funext y
      rw [nnA_nat (ρ := ρ), nnA_nat (ρ := _ × β × Sg), Option.bind_assoc]; rfl
    · rfl
  · repeat' split
    all_goals first
      | rfl
      | (rw [hr σ ρ, hr σ (_ × β × Sg), Option.bind_assoc]; rfl)
  · split
    · rw [tkO_nat (ρ := ρ), tkO_nat (ρ := _ × β × Sg), Option.bind_assoc]
      congr 1; funext q
      rw [hr _ ρ, hr _ (_ × β × Sg), Option.bind_assoc]; rfl
    · rfl
  · repeat' split
    all_goals first
      | rfl
      | (rw [Option.bind_assoc]; congr 1; funext z; rw [hr _ ρ, hr _ (_ × β × Sg), Option.bind_assoc]; rfl)

theorem argsK_nat (al : Bool) : (ps : List PM) → (xs : List A) → (σ : Sg) → Nat1 (β := PMs.den ps) (fun {ρ} => argsK (ρ := ρ) al ps xs σ)
  | [], [], σ => fun ρ k => by simp [argsK]
  | [p], [x], σ => fun ρ k => by
    simp only [argsK]
    rw [argK_nat (rest := fun {ρ} σ k => k () σ) (fun s ρ k => by simp), argK_nat (rest := fun {ρ} σ k => k () σ) (ρ := PMs.den [p] × Sg) (fun s ρ k => by simp), Option.bind_assoc]
    rfl
  | p :: p' :: r, x :: xs, σ => fun ρ k => by
    simp only [argsK]
    rw [argK_nat (rest := fun {ρ} => argsK (ρ := ρ) al (p' :: r) xs) (fun s => argsK_nat al (p' :: r) xs s),
      argK_nat (rest := fun {ρ} => argsK (ρ := ρ) al (p' :: r) xs) (ρ := PMs.den (p :: p' :: r) × Sg) (fun s => argsK_nat al (p' :: r) xs s), Option.bind_assoc]
    rfl
  | [], _ :: _, σ => fun ρ k => by simp [argsK]
  | [_], [], σ => fun ρ k => by simp [argsK]
  | [_], _ :: _ :: _, σ => fun ρ k => by simp [argsK]
  | _ :: _ :: _, [], σ => fun ρ k => by simp [argsK]

theorem argsK_nat' {al : Bool} {ps : List PM} {xs : List A} {σ : Sg} (k : PMs.den ps → Sg → Option ρ) : argsK al ps xs σ k = (argsK al ps xs σ fun y s => some (y, s)).bind fun p => k p.1 p.2 := argsK_nat al ps xs σ ρ k

theorem backK_nat : (ps : List PM) → (xs : List A) → (y : PMo.den ps) → (σ : Sg) → (k : Sg → Option ρ) → backK ps xs y σ k = (backK ps xs y σ some).bind k
  | [], xs, y, σ, k => by simp [backK]
  | .io dp e t :: r, x :: xs, y, σ, k => by
    simp only [backK]
    split
    · split
      · exact backK_nat r xs y.2 _ k
      · rfl
    · rfl
  | .d _ _ :: r, x :: xs, y, σ, k => by simp only [backK]; exact backK_nat r xs y _ k
  | .f _ :: r, x :: xs, y, σ, k => by simp only [backK]; exact backK_nat r xs y _ k
  | .mv _ _ _ :: r, x :: xs, y, σ, k => by simp only [backK]; exact backK_nat r xs y _ k
  | .io _ _ _ :: _, [], y, σ, k => by simp [backK]
  | .d _ _ :: _, [], y, σ, k => by simp [backK]
  | .f _ :: _, [], y, σ, k => by simp [backK]
  | .mv _ _ _ :: _, [], y, σ, k => by simp [backK]

theorem encSs_nat (cs : List SK) (σ : Sg) (y : SKs.den cs) (k : List A → Sg → Option ρ) : encSs σ cs y k = (encSs σ cs y fun v s => some (v, s)).bind fun p => k p.1 p.2 := by
  obtain ⟨xs, σ', _, _, h⟩ := encSs_shape cs σ y
  rw [h, h]; rfl

def NatI (C : Ctx) : Prop := ∀ e ∈ C.I, ∀ (ρ : Type) (xs : List A) (σ : Sg) (k : A → Sg → Option ρ), e.K ρ xs σ k = (e.K (A × Sg) xs σ fun v s => some (v, s)).bind fun p => k p.1 p.2

theorem callK_nat {f : FuncId} {xs : List A} (hN : NatI C) (k : A → Sg → Option ρ) : callK C σ f xs k = (callK C σ f xs fun v s => some (v, s)).bind fun p => k p.1 p.2 := by
  unfold callK
  split
  · simp only
    split
    · rw [argsK_nat' (ρ := ρ), argsK_nat' (ρ := A × Sg), Option.bind_assoc]
      congr 1; funext q
      rw [Option.bind_assoc]
      congr 1; funext r
      split
      · rw [backK_nat (ρ := ρ), backK_nat (ρ := A × Sg), Option.bind_assoc]
        congr 1; funext s
        rw [encSs_nat (ρ := ρ), encSs_nat (ρ := A × Sg), Option.bind_assoc]; rfl
      · rw [encSs_nat (ρ := ρ), encSs_nat (ρ := A × Sg), Option.bind_assoc]; rfl
    · rfl
  · split
    · rename_i e he
      exact hN e (findI_some he).1 _ _ _ _
    · rfl

theorem opK_nat (hN : NatI C) {op : Op} (k : A → Sg → Option ρ) : opK C σ op k = (opK C σ op fun v s => some (v, s)).bind fun p => k p.1 p.2 := by
  have lift : ∀ {f : {ρ : Type} → (A → Option ρ) → Option ρ}, (∀ (ρ : Type) (k : A → Option ρ), f k = (f some).bind k) → (f fun v => k v σ) = (f fun v => some (v, σ)).bind fun p => k p.1 p.2 := fun hf => by
    rw [hf ρ, hf (A × Sg), Option.bind_assoc]; rfl
  unfold opK
  split
  · rfl
  · rfl
  · split
    · rename_i cb _; cases cb <;> rfl
    · rfl
  · exact lift (f := fun {ρ} => unK (ρ := ρ) _ _) fun ρ k => unK_nat k
  · exact lift (f := fun {ρ} => binK (ρ := ρ) C _ _ σ _ _) fun ρ k => binK_nat k
  · exact lift (f := fun {ρ} => loadK (ρ := ρ) C σ _ _) fun ρ k => loadK_nat k
  · rw [storeK_nat (ρ := ρ), storeK_nat (ρ := A × Sg), Option.bind_assoc]; rfl
  · exact lift (f := fun {ρ} => fieldAddrK (ρ := ρ) C _ _ _) fun ρ k => fieldAddrK_nat k
  · exact lift (f := fun {ρ} => indexAddrK (ρ := ρ) C σ _ _ _) fun ρ k => indexAddrK_nat k
  · split <;> rfl
  · simp only; split <;> rfl
  · exact lift (f := fun {ρ} => buildK (ρ := ρ) C σ _ _) fun ρ k => buildK_nat k
  · exact buildSliceK_nat k
  · exact makeSliceK_nat k
  · exact sliceK_nat k
  · exact lift (f := fun {ρ} => extractK (ρ := ρ) _ _) fun ρ k => extractK_nat k
  · exact lift (f := fun {ρ} => convertK (ρ := ρ) C σ _ _ _) fun ρ k => convertK_nat k
  · exact lift (f := fun {ρ} => indexK (ρ := ρ) C _ _ _) fun ρ k => indexK_nat k
  · split <;> rfl
  · split
    · unfold builtinK
      split
      · split
        · exact lift (f := fun {ρ} => lenK (ρ := ρ) C σ _ _) fun ρ k => lenK_nat k
        · rfl
      · exact appendK_nat k
      · exact lift (f := fun {ρ} => max2K (ρ := ρ) true _ _) fun ρ k => max2K_nat k
      · exact lift (f := fun {ρ} => max2K (ρ := ρ) false _ _) fun ρ k => max2K_nat k
      · rfl
    · split
      · exact callK_nat hN k
      · exact callK_nat hN k
      · rfl
    · rfl
  · rfl

end
end Go.Proofs.Ytajlabmnpimeeaa.Eng
