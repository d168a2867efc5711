/-
  The engine, part 2. The evaluator: it runs the model's code over plain data, with a store of slices and variables that the call owns. No condition.
-/
import Derived.Test.YtajlabmnpimeeaaEng1
namespace Go.Proofs.Ytajlabmnpimeeaa.Eng
open Go
set_option linter.unusedVariables false

/-- What is known of one cell's value. -/
inductive L where
  | unk
  | nils
  | dat (nn : Bool) (t : Ty) (x : t.den)
  | cptr (t : Ty) (x : t.den)
  | ref (id : Nat)
  | optr (id wid : Nat) (i : Nat)
  | bptr (id j : Nat)
  | fn (f : FuncId)
  | clo (f : FuncId) (ids : List Nat)
  | und
  | sub (id wid l m : Nat)

/-- What is known of a value: one cell, a struct, a tuple. -/
inductive A where
  | l (x : L)
  | a (xs : List L)
  | t (vs : List (Bool × List L))

/-- An object of the call's own: a slice, a variable in memory. 'ro': no longer written. 'dp': its elements' memory is its own. -/
inductive Ob where
  | own (ro dp : Bool) (e : TypeId) (t : Ty) (x : List t.den)
  | box (ro : Bool) (e : TypeId) (cs : List L)

def Ob.ro : Ob → Bool
  | .own ro _ _ _ _ => ro
  | .box ro _ _ => ro
def Ob.freeze : Ob → Ob
  | .own _ d e t x => .own true d e t x
  | .box _ e cs => .box true e cs

structure Sg where
  env : List A
  hp : List (Option Ob)

def Sg.ob (σ : Sg) (id : Nat) : Option Ob := (σ.hp[id]?).join

def castT (t t' : Ty) (x : t.den) : Option t'.den :=
  match decEq t t' with
  | isTrue h => some (h ▸ x)
  | isFalse _ => none

def idx {α : Type} (xs : List α) (i : Int) : Option α := if 0 ≤ i then xs[i.toNat]? else none
def inIdx (n : Nat) (i : Int) : Option Unit := if 0 ≤ i ∧ i < n then some () else none
def subl {α : Type} (xs : List α) (lo hi : Int) : Option (List α) := if 0 ≤ lo ∧ lo ≤ hi ∧ hi ≤ xs.length then some ((xs.take hi.toNat).drop lo.toNat) else none
def subs (s : ByteArray) (lo hi : Int) : Option ByteArray := if 0 ≤ lo ∧ lo ≤ hi ∧ hi ≤ s.size then some (s.extract lo.toNat hi.toNat) else none
def quoI (k : IntKind) (a b : Int) : Option Int := if b = 0 then none else some (k.wrap (a.tdiv b))
def remI (k : IntKind) (a b : Int) : Option Int := if b = 0 then none else some (a.tmod b)
def shlI (k : IntKind) (a b : Int) : Option Int := if b < 0 then none else some (k.wrap (a * 2 ^ (min b.toNat k.bits)))
def shrI (k : IntKind) (a b : Int) : Option Int := if b < 0 then none else some (a.fdiv (2 ^ (min b.toNat k.bits)))
def andI (k : IntKind) (a b : Int) : Int := k.wrap (BitVec.ofInt k.bits a &&& BitVec.ofInt k.bits b).toNat
def orI (k : IntKind) (a b : Int) : Int := k.wrap (BitVec.ofInt k.bits a ||| BitVec.ofInt k.bits b).toNat
def xorI (k : IntKind) (a b : Int) : Int := k.wrap (BitVec.ofInt k.bits a ^^^ BitVec.ofInt k.bits b).toNat
def appD {α : Type} (bytes : Nat) (xs ys : List α) : Option (List α) := if (xs.length + ys.length) * bytes ≤ lim ∧ xs.length + ys.length ≤ lim then some (xs ++ ys) else none
def mkD {α : Type} (bytes : Nat) (n : Int) (d : α) : Option (List α) := if 0 ≤ n ∧ n * bytes ≤ lim ∧ n ≤ lim then some (List.replicate n.toNat d) else none
def catS (a b : ByteArray) : Option ByteArray := if a.size + b.size ≤ lim then some (a ++ b) else none
def nneD {α : Type} (xs : List α) : Option Unit := if xs.isEmpty then none else some ()

/-- The data of a zero value. -/
def Ty.dflt : (t : Ty) → t.den
  | .int _ => (0 : Int)
  | .bool => false
  | .str => ByteArray.empty
  | .list _ => []
  | .prod a b => (a.dflt, b.dflt)

/-- Kinds of what a loop keeps, a call hands back. -/
inductive LK where
  | d (nn : Bool) (t : Ty)
  | o (dp : Bool) (e : TypeId) (t : Ty)

@[reducible] def LK.den : LK → Type
  | .d _ t => t.den
  | .o _ _ t => List t.den

@[reducible] def LKs.den : List LK → Type
  | [] => Unit
  | [k] => k.den
  | k :: k' :: r => k.den × LKs.den (k' :: r)

inductive SK where
  | l (k : LK)
  | a (ks : List LK)
  | b (e : TypeId) (ks : List LK)

@[reducible] def SK.den : SK → Type
  | .l k => k.den
  | .a ks => LKs.den ks
  | .b _ ks => LKs.den ks

@[reducible] def SKs.den : List SK → Type
  | [] => Unit
  | [k] => k.den
  | k :: k' :: r => k.den × SKs.den (k' :: r)

/-- Kinds of parameters: data; a named function; a slice that the call takes over; one that it changes in place. -/
inductive PM where
  | d (nn : Bool) (t : Ty)
  | f (f : FuncId)
  | mv (dp : Bool) (e : TypeId) (t : Ty)
  | io (dp : Bool) (e : TypeId) (t : Ty)

@[reducible] def PM.den : PM → Type
  | .d _ t => t.den
  | .f _ => Unit
  | .mv _ _ t => List t.den
  | .io _ _ t => List t.den

@[reducible] def PMs.den : List PM → Type
  | [] => Unit
  | [k] => k.den
  | k :: k' :: r => k.den × PMs.den (k' :: r)

/-- What the changed parameters hold behind the call. -/
@[reducible] def PMo.den : List PM → Type
  | [] => Unit
  | .io _ _ t :: r => List t.den × PMo.den r
  | _ :: r => PMo.den r

def hasIo : List PM → Bool
  | [] => false
  | .io _ _ _ :: _ => true
  | _ :: r => hasIo r

@[reducible] def ResB (b : Bool) (R O : Type) : Type :=
  match b with
  | true => R × O
  | false => R

def resB {R O : Type} : (b : Bool) → ResB b R O → R × Option O
  | true, x => (x.1, some x.2)
  | false, x => (x, none)

/-- A callee: how it takes its arguments, what it hands back, and the plain function that it is. -/
structure CallE where
  f : FuncId
  ps : List PM
  rs : List SK
  F : PMs.den ps → Option (ResB (hasIo ps) (SKs.den rs) (PMo.den ps))

inductive AEx where
  | normal
  | exit (id : Nat)
  | ret
  deriving DecidableEq

/-- A loop: named by the first region of its body; what it keeps from round to round; what it leaves behind an exit; behind a return. -/
structure LoopA where
  id : Nat
  st : List (Nat × SK)
  brk : Option (Nat × List (Nat × SK))
  ret : Option (List (Nat × SK))

/-- A region whose order is drawn: the slots whose slices are frozen ahead of it; the operations whose new slices become plain data. -/
structure DrawA where
  id : Nat
  fz : List Nat
  th : List Nat

/-- A function that is run in its caller's state. -/
structure InE where
  f : FuncId
  dr : Bool
  K : (ρ : Type) → List A → Sg → (A → Sg → Option ρ) → Option ρ

structure Ctx where
  P : Program
  T : List (TypeId × Ty)
  O : List CallE
  An : List LoopA
  Dr : List DrawA
  I : List InE := []
  Vw : List Nat := []
  Sq : List (Nat × List Nat) := []

def findI (f : FuncId) : List InE → Option InE
  | [] => none
  | e :: r => if e.f = f then some e else findI f r

section
variable {ρ : Type}

/-! Reading. -/

def rdL (σ : Sg) (t : Ty) (x : L) (k : t.den → Option ρ) : Option ρ :=
  match x with
  | .dat _ t' y => (castT t' t y).bind k
  | .nils => match t with
    | .list _ => k []
    | _ => none
  | .ref id => match σ.ob id with
    | some (.own _ _ _ t' y) => (castT (.list t') t y).bind k
    | _ => none
  | _ => none

def rdLs (σ : Sg) : (t : Ty) → List L → (t.den → List L → Option ρ) → Option ρ
  | .prod a b, ls, k => rdLs σ a ls fun x r => rdLs σ b r fun y r' => k (x, y) r'
  | t, x :: r, k => rdL σ t x fun y => k y r
  | _, [], _ => none

def rdA (σ : Sg) (t : Ty) (x : A) (k : t.den → Option ρ) : Option ρ :=
  match x with
  | .l x => rdL σ t x k
  | .a ls => match t with
    | .prod a b => rdLs σ (.prod a b) ls fun y r => match r with
      | [] => k y
      | _ => none
    | _ => none
  | .t _ => none

/-- An empty list of this value is nil. -/
def nnL (t : Ty) (x : L) (y : t.den) (k : Option ρ) : Option ρ :=
  match x with
  | .nils => k
  | .dat true _ _ => k
  | _ => match t, y with
    | .list _, (z : List _) => (nneD z).bind fun _ => k
    | _, _ => k

def nnK (nn : Bool) (t : Ty) (x : L) (y : t.den) (k : Option ρ) : Option ρ :=
  match nn with
  | true => nnL t x y k
  | false => k

def nnA (nn : Bool) (t : Ty) (x : A) (y : t.den) (k : Option ρ) : Option ρ :=
  match nn with
  | true => (match x with
    | .l l => nnL t l y k
    | _ => none)
  | false => k

def setHp (σ : Sg) (id : Nat) (o : Option Ob) : Sg := { σ with hp := σ.hp.set id o }
def addHp (σ : Sg) (o : Ob) : Sg := { σ with hp := σ.hp ++ [some o] }

def freezeL (σ : Sg) (x : L) : Sg :=
  match x with
  | .ref id => match σ.ob id with
    | some o => setHp σ id (some o.freeze)
    | none => σ
  | _ => σ

def okDp (dp dp' : Bool) (t : Ty) : Bool := !dp || dp' || t.flat

/-- Take a slice over. -/
def tkO (σ : Sg) (dp : Bool) (e : TypeId) (t : Ty) (x : L) (k : List t.den → Sg → Option ρ) : Option ρ :=
  match x with
  | .nils => k [] σ
  | .ref id => match σ.ob id with
    | some (.own false dp' e' t' y) => if okDp dp dp' t && e == e' then (castT (.list t') (.list t) y).bind fun z => k z (setHp σ id none) else none
    | _ => none
  | _ => none

/-- Frozen, or no slice of the call's own. -/
def okL (σ : Sg) (x : L) : Bool :=
  match x with
  | .ref id => match σ.ob id with
    | some (.own ro _ _ _ _) => ro
    | _ => false
  | _ => true

def okA (σ : Sg) (x : A) : Bool :=
  match x with
  | .l x => okL σ x
  | .a ls => ls.all (okL σ)
  | .t _ => true

def decL (σ : Sg) (c : LK) (x : L) (k : c.den → Sg → Option ρ) : Option ρ :=
  match c with
  | .d nn t => match okL σ x with
    | true => rdL σ t x fun y => nnK nn t x y (k y σ)
    | false => none
  | .o dp e t => tkO σ dp e t x k

def decLs : (cs : List LK) → List L → (σ : Sg) → (LKs.den cs → Sg → Option ρ) → Option ρ
  | [], [], σ, k => k () σ
  | [c], [x], σ, k => decL σ c x k
  | c :: c' :: r, x :: xs, σ, k => decL σ c x fun y σ => decLs (c' :: r) xs σ fun ys σ => k (y, ys) σ
  | _, _, _, _ => none

/-- A plain value's cells. -/
def splitD : (t : Ty) → t.den → List L
  | .prod a b, x => splitD a x.1 ++ splitD b x.2
  | t, x => [.dat false t x]

def cellsA (x : A) : List L :=
  match x with
  | .l .unk => []
  | .l .und => []
  | .l (.dat _ (.prod a b) y) => splitD (.prod a b) y
  | .l x => [x]
  | .a ls => ls
  | .t _ => []

def decS (c : SK) (x : A) (σ : Sg) (k : c.den → Sg → Option ρ) : Option ρ :=
  match c with
  | .l c => match x with
    | .l x => decL σ c x k
    | .a ls => match c with
      | .d _ t => match okA σ (.a ls) with
        | true => rdA σ t (.a ls) fun y => k y σ
        | false => none
      | .o _ _ _ => none
    | .t _ => none
  | .a cs => match x with
    | .a ls => decLs cs ls σ k
    | .l (.dat _ (.prod a b) y) => decLs cs (splitD (.prod a b) y) σ k
    | _ => none
  | .b e cs => match x with
    | .l (.bptr id 0) => match σ.ob id with
      | some (.box false e' ls) => if e == e' then decLs cs ls (setHp σ id none) k else none
      | _ => none
    | _ => none

def decSs : (cs : List SK) → List A → (σ : Sg) → (SKs.den cs → Sg → Option ρ) → Option ρ
  | [], [], σ, k => k () σ
  | [c], [x], σ, k => decS c x σ k
  | c :: c' :: r, x :: xs, σ, k => decS c x σ fun y σ => decSs (c' :: r) xs σ fun ys σ => k (y, ys) σ
  | _, _, _, _ => none

/-- Freeze what is going to be read. -/
def frzL (σ : Sg) (c : LK) (x : L) : Sg :=
  match c with
  | .d _ _ => freezeL σ x
  | .o _ _ _ => σ

def frzLs : List LK → List L → Sg → Sg
  | c :: cs, x :: xs, σ => frzLs cs xs (frzL σ c x)
  | _, _, σ => σ

def frzS (c : SK) (x : A) (σ : Sg) : Sg :=
  match c with
  | .l c => match x with
    | .l x => frzL σ c x
    | .a ls => ls.foldl freezeL σ
    | .t _ => σ
  | .a cs => frzLs cs (cellsA x) σ
  | .b _ cs => match x with
    | .l (.bptr id 0) => match σ.ob id with
      | some (.box _ _ ls) => frzLs cs ls σ
      | _ => σ
    | _ => σ

def frzSs : List SK → List A → Sg → Sg
  | c :: cs, x :: xs, σ => frzSs cs xs (frzS c x σ)
  | _, _, σ => σ

def takeSs (σ : Sg) (cs : List SK) (xs : List A) (k : SKs.den cs → Sg → Option ρ) : Option ρ := decSs cs xs (frzSs cs xs σ) k

def encL (σ : Sg) (c : LK) (x : c.den) (k : L → Sg → Option ρ) : Option ρ :=
  match c with
  | .d nn t => k (.dat nn t x) σ
  | .o dp e t => k (.ref σ.hp.length) (addHp σ (.own false dp e t x))

def encLs (σ : Sg) : (cs : List LK) → LKs.den cs → (List L → Sg → Option ρ) → Option ρ
  | [], _, k => k [] σ
  | [c], x, k => encL σ c x fun l σ => k [l] σ
  | c :: c' :: r, x, k => encL σ c x.1 fun l σ => encLs σ (c' :: r) x.2 fun ls σ => k (l :: ls) σ

def encS (σ : Sg) (c : SK) (x : c.den) (k : A → Sg → Option ρ) : Option ρ :=
  match c with
  | .l c => encL σ c x fun l σ => k (.l l) σ
  | .a cs => encLs σ cs x fun ls σ => k (.a ls) σ
  | .b e cs => encLs σ cs x fun ls σ => k (.l (.bptr σ.hp.length 0)) (addHp σ (.box false e ls))

def encSs (σ : Sg) : (cs : List SK) → SKs.den cs → (List A → Sg → Option ρ) → Option ρ
  | [], _, k => k [] σ
  | [c], x, k => encS σ c x fun l σ => k [l] σ
  | c :: c' :: r, x, k => encS σ c x.1 fun l σ => encSs σ (c' :: r) x.2 fun ls σ => k (l :: ls) σ

/-! Operations. -/

def ofConst (v : Value) : A :=
  match v with
  | .int k n => .l (.dat true (.int k) n)
  | .bool b => .l (.dat true .bool b)
  | .string s => if s.size ≤ lim then .l (.dat true .str s) else .l .unk
  | .slice none 0 0 => .l .nils
  | _ => .l .unk

def getA (σ : Sg) (x : Operand) : A :=
  match x with
  | .tmp t => σ.env.getD t (.l .unk)
  | .const v => ofConst v
  | .func f => .l (.fn f)
  | .global _ => .l .unk

def setK : List A → Nat → A → (List A → Option ρ) → Option ρ
  | [], _, _, k => k []
  | _ :: r, 0, v, k => k (v :: r)
  | a :: r, n + 1, v, k => setK r n v fun r' => k (a :: r')

def putK (σ : Sg) (d : Option Tmp) (v : A) (k : Sg → Option ρ) : Option ρ :=
  match d with
  | none => k σ
  | some d => setK σ.env d v fun env => k { σ with env := env }

variable (C : Ctx)

def isAggT (t : TypeId) : Option Bool :=
  match C.P.underlying t with
  | some (.struct _) => some true
  | some (.array _ _) => some true
  | some _ => some false
  | none => none

def szT (t : TypeId) : Option Nat := (C.P.info? t).map (·.size)
def byT (t : TypeId) : Option Nat := (C.P.info? t).map (·.bytes)
def elT (t : TypeId) : Option TypeId :=
  match C.P.underlying t with
  | some (.slice e) => some e
  | _ => none
def lookT (e : TypeId) : List (TypeId × Ty) → Option Ty
  | [] => none
  | (e', t) :: r => if e == e' then some t else lookT e r

/-- The Go type 't' is laid as the plain type 'ty' is. -/
def fitT (t : TypeId) (ty : Ty) : Bool := isAggT C t == some ty.isProd && szT C t == some ty.wid

def int64 (n : Int) : A := .l (.dat true (.int .i64) n)
def boolA (b : Bool) : A := .l (.dat true .bool b)

def intOpK (op : BinOp) (kd : IntKind) (a b : Int) (k : A → Option ρ) : Option ρ :=
  match op with
  | .add => k (.l (.dat true (.int kd) (kd.wrap (a + b))))
  | .sub => k (.l (.dat true (.int kd) (kd.wrap (a - b))))
  | .mul => k (.l (.dat true (.int kd) (kd.wrap (a * b))))
  | .quo => (quoI kd a b).bind fun c => k (.l (.dat true (.int kd) c))
  | .rem => (remI kd a b).bind fun c => k (.l (.dat true (.int kd) c))
  | .and => k (.l (.dat true (.int kd) (andI kd a b)))
  | .or => k (.l (.dat true (.int kd) (orI kd a b)))
  | .xor => k (.l (.dat true (.int kd) (xorI kd a b)))
  | .eql => k (boolA (a == b))
  | .neq => k (boolA (a != b))
  | .lss => k (boolA (decide (a < b)))
  | .leq => k (boolA (decide (a ≤ b)))
  | .gtr => k (boolA (decide (a > b)))
  | .geq => k (boolA (decide (a ≥ b)))
  | _ => none

/-- A value against nil. -/
def nilK (σ : Sg) (x : L) (k : Bool → Option ρ) : Option ρ :=
  match x with
  | .nils => k true
  | .dat true (.list _) (y : List _) => k y.isEmpty
  | .dat false (.list _) (y : List _) => (nneD y).bind fun _ => k false
  | .ref id => match σ.ob id with
    | some (.own _ _ _ _ y) => (nneD y).bind fun _ => k false
    | _ => none
  | _ => none

def binK (op : BinOp) (t : TypeId) (σ : Sg) (x y : A) (k : A → Option ρ) : Option ρ :=
  match x, y with
  | .l (.dat _ (.int kd) (a : Int)), .l (.dat _ (.int kd') (b : Int)) =>
    match op with
    | .shl => (shlI kd a b).bind fun c => k (.l (.dat true (.int kd) c))
    | .shr => (shrI kd a b).bind fun c => k (.l (.dat true (.int kd) c))
    | op => if kd = kd' then intOpK op kd a b k else none
  | .l (.dat _ .str (a : ByteArray)), .l (.dat _ .str (b : ByteArray)) =>
    match op with
    | .add => (catS a b).bind fun c => k (.l (.dat true .str c))
    | .eql => k (boolA (a.toList == b.toList))
    | .neq => k (boolA (!(a.toList == b.toList)))
    | _ => none
  | .l (.dat _ .bool (a : Bool)), .l (.dat _ .bool (b : Bool)) =>
    match C.P.underlying t with
    | some .bool => match op with
      | .eql => k (boolA (a == b))
      | .neq => k (boolA (!(a == b)))
      | _ => none
    | _ => none
  | .l x, .l .nils =>
    match elT C t with
    | some _ => match op with
      | .eql => nilK σ x fun b => k (boolA b)
      | .neq => nilK σ x fun b => k (boolA (!b))
      | _ => none
    | none => none
  | _, _ => none

def unK (op : UnOp) (x : A) (k : A → Option ρ) : Option ρ :=
  match op, x with
  | .neg, .l (.dat _ (.int kd) (a : Int)) => k (.l (.dat true (.int kd) (kd.wrap (0 - a))))
  | .not, .l (.dat _ .bool (b : Bool)) => k (boolA !b)
  | _, _ => none

/-- Field number i of n, and how many cells stand before it. -/
def fieldK : (n : Nat) → (t : Ty) → t.den → Nat → Nat → ((t' : Ty) → t'.den → Nat → Option ρ) → Option ρ
  | 1, t, x, 0, off, k => k t x off
  | n + 2, .prod a _, x, 0, off, k => k a x.1 off
  | n + 2, .prod a b, x, i + 1, off, k => fieldK (n + 1) b x.2 i (off + a.wid) k
  | _, _, _, _, _, _ => none

def fieldAddrK (s : TypeId) (f : Nat) (x : A) (k : A → Option ρ) : Option ρ :=
  match C.P.underlying s with
  | some (.struct fs) => match fs[f]? with
    | some fd => match szT C fd.type with
      | some (_ + 1) => match x with
        | .l (.bptr id j) => k (.l (.bptr id (j + fd.offset)))
        | .l (.cptr t y) => fieldK fs.size t y f 0 fun t' y' off => if off = fd.offset then k (.l (.cptr t' y')) else none
        | _ => none
      | _ => none
    | none => none
  | _ => none

def indexAddrK (σ : Sg) (t : TypeId) (x i : A) (k : A → Option ρ) : Option ρ :=
  match elT C t, i with
  | some e, .l (.dat _ (.int _) (i : Int)) => match x with
    | .l (.dat _ (.list ty) (xs : List _)) => if szT C e = some ty.wid then (idx xs i).bind fun y => k (.l (.cptr ty y)) else none
    | .l (.ref id) => match σ.ob id with
      | some (.own true _ _ ty xs) => if szT C e = some ty.wid then (idx xs i).bind fun y => k (.l (.cptr ty y)) else none
      | some (.own false _ _ ty xs) => if szT C e = some ty.wid then (inIdx xs.length i).bind fun _ => k (.l (.optr id ty.wid i.toNat)) else none
      | _ => none
    | _ => none
  | _, _ => none

def loadK (σ : Sg) (t : TypeId) (a : A) (k : A → Option ρ) : Option ρ :=
  match a with
  | .l (.cptr ty y) => if fitT C t ty then k (.l (.dat false ty y)) else none
  | .l (.optr id wid i) => match σ.ob id with
    | some (.own _ _ _ ty xs) => if ty.wid = wid ∧ fitT C t ty then (idx xs i).bind fun y => k (.l (.dat false ty y)) else none
    | _ => none
  | .l (.bptr id j) => match σ.ob id with
    | some (.box _ _ cs) => match isAggT C t with
      | some true => if szT C t = some cs.length ∧ j = 0 then k (.a cs) else none
      | some false => match cs[j]? with
        | some x => k (.l x)
        | none => none
      | none => none
    | _ => none
  | _ => none

/-- One element's data; 'dp': its lists are taken over. -/
def tkLs (dp : Bool) : (t : Ty) → Sg → List L → (t.den → List L → Sg → Option ρ) → Option ρ
  | .prod a b, σ, ls, k => tkLs dp a σ ls fun x r σ => tkLs dp b σ r fun y r' σ => k (x, y) r' σ
  | .list t, σ, x :: r, k => if dp then (match x with
      | .nils => k [] r σ
      | .ref id => match σ.ob id with
        | some (.own false dp' _ t' y) => if okDp true dp' t then (castT (.list t') (.list t) y).bind fun z => k z r (setHp σ id none) else none
        | _ => none
      | _ => none) else rdL σ (.list t) x fun y => k y r (freezeL σ x)
  | t, σ, x :: r, k => rdL σ t x fun y => k y r σ
  | _, _, [], _ => none

/-- Can an element's lists be taken over? -/
def canTk : (t : Ty) → Sg → List L → Bool × List L
  | .prod a b, σ, ls => let (p, r) := canTk a σ ls; let (q, r') := canTk b σ r; (p && q, r')
  | .list t, σ, x :: r => ((match x with
      | .nils => true
      | .ref id => match σ.ob id with
        | some (.own false dp' _ _ _) => okDp true dp' t
        | _ => false
      | _ => false), r)
  | _, _, _ :: r => (true, r)
  | _, _, [] => (false, [])

def storeK (σ : Sg) (t : TypeId) (a v : A) (k : Sg → Option ρ) : Option ρ :=
  match a with
  | .l (.bptr id j) => match σ.ob id with
    | some (.box false e cs) =>
      let ls := cellsA v
      if szT C t = some ls.length ∧ j + ls.length ≤ cs.length ∧ 0 < ls.length then k (setHp σ id (some (.box false e (cs.take j ++ ls ++ cs.drop (j + ls.length))))) else none
    | _ => none
  | .l (.optr id wid i) => match σ.ob id with
    | some (.own false dp e ty xs) =>
      if ty.wid = wid ∧ fitT C t ty then
        tkLs (dp && !ty.flat) ty σ (cellsA v) fun y r σ' => match r, σ'.ob id with
          | [], some (.own false dp2 e2 ty2 xs2) => if dp2 = dp ∧ e2 = e ∧ ty2 = ty then (castT (.list ty2) (.list ty) xs2).bind fun xs2 => (inIdx xs2.length i).bind fun _ => k (setHp σ' id (some (.own false dp e ty (xs2.set i y)))) else none
          | _, _ => none
      else none
    | _ => none
  | _ => none

def zeroL (v : Value) : L :=
  match v with
  | .int k n => .dat true (.int k) n
  | .bool b => .dat true .bool b
  | .string s => if s.size = 0 then .dat true .str s else .unk
  | .slice none 0 0 => .nils
  | _ => .unk

def zeroLs (t : TypeId) : Option (List L) := ((C.P.info? t).bind (·.zero)).bind fun z => if z.cells.toList.all Value.oneCell' then some (z.cells.toList.map zeroL) else none

/-- The zero cells read as the zero of 'ty'. -/
def zeroOk : (ty : Ty) → List Value → Bool × List Value
  | .prod a b, vs => let (p, r) := zeroOk a vs; let (q, r') := zeroOk b r; (p && q, r')
  | .int k, v :: r => ((match v with | .int k' 0 => decide (k = k') | _ => false), r)
  | .bool, v :: r => ((match v with | .bool false => true | _ => false), r)
  | .str, v :: r => ((match v with | .string s => s.size == 0 | _ => false), r)
  | .list _, v :: r => ((match v with | .slice none 0 0 => true | _ => false), r)
  | _, [] => (false, [])

def fillLs (places : Nat → Option (Nat × Nat)) (cs : List L) : List (Nat × List L) → Option (List L)
  | [] => some cs
  | (i, ls) :: r => match places i with
    | some (off, sz) => if ls.length = sz ∧ off + sz ≤ cs.length ∧ 0 < ls.length then fillLs places (cs.take off ++ ls ++ cs.drop (off + sz)) r else none
    | none => none

def buildK (σ : Sg) (t : TypeId) (parts : Array (Nat × Operand)) (k : A → Option ρ) : Option ρ :=
  match C.P.underlying t with
  | some (.struct fs) => match zeroLs C t, fs.toList.mapM (fun f => (C.P.info? f.type).map fun i => (f.offset, i.size)) with
    | some zs, some places => match fillLs (places.toArray[·]?) zs (parts.toList.map fun p => (p.1, cellsA (getA σ p.2))) with
      | some ls => k (.a ls)
      | none => none
    | _, _ => none
  | _ => none

def elemsK (dp : Bool) (ty : Ty) : Sg → List A → (List ty.den → Sg → Option ρ) → Option ρ
  | σ, [], k => k [] σ
  | σ, x :: r, k => tkLs dp ty σ (cellsA x) fun y rest σ => match rest with
    | [] => elemsK dp ty σ r fun ys σ => k (y :: ys) σ
    | _ => none

def inOrder : Nat → List (Nat × Operand) → Bool
  | _, [] => true
  | n, (i, _) :: r => i == n && inOrder (n + 1) r

def buildSliceK (σ : Sg) (t : TypeId) (len : Nat) (parts : Array (Nat × Operand)) (k : A → Sg → Option ρ) : Option ρ :=
  match elT C t with
  | some e => match lookT e C.T with
    | some ty =>
      let xs := parts.toList.map fun p => getA σ p.2
      if szT C e = some ty.wid ∧ parts.size = len ∧ inOrder 0 parts.toList ∧ len * ty.wid ≤ 16777216 ∧ (zeroLs C e).isSome then
        let dp := ty.flat || xs.all fun x => (canTk ty σ (cellsA x)).1
        elemsK (dp && !ty.flat) ty σ xs fun ys σ => k (.l (.ref σ.hp.length)) (addHp σ (.own false dp e ty ys))
      else none
    | none => none
  | none => none

def makeSliceK (σ : Sg) (t : TypeId) (l c : Operand) (k : A → Sg → Option ρ) : Option ρ :=
  match l, c, elT C t with
  | .tmp a, .tmp b, some e => if a = b then (match getA σ (.tmp a), lookT e C.T, byT C e with
    | .l (.dat _ (.int .i64) (n : Int)), some ty, some by_ =>
      if szT C e = some ty.wid ∧ (((C.P.info? e).bind (·.zero)).map fun z => (zeroOk ty z.cells.toList).1 && z.cells.size == ty.wid) = some true then
        (mkD by_ n ty.dflt).bind fun xs => k (.l (.ref σ.hp.length)) (addHp σ (.own false true e ty xs))
      else none
    | _, _, _ => none) else none
  | _, _, _ => none

def intOptK (σ : Sg) (x : Option Operand) (d : Int) (k : Int → Option ρ) : Option ρ :=
  match x with
  | none => k d
  | some x => match getA σ x with
    | .l (.dat _ (.int _) (n : Int)) => k n
    | _ => none

def sliceK (σ : Sg) (t : TypeId) (x : A) (lo hi : Option Operand) (vw : Bool) (k : A → Sg → Option ρ) : Option ρ :=
  match x with
  | .l (.dat _ .str (s : ByteArray)) => match C.P.underlying t with
    | some .string => intOptK σ lo 0 fun l => intOptK σ hi s.size fun h => (subs s l h).bind fun y => k (.l (.dat true .str y)) σ
    | _ => none
  | .l (.dat _ (.list ty) (xs : List _)) => match elT C t with
    | some e => if szT C e = some ty.wid then intOptK σ lo 0 fun l => intOptK σ hi xs.length fun h => (subl xs l h).bind fun y => k (.l (.dat false (.list ty) y)) σ else none
    | none => none
  | .l (.ref id) => match elT C t, σ.ob id with
    | some e, some (.own ro dp e' ty xs) => if szT C e = some ty.wid then (match lo with
        | none => if ro then none else intOptK σ hi xs.length fun h => (subl xs 0 h).bind fun y => k (.l (.ref σ.hp.length)) (addHp (setHp σ id none) (.own false dp e' ty y))
        | some _ => intOptK σ lo 0 fun l => intOptK σ hi xs.length fun h => (subl xs l h).bind fun y => match vw && !ro with
          | true => k (.l (.sub id ty.wid l.toNat h.toNat)) σ
          | false => k (.l (.dat false (.list ty) y)) (setHp σ id ((σ.ob id).map Ob.freeze))) else none
    | _, _ => none
  | _ => none

def extractK (x : A) (i : Nat) (k : A → Option ρ) : Option ρ :=
  match x with
  | .t vs => match vs[i]? with
    | some (true, ls) => k (.a ls)
    | some (false, [l]) => k (.l l)
    | _ => none
  | _ => none

def bytesI (s : ByteArray) : List Int := s.data.toList.map fun b => (b.toNat : Int)
def strI (xs : List Int) : ByteArray := ⟨(xs.map fun n => UInt8.ofNat n.toNat).toArray⟩

def convertK (σ : Sg) (src dst : TypeId) (x : A) (k : A → Option ρ) : Option ρ :=
  match C.P.underlying dst, x with
  | some (.int kd), .l (.dat _ (.int _) (n : Int)) => match C.P.underlying src with
    | some (.int _) => k (.l (.dat true (.int kd) (kd.wrap n)))
    | _ => none
  | some .string, .l x => match elT C src with
    | some e => match C.P.underlying e with
      | some (.int .u8) => rdL σ (.list (.int .u8)) x fun xs => k (.l (.dat true .str (strI xs)))
      | _ => none
    | none => none
  | _, _ => none

def indexK (t : TypeId) (x i : A) (k : A → Option ρ) : Option ρ :=
  match C.P.underlying t, x, i with
  | some .string, .l (.dat _ .str (s : ByteArray)), .l (.dat _ (.int _) (i : Int)) => (idx s.data.toList i).bind fun b => k (.l (.dat true (.int .u8) (b.toNat : Int)))
  | _, _, _ => none

def lenK (σ : Sg) (t : TypeId) (x : A) (k : A → Option ρ) : Option ρ :=
  match x with
  | .l (.dat _ .str (s : ByteArray)) => match C.P.underlying t with
    | some .string => k (int64 s.size)
    | _ => none
  | .l (.dat _ (.list _) (xs : List _)) => (elT C t).bind fun _ => k (int64 xs.length)
  | .l .nils => (elT C t).bind fun _ => k (int64 0)
  | .l (.ref id) => match σ.ob id with
    | some (.own _ _ _ _ xs) => (elT C t).bind fun _ => k (int64 xs.length)
    | _ => none
  | _ => none

/-- What is appended: its data; 'dp': taken over. -/
def srcK (σ : Sg) (dp : Bool) (ty : Ty) (x : A) (k : Bool → List ty.den → Sg → Option ρ) : Option ρ :=
  match x with
  | .l (.sub id wid l m) => match σ.ob id with
    | some (.own false _ _ t' y) => if t'.wid = wid then (castT (.list t') (.list ty) y).bind fun z => (subl z l m).bind fun q => k ty.flat q σ else none
    | _ => none
  | .l x => match dp && !ty.flat, x with
    | true, .ref id => match σ.ob id with
      | some (.own false true _ t' y) => (castT (.list t') (.list ty) y).bind fun z => k true z (setHp σ id none)
      | _ => rdL σ (.list ty) x fun y => k ty.flat y σ
    | _, _ => rdL σ (.list ty) x fun y => k ty.flat y σ
  | _ => none

def appendK (σ : Sg) (ts : Array TypeId) (s x : A) (k : A → Sg → Option ρ) : Option ρ :=
  match ts.toList with
  | [tS, tX] => match elT C tS with
    | some e => match lookT e C.T, byT C e with
      | some ty, some by_ =>
        if szT C e = some ty.wid ∧ tS = tX ∧ (((C.P.info? e).bind (·.zero)).map fun z => z.cells.size == ty.wid) = some true then
          match s with
          | .l .nils => srcK σ true ty x fun dp ys σ => (appD by_ [] ys).bind fun zs => k (.l (.ref σ.hp.length)) (addHp σ (.own false dp e ty zs))
          | .l (.ref id) => match σ.ob id with
            | some (.own false dp e' ty' xs) => if e = e' then (castT (.list ty') (.list ty) xs).bind fun xs => srcK (setHp σ id none) dp ty x fun dp ys σ => (appD by_ xs ys).bind fun zs => k (.l (.ref σ.hp.length)) (addHp σ (.own false dp e ty zs)) else none
            | _ => none
          | _ => none
        else none
      | _, _ => none
    | none => none
  | _ => none

def max2K (op : Bool) (x y : A) (k : A → Option ρ) : Option ρ :=
  match x, y with
  | .l (.dat _ (.int kd) (a : Int)), .l (.dat _ (.int _) (b : Int)) => k (.l (.dat true (.int kd) (if op then (if b > a then b else a) else (if b < a then b else a))))
  | _, _ => none

/-! Calls. -/

def findE (f : FuncId) : List CallE → Option CallE
  | [] => none
  | e :: r => if e.f = f then some e else findE f r

def argK {β : Type} (al : Bool) (p : PM) (x : A) (σ : Sg) (rest : Sg → (β → Sg → Option ρ) → Option ρ) (k : p.den → β → Sg → Option ρ) : Option ρ :=
  match p with
  | .d nn t => rest σ fun ys σ => match !al || okA σ x with
    | true => rdA σ t x fun y => nnA nn t x y (k y ys σ)
    | false => none
  | .f f => match x with
    | .l (.fn g) => if f = g then rest σ fun ys σ => k () ys σ else none
    | _ => none
  | .mv dp e t => match x with
    | .l x => tkO σ dp e t x fun y σ => rest σ fun ys σ => k y ys σ
    | _ => none
  | .io dp e t => match x with
    | .l (.ref id) => match σ.ob id with
      | some (.own false dp' e' t' y) => if dp = dp' ∧ e = e' then (castT (.list t') (.list t) y).bind fun z => rest (setHp σ id none) fun ys σ => k z ys σ else none
      | _ => none
    | _ => none

def argsK (al : Bool) : (ps : List PM) → List A → (σ : Sg) → (PMs.den ps → Sg → Option ρ) → Option ρ
  | [], [], σ, k => k () σ
  | [p], [x], σ, k => argK (β := Unit) al p x σ (fun σ k => k () σ) fun y _ σ => k y σ
  | p :: p' :: r, x :: xs, σ, k => argK al p x σ (argsK al (p' :: r) xs) fun y ys σ => k (y, ys) σ
  | _, _, _, _ => none

def LK.alias : LK → Bool
  | .d _ t => !t.flat
  | .o dp _ t => !dp && !t.flat
def PM.alias : PM → Bool
  | .io dp _ t => !dp && !t.flat
  | _ => false
def SK.alias : SK → Bool
  | .l k => k.alias
  | .a ks => ks.any LK.alias
  | .b _ _ => true

def freezeAs (σ : Sg) : List PM → List A → Sg
  | .d _ _ :: ps, x :: r => freezeAs ((cellsA x).foldl freezeL σ) ps r
  | _ :: ps, _ :: r => freezeAs σ ps r
  | _, _ => σ

def frzArgs (al : Bool) (σ : Sg) (ps : List PM) (xs : List A) : Sg :=
  match al with
  | true => freezeAs σ ps xs
  | false => σ

def backK : (ps : List PM) → List A → PMo.den ps → (σ : Sg) → (Sg → Option ρ) → Option ρ
  | [], _, _, σ, k => k σ
  | .io dp e t :: r, x :: xs, y, σ, k => match x with
    | .l (.ref id) => match σ.ob id with
      | none => backK r xs y.2 (setHp σ id (some (.own false dp e t y.1))) k
      | some _ => none
    | _ => none
  | .d _ _ :: r, _ :: xs, y, σ, k => backK r xs y σ k
  | .f _ :: r, _ :: xs, y, σ, k => backK r xs y σ k
  | .mv _ _ _ :: r, _ :: xs, y, σ, k => backK r xs y σ k
  | _ :: _, [], _, _, _ => none

def retA (vs : List A) : A :=
  match vs with
  | [x] => x
  | vs => .t (vs.map fun
    | .l l => (false, [l])
    | .a ls => (true, ls)
    | .t _ => (true, []))

def noT : A → Bool
  | .t _ => false
  | _ => true

def SK.noB : SK → Bool
  | .b _ _ => false
  | _ => true

def callK (σ : Sg) (f : FuncId) (xs : List A) (k : A → Sg → Option ρ) : Option ρ :=
  match findE f C.O with
  | some e =>
    let al := e.rs.any SK.alias || e.ps.any PM.alias
    match e.rs.all SK.noB with
    | true => argsK al e.ps xs (frzArgs al σ e.ps xs) fun y σ1 => (e.F y).bind fun r =>
      match resB (hasIo e.ps) r with
      | (r, some o) => backK e.ps xs o σ1 fun σ2 => encSs σ2 e.rs r fun vs σ3 => k (retA vs) σ3
      | (r, none) => encSs σ1 e.rs r fun vs σ3 => k (retA vs) σ3
    | false => none
  | none => match findI f C.I with
    | some e => e.K ρ xs σ k
    | none => none

def builtinK (σ : Sg) (b : Builtin) (ts : Array TypeId) (xs : List A) (k : A → Sg → Option ρ) : Option ρ :=
  match b, xs with
  | .len, [x] => match ts.toList with
    | [t] => lenK C σ t x fun v => k v σ
    | _ => none
  | .append, [s, x] => appendK C σ ts s x k
  | .max, [x, y] => max2K true x y fun v => k v σ
  | .min, [x, y] => max2K false x y fun v => k v σ
  | _, _ => none

/-- The boxes that a function literal captures. -/
def capIds : List A → Option (List Nat)
  | [] => some []
  | .l (.bptr id 0) :: r => (capIds r).map (id :: ·)
  | _ => none

/-- Parts of slices that are views: read at once, not kept. -/
def vwT (x : Operand) : Bool :=
  match x with
  | .tmp t => C.Vw.contains t
  | _ => false

def opK (σ : Sg) (op : Op) (k : A → Sg → Option ρ) : Option ρ :=
  match op with
  | .move x => k (getA σ x) σ
  | .assign x => k (getA σ x) σ
  | .pick c a b => match getA σ c with
    | .l (.dat _ .bool (cb : Bool)) => cond cb (k (getA σ a) σ) (k (getA σ b) σ)
    | _ => none
  | .unOp op _ x => unK op (getA σ x) fun v => k v σ
  | .binOp op t x y _ => binK C op t σ (getA σ x) (getA σ y) fun v => k v σ
  | .load t a => loadK C σ t (getA σ a) fun v => k v σ
  | .store t a v => storeK C σ t (getA σ a) (getA σ v) fun σ => k (.l .unk) σ
  | .fieldAddr s x f => fieldAddrK C s f (getA σ x) fun v => k v σ
  | .indexAddr t x i => indexAddrK C σ t (getA σ x) (getA σ i) fun v => k v σ
  | .alloc e => match zeroLs C e with
    | some zs => k (.l (.bptr σ.hp.length 0)) (addHp σ (.box false e zs))
    | none => none
  | .box e v => let ls := cellsA (getA σ v)
    if ls.length = 0 then none else k (.l (.bptr σ.hp.length 0)) (addHp σ (.box false e ls))
  | .build t parts => buildK C σ t parts fun v => k v σ
  | .buildSlice t len parts => buildSliceK C σ t len parts k
  | .makeSlice t l c => makeSliceK C σ t l c k
  | .slice t x lo hi none => sliceK C σ t (getA σ x) lo hi (vwT C x) k
  | .extract t i => extractK (getA σ t) i fun v => k v σ
  | .convert src dst x => convertK C σ src dst (getA σ x) fun v => k v σ
  | .index t x i => indexK C t (getA σ x) (getA σ i) fun v => k v σ
  | .makeFunc (.func f) first captured => match first.toList, capIds (captured.toList.map (getA σ)) with
    | [], some [] => k (.l (.fn f)) σ
    | [], some (id :: ids) => k (.l (.clo f (id :: ids))) σ
    | _, _ => none
  | .call c => match c.callee with
    | .builtin b => builtinK C σ b c.argTypes (c.args.toList.map (getA σ)) k
    | .value f => match getA σ f with
      | .l (.fn f) => callK C σ f (c.args.toList.map (getA σ)) k
      | .l (.clo f ids) => callK C σ f (c.args.toList.map (getA σ) ++ ids.map fun id => .l (.bptr id 0)) k
      | _ => none
    | _ => none
  | _ => none

/-- One operation of a region. Behind a guard that does not hold its temporary is unknown. -/
def operK (ops : Array Oper) (σ : Sg) (o : Oper) (k : Sg → Option ρ) : Option ρ :=
  match o.guard with
  | none => opK C σ o.op fun v σ => putK σ o.dst v k
  | some (j, want) => match (ops[j]?).bind (·.dst) with
    | some d => match getA σ (.tmp d) with
      | .l (.dat _ .bool (b : Bool)) => cond b
          (putK σ (some d) (boolA true) fun σ => cond want (opK C σ o.op fun v σ => putK σ o.dst v k) (putK σ o.dst (.l .und) k))
          (putK σ (some d) (boolA false) fun σ => cond want (putK σ o.dst (.l .und) k) (opK C σ o.op fun v σ => putK σ o.dst v k))
      | .l .und => putK σ o.dst (.l .und) k
      | _ => none
    | none => none

def opersK (ops : Array Oper) (σ : Sg) : List Oper → (Sg → Option ρ) → Option ρ
  | [], k => k σ
  | o :: r, k => operK C ops σ o fun σ => opersK ops σ r k

end

/-! Regions whose order is drawn. -/

/-- The objects that a value names. -/
def L.refs : L → List Nat
  | .ref id => [id]
  | .optr id _ _ => [id]
  | .bptr id _ => [id]
  | .clo _ ids => ids
  | .sub id _ _ _ => [id]
  | _ => []

def A.refs : A → List Nat
  | .l y => y.refs
  | .a ys => ys.flatMap L.refs
  | .t ps => ps.flatMap fun p => p.2.flatMap L.refs

def Ob.refs : Ob → List Nat
  | .own _ _ _ _ _ => []
  | .box _ _ cs => cs.flatMap L.refs

/-- Operations that hand values on and look into no memory. -/
def passing : Op → Bool
  | .move _ => true
  | .assign _ => true
  | .pick _ _ _ => true
  | .build _ _ => true
  | .extract _ _ => true
  | .alloc _ => true
  | .box _ _ => true
  | _ => false

def PM.still : PM → Bool
  | .d _ _ => true
  | .f _ => true
  | _ => false

/-- Operations that leave every object as it is. -/
def isR (C : Ctx) (σ : Sg) (op : Op) : Bool :=
  match op with
  | .move _ => true
  | .assign _ => true
  | .pick _ _ _ => true
  | .unOp _ _ _ => true
  | .binOp _ _ _ _ _ => true
  | .load _ _ => true
  | .fieldAddr _ _ _ => true
  | .indexAddr _ _ _ => true
  | .extract _ _ => true
  | .convert _ _ _ => true
  | .index _ _ _ => true
  | .alloc _ => true
  | .box _ _ => true
  | .build _ _ => true
  | .makeSlice _ _ _ => true
  | .call c => match c.callee with
    | .builtin .len => true
    | .builtin .max => true
    | .builtin .min => true
    | .value f => match getA σ f with
      | .l (.fn f) => match findE f C.O with
        | some e => !(e.rs.any SK.alias || e.ps.any PM.alias) && e.ps.all PM.still
        | none => false
      | _ => false
    | _ => false
  | _ => false

def looks (ops : Array Oper) (o : Oper) : List Nat :=
  (o.op.operands.toList.filterMap fun
    | .tmp t => some t
    | _ => none) ++ (match o.guard with
    | some (g, _) => ((ops[g]?).bind (·.dst)).toList
    | none => [])

def keepE (ls : List Nat) : Nat → List A → List A
  | _, [] => []
  | n, a :: r => (if ls.contains n then a else .l .unk) :: keepE ls (n + 1) r

def keepO (R : Bool) (ins : List Nat) (base n : Nat) (o : Option Ob) : Option Ob :=
  if n < base then (match R with
      | true => o
      | false => match o with
        | some o => (match o.ro with
          | true => some o
          | false => none)
        | none => none) else if ins.contains n then o else none

def keepH (R : Bool) (ins : List Nat) (base : Nat) : Nat → List (Option Ob) → List (Option Ob)
  | _, [] => []
  | n, o :: r => keepO R ins base n o :: keepH R ins base (n + 1) r

/-- The part of a state in which one operation is run. -/
def partS (σ : Sg) (ls : List Nat) (R : Bool) (ins : List Nat) (base lo : Nat) : Sg := { env := keepE ls 0 σ.env, hp := (keepH R ins base 0 σ.hp).take lo }

def mergeS (σ σ' : Sg) (ids : List Nat) : Sg := ids.foldl (fun s id => setHp s id (σ'.ob id)) σ

/-- A new slice becomes plain data. -/
def thawL (σ : Sg) (x : L) : L :=
  match x with
  | .ref id => match σ.ob id with
    | some (.own _ _ _ t y) => .dat false (.list t) y
    | _ => .ref id
  | x => x

def thawA (σ : Sg) (x : A) : A :=
  match x with
  | .l x => .l (thawL σ x)
  | .a ls => .a (ls.map (thawL σ))
  | .t ps => .t (ps.map fun p => (p.1, p.2.map (thawL σ)))

def frzA (σ : Sg) (x : A) : Sg := x.refs.foldl (fun s id => freezeL s (.ref id)) σ

def ancsL (ancL : List Nat) : List Edge → Nat
  | [] => 0
  | e :: r => (match Region.binds .any e with
    | true => 2 ^ e.on ||| (ancL[e.on]?).getD 0
    | false => 0) ||| ancsL ancL r

/-- An operation's ancestors, as bits. -/
def ancs (ancL : List Nat) (o : Oper) : Nat := ancsL ancL o.after.toList

def segOk (base k an i : Nat) (id : Nat) : Bool := decide (id < base) || (id - base) / k == i || an.testBit ((id - base) / k)

/-- Whoever writes slot 't' comes behind operation 'i'. -/
def wrOk (ops : Array Oper) (m i t : Nat) : Bool := (List.range m).all fun j => match ops[j]? with
  | some o => !(o.dst == some t) || j == i || o.after.toList.any fun e => Region.binds .any e && e.on == i
  | none => true

def drawK {ρ : Type} (C : Ctx) (ops : Array Oper) (th ds : List Nat) (m base k : Nat) : (i : Nat) → List Oper → (ancL : List Nat) → (used : List Nat) → (σ : Sg) → (Sg → Option ρ) → Option ρ
  | _, [], _, _, σ, K => K σ
  | i, o :: r, ancL, used, σ, K =>
    let lo := base + i * k
    let ls := looks ops o
    let an := ancs ancL o
    let run := fun (σ : Sg) => 
      let ins := if passing o.op then [] else (ls.flatMap fun t => (getA σ (.tmp t)).refs).eraseDups.filter (base ≤ ·)
      let pt := partS σ ls (isR C (partS σ ls false [] 0 0) o.op) ins base lo
      match (ls.all fun t => !ds.contains t || (o.after.toList.any fun e => Region.binds .any e && ((ops[e.on]?).bind (·.dst) == some t)) || wrOk ops m i t) &&
          (ls.all fun t => (getA σ (.tmp t)).refs.all (· < lo)) && (pt.hp.all fun x => match x with
            | some x => x.refs.all (· < lo)
            | none => true) && (ins.all fun id => an.testBit ((id - base) / k) && !used.contains id && (pt.ob id).isSome) with
      | true => opK C pt o.op fun v σ1 =>
        let v' := if th.contains i then thawA σ1 v else v
        let σ2 := if th.contains i then frzA σ1 v else σ1
        let ids := ins ++ List.range' lo k
        match decide (σ2.hp.length ≤ lo + k) && (!th.contains i || v.refs.all ids.contains) && (v'.refs.all (segOk base k an i)) && (ids.all fun id => match σ2.ob id with
            | some x => x.refs.all (segOk base k an i)
            | none => true) with
        | true => putK (mergeS σ σ2 ids) o.dst v' (drawK C ops th ds m base k (i + 1) r (ancL ++ [an]) (ins ++ used) · K)
        | false => none
      | false => none
    let skip := fun (σ : Sg) => putK σ o.dst (.l .und) (drawK C ops th ds m base k (i + 1) r (ancL ++ [an]) used · K)
    match o.guard with
    | none => run σ
    | some (j, want) => match (ops[j]?).bind (·.dst), o.after.toList.any (fun e => Region.binds .any e && e.on == j) with
      | some d, true => match getA σ (.tmp d) with
        | .l (.dat _ .bool (b : Bool)) => cond b
            (putK σ (some d) (boolA true) fun σ => cond want (run σ) (skip σ))
            (putK σ (some d) (boolA false) fun σ => cond want (skip σ) (run σ))
        | .l .und => skip σ
        | _ => none
      | _, _ => none

def ancAll : List Oper → List Nat → List Nat
  | [], acc => acc
  | o :: r, acc => ancAll r (acc ++ [ancs acc o])

/-- How many operations stand ahead of the forced tail. -/
def tailAt (an : List Nat) : Nat → Nat
  | 0 => 0
  | n + 1 => match an[n]? with
    | some x => if x = 2 ^ n - 1 then tailAt an n else n + 1
    | none => n + 1

def findD (id : Nat) : List DrawA → DrawA
  | [] => ⟨id, [], []⟩
  | a :: r => if a.id = id then a else findD id r

def regionD {ρ : Type} (C : Ctx) (id : Nat) (ops : Array Oper) (σ : Sg) (K : Sg → Option ρ) : Option ρ :=
  let an := findD id C.Dr
  let m := tailAt (ancAll ops.toList []) ops.size
  let pre := ops.toList.take m
  let ds := pre.filterMap (·.dst)
  let σ := (an.fz.map fun t => getA σ (.tmp t)).foldl frzA σ
  let base := σ.hp.length
  match decide ds.Nodup && (List.range ops.size).all (fun i => match ops[i]? with
      | some o => o.after.toList.all fun e => !Region.binds .any e || decide (e.on < i)
      | none => false) with
  | true => drawK { C with I := C.I.filter (·.dr) } ops an.th ds m base 4 0 pre [] [] { env := σ.env, hp := σ.hp ++ List.replicate (m * 4) none } fun σ => opersK C ops σ (ops.toList.drop m) K
  | false => none

/-- Operations that hand a value on and leave the world alone. -/
def quietO (o : Oper) : Bool :=
  match o.op with
  | .move _ => true
  | .assign _ => true
  | .pick _ _ _ => true
  | .unOp _ _ _ => true
  | .binOp _ _ _ _ _ => true
  | .load _ _ => true
  | .fieldAddr _ _ _ => true
  | .indexAddr _ _ _ => true
  | .extract _ _ => true
  | .index _ _ _ => true
  | .slice _ _ _ _ none => true
  | .call c => match c.callee with
    | .builtin .len => true
    | .builtin .max => true
    | .builtin .min => true
    | _ => false
  | _ => false

def quietAt (ops : Array Oper) (i : Nat) : Bool := match ops[i]? with
  | some o => quietO o
  | none => false

/-- Operations whose value no world makes different. -/
def pureO (o : Oper) : Bool :=
  match o.op with
  | .move _ => true
  | .assign _ => true
  | .slice _ _ _ _ none => true
  | .call c => match c.callee with
    | .builtin .max => true
    | .builtin .min => true
    | _ => false
  | _ => false

def pureAt (ops : Array Oper) (i : Nat) : Bool := match ops[i]? with
  | some o => pureO o
  | none => false

/-- The operation may come next, whatever the order drawn: none other can, or it is quiet and makes no difference to those that can. -/
def seqOk (ops : Array Oper) (an : List Nat) (listed : Array Bool) (i : Nat) : Bool :=
  (Region.ready .any ops listed == [i]) || ((Region.ready .any ops listed).contains i && pureAt ops i && Region.free .any ops listed i) || ((Region.ready .any ops listed).contains i && quietAt ops i && Region.free .any ops listed i &&
    (List.range ops.size).all fun j => j == i || listed.getD j true || quietAt ops j || ((an[j]?).getD 0).testBit i)

def seqK {ρ : Type} (C : Ctx) (ops : Array Oper) (an : List Nat) : List Nat → Array Bool → Sg → (Sg → Option ρ) → Option ρ
  | [], listed, σ, K => match Region.ready .any ops listed with
    | [] => K σ
    | _ => none
  | i :: r, listed, σ, K => match ops[i]?, seqOk ops an listed i with
    | some o, true => operK C ops σ o fun σ => seqK C ops an r (listed.setIfInBounds i true) σ K
    | _, _ => none

/-- A region whose order is drawn, in one order that serves for all. -/
def regionS {ρ : Type} (C : Ctx) (ops : Array Oper) (ord : List Nat) (σ : Sg) (K : Sg → Option ρ) : Option ρ :=
  match Region.noSelect ops && ord.length == ops.size && (List.range ops.size).all (fun i => match ops[i]? with
      | some o => o.after.toList.all fun e => !Region.binds .any e || decide (e.on < i)
      | none => false) with
  | true => seqK C ops (ancAll ops.toList []) ord (Array.replicate ops.size false) σ K
  | false => none

def findS (id : Nat) : List (Nat × List Nat) → Option (List Nat)
  | [] => none
  | a :: r => if a.1 = id then some a.2 else findS id r

def regionX {ρ : Type} (C : Ctx) (id : Nat) (ops : Array Oper) (σ : Sg) (K : Sg → Option ρ) : Option ρ :=
  match findS id C.Sq with
  | some ord => regionS C ops ord σ K
  | none => regionD C id ops σ K

def firstReg : Code → Nat
  | .region id _ _ => id
  | .seq a _ => firstReg a
  | .block _ c => firstReg c
  | .loop c => firstReg c
  | _ => 0

def findA (id : Nat) : List LoopA → Option LoopA
  | [] => none
  | a :: r => if a.id = id then some a else findA id r

def slotsA (a : LoopA) : List Nat :=
  a.st.map (·.1) ++ (match a.brk with
    | some (_, bs) => bs.map (·.1)
    | none => []) ++ (match a.ret with
    | some rs => rs.map (·.1)
    | none => [])

/-- The slots that code writes. -/
def writes (An : List LoopA) : Code → List Nat
  | .region _ ops _ => ops.toList.filterMap (·.dst) ++ ops.toList.filterMap fun o => match o.guard with
    | some (j, _) => (ops[j]?).bind (·.dst)
    | none => none
  | .seq a b => writes An a ++ writes An b
  | .cond _ a b => writes An a ++ writes An b
  | .block _ c => writes An c
  | .loop c => writes An c ++ (match findA (firstReg c) An with
    | some a => slotsA a
    | none => [])
  | _ => []

def eraseK {ρ : Type} (ws : List Nat) : Nat → List A → (List A → Option ρ) → Option ρ
  | _, [], k => k []
  | n, a :: r, k => eraseK ws (n + 1) r fun r' => k ((if ws.contains n then .l .unk else a) :: r')

def frameK {ρ : Type} (ws : List Nat) (σ : Sg) (k : Sg → Option ρ) : Option ρ :=
  eraseK ws 0 σ.env fun env => k { env := env, hp := σ.hp.map (Option.map Ob.freeze) }

def putsK {ρ : Type} (σ : Sg) : List (Nat × SK) → List A → (Sg → Option ρ) → Option ρ
  | [], [], k => k σ
  | (p, _) :: r, x :: xs, k => putK σ (some p) x fun σ => putsK σ r xs k
  | _, _, _ => none

def getsA (σ : Sg) (ps : List (Nat × SK)) : List A := ps.map fun p => getA σ (.tmp p.1)

def layK {ρ : Type} (σ : Sg) (ps : List (Nat × SK)) (x : SKs.den (ps.map (·.2))) (k : Sg → Option ρ) : Option ρ :=
  encSs σ (ps.map (·.2)) x fun vs σ => putsK σ ps vs k

/-- The body's rounds: from a state either a next one or an end. -/
def iterN {σ β : Type} (step : σ → Option (σ ⊕ β)) : Nat → σ → Option β
  | 0, _ => none
  | n + 1, s => match step s with
    | none => none
    | some (.inl s') => iterN step n s'
    | some (.inr b) => some b

open Classical in
noncomputable def iter {σ β : Type} (step : σ → Option (σ ⊕ β)) (s : σ) : Option β :=
  if h : ∃ n b, iterN step n s = some b then some h.choose_spec.choose else none

abbrev LoopA.sd (a : LoopA) : Type := SKs.den (a.st.map (·.2))
abbrev pd (ps : List (Nat × SK)) : Type := SKs.den (ps.map (·.2))

noncomputable def codeK (C : Ctx) : Code → (ρ : Type) → Sg → (AEx → Sg → Option ρ) → Option ρ
  | .skip, _, σ, k => k .normal σ
  | .region _ ops false, _, σ, k => opersK C ops σ ops.toList fun σ => k .normal σ
  | .region id ops true, _, σ, k => regionX C id ops σ fun σ => k .normal σ
  | .seq a b, ρ, σ, k => codeK C a ρ σ fun e σ => match e with
    | .normal => codeK C b ρ σ k
    | e => k e σ
  | .cond c a b, ρ, σ, k => match getA σ c with
    | .l (.dat _ .bool (cb : Bool)) => cond cb (codeK C a ρ σ k) (codeK C b ρ σ k)
    | _ => none
  | .block id c, ρ, σ, k => codeK C c ρ σ fun e σ => match e with
    | .exit id' => if id' = id then k .normal σ else k (.exit id') σ
    | e => k e σ
  | .exit id, _, σ, k => k (.exit id) σ
  | .ret, _, σ, k => k .ret σ
  | .loop c, ρ, σ, k => match findA (firstReg c) C.An with
    | none => none
    | some a => takeSs σ (a.st.map (·.2)) (getsA σ a.st) fun s0 σ => frameK (writes C.An (.loop c)) σ fun σ =>
      match a.brk, a.ret with
      | some (id, bs), none => (iter (fun s => layK σ a.st s fun σ1 => codeK C c (a.sd ⊕ pd bs) σ1 fun e σ2 => match e with
          | .normal => takeSs σ2 (a.st.map (·.2)) (getsA σ2 a.st) fun s' _ => some (.inl s')
          | .exit id' => if id' = id then takeSs σ2 (bs.map (·.2)) (getsA σ2 bs) fun y _ => some (.inr y) else none
          | .ret => none) s0).bind fun y => layK σ bs y fun σ => k (.exit id) σ
      | none, some rs => (iter (fun s => layK σ a.st s fun σ1 => codeK C c (a.sd ⊕ pd rs) σ1 fun e σ2 => match e with
          | .normal => takeSs σ2 (a.st.map (·.2)) (getsA σ2 a.st) fun s' _ => some (.inl s')
          | .exit _ => none
          | .ret => takeSs σ2 (rs.map (·.2)) (getsA σ2 rs) fun y _ => some (.inr y)) s0).bind fun y => layK σ rs y fun σ => k .ret σ
      | some (id, bs), some rs => (iter (fun s => layK σ a.st s fun σ1 => codeK C c (a.sd ⊕ (pd bs ⊕ pd rs)) σ1 fun e σ2 => match e with
          | .normal => takeSs σ2 (a.st.map (·.2)) (getsA σ2 a.st) fun s' _ => some (.inl s')
          | .exit id' => if id' = id then takeSs σ2 (bs.map (·.2)) (getsA σ2 bs) fun y _ => some (.inr (.inl y)) else none
          | .ret => takeSs σ2 (rs.map (·.2)) (getsA σ2 rs) fun y _ => some (.inr (.inr y))) s0).bind fun y => match y with
            | .inl y => layK σ bs y fun σ => k (.exit id) σ
            | .inr y => layK σ rs y fun σ => k .ret σ
      | none, none => none
  | _, _, _, _ => none

/-! A function. -/

def encP (σ : Sg) (p : PM) (x : p.den) : A × Sg :=
  match p with
  | .d nn t => (.l (.dat nn t x), σ)
  | .f f => (.l (.fn f), σ)
  | .mv dp e t => (.l (.ref σ.hp.length), addHp σ (.own false dp e t x))
  | .io dp e t => (.l (.ref σ.hp.length), addHp σ (.own false dp e t x))

def encPs (σ : Sg) : (ps : List PM) → PMs.den ps → List A × Sg
  | [], _ => ([], σ)
  | [p], x => let (a, σ) := encP σ p x; ([a], σ)
  | p :: p' :: r, x => let (a, σ) := encP σ p x.1; let (as, σ) := encPs σ (p' :: r) x.2; (a :: as, σ)

def resK {ρ : Type} (C : Ctx) (σ : Sg) : List ResultVar → (List A → Option ρ) → Option ρ
  | [], k => k []
  | .tmp t :: r, k => resK C σ r fun as => k (getA σ (.tmp t) :: as)
  | .cell a t :: r, k => match getA σ (.tmp a) with
    | .l (.bptr id j) => loadK C σ t (.l (.bptr id j)) fun x => resK C σ r fun as => k (x :: as)
    | _ => none

/-- Code without loops and without drawn regions. -/
def simpleC : Code → Bool
  | .skip => true
  | .region _ _ draw => !draw
  | .seq a b => simpleC a && simpleC b
  | .cond _ a b => simpleC a && simpleC b
  | .block _ c => simpleC c
  | .exit _ => true
  | .ret => true
  | _ => false

/-- A call that is run in its caller's state. -/
noncomputable def inlK (C : Ctx) (fn : Func) (ρ : Type) (xs : List A) (σ : Sg) (k : A → Sg → Option ρ) : Option ρ :=
  match fn.body, Nat.ble xs.length fn.ntmps with
  | some c, true => codeK C c ρ { env := xs ++ List.replicate (fn.ntmps - xs.length) (.l .unk), hp := σ.hp } fun e σ' => match e with
    | .exit _ => none
    | _ => resK C σ' fn.results.toList fun as => match as.all noT with
      | true => k (retA as) { env := σ.env, hp := σ'.hp }
      | false => none
  | _, _ => none

/-- What the changed parameters hold at the end. -/
def ioK {ρ : Type} : (ps : List PM) → Nat → (σ : Sg) → (PMo.den ps → Sg → Option ρ) → Option ρ
  | [], _, σ, k => k () σ
  | .io dp e t :: r, i, σ, k => decS (.l (.o dp e t)) (getA σ (.tmp i)) σ fun z σ => ioK r (i + 1) σ fun o σ => k (z, o) σ
  | .d _ _ :: r, i, σ, k => ioK r (i + 1) σ k
  | .f _ :: r, i, σ, k => ioK r (i + 1) σ k
  | .mv _ _ _ :: r, i, σ, k => ioK r (i + 1) σ k

def resJ {R O : Type} : (b : Bool) → R → O → ResB b R O
  | true, r, o => (r, o)
  | false, r, _ => r

noncomputable def funK (C : Ctx) (fn : Func) (ps : List PM) (rs : List SK) (x : PMs.den ps) : Option (ResB (hasIo ps) (SKs.den rs) (PMo.den ps)) :=
  match fn.body with
  | none => none
  | some c =>
    let (as, σ) := encPs ⟨List.replicate fn.ntmps (.l .unk), []⟩ ps x
    codeK C c _ { σ with env := as ++ σ.env.drop as.length } fun e σ => match e with
      | .exit _ => none
      | _ => resK C σ fn.results.toList fun vs => ioK ps 0 (frzSs rs vs σ) fun o σ => decSs rs vs σ fun r _ => some (resJ (hasIo ps) r o)

end Go.Proofs.Ytajlabmnpimeeaa.Eng
