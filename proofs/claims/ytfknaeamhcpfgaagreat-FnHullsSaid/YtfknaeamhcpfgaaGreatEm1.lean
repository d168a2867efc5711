/-
  Texts put together: Eng1, Eng2, Eng3, Eng4, Eng5, Eng6, Eng7, Eng8, Eng9, Eng10, Eng11, Eng12, Eng13. No condition.
-/
import Derived.Calls
import Derived.Orders
import Derived.Below
import Derived.Laws.AppendOwn
import Derived.Laws.OwnMore
import Derived.Laws.MakeOwn
import Derived.KernelRfl
import Derived.Laws.Entries
import Derived.Laws.Concat
import Derived.Laws.Cover3
import Derived.Laws.Slices
import Derived.Laws.BytesString
import Derived.Laws.Small
import Derived.Laws.Tables
import Derived.Lib.AppendStr
import Derived.WideKeyArr
import Derived.Maps.Keyed
import Derived.Test.YtfknaeamhcpfgaaGreatEm0
namespace Go.Proofs.YtfknaeamhcpfgaaGreat.Eng
open Go
set_option linter.unusedVariables false
inductive Ty where
 | int (k:IntKind)
 | bool
 | str
 | list (t:Ty)
 | prod (a b:Ty)
 deriving DecidableEq
@[reducible] def Ty.den:Ty→Type
 | .int _=>Int
 | .bool=>Bool
 | .str=>ByteArray
 | .list t=>List t.den
 | .prod a b=>a.den×b.den
def Ty.wid:Ty→Nat
 | .prod a b=>a.wid+b.wid
 | _=>1
def Ty.isProd:Ty→Bool
 | .prod _ _=>true
 | _=>false
def Ty.flat:Ty→Bool
 | .list _=>false
 | .prod a b=>a.flat&&b.flat
 | _=>true
theorem Ty.wid_pos:(t:Ty)→0<t.wid
 | .int _ | .bool | .str | .list _=>Nat.zero_lt_one
 | .prod a b=>Nat.lt_of_lt_of_le a.wid_pos (Nat.le_add_right _ _)
def lim:Nat:=140737488355328
def RdC (S:Nat→Prop)(w:World):(t:Ty)→t.den→List Value→Prop
 | .int k,x,cs=>cs=[.int k x]
 | .bool,x,cs=>cs=[.bool x]
 | .str,x,cs=>cs=[.string x]∧x.size≤lim
 | .list t,x,cs=>∃ a n c,cs = [.slice a n c]∧n = x.length∧n≤c∧c≤maxLen∧n≤lim ∧
   (x≠[]→∃b o,a=some ⟨b,o,none⟩∧S b∧∀i y,x[i]? = some y →
    ∃ys,ys.length=t.wid∧(∀j,j<t.wid→w.cell? ⟨b,o+i*t.wid+j,none⟩=ys[j]?)∧RdC S w t y ys)
 | .prod a b,x,cs=>∃c1 c2,cs=c1++c2∧RdC S w a x.1 c1∧RdC S w b x.2 c2
theorem RdC.length {S:Nat→Prop}{w:World}:(t:Ty)→{x:t.den}→{cs:List Value}→RdC S w t x cs→cs.length=t.wid
 | .int _,_,_,h=>by simp only[RdC]at h;subst h;rfl
 | .bool,_,_,h=>by simp only[RdC]at h;subst h;rfl
 | .str,_,_,h=>by simp only[RdC]at h;obtain⟨h,_⟩:=h;subst h;rfl
 | .list _,_,_,h=>by simp only[RdC]at h;obtain⟨_,_,_,h,_⟩:=h;subst h;rfl
 | .prod a b,_,_,h=>by
  simp only[RdC]at h;obtain⟨c1,c2,rfl,h1,h2⟩:=h;rw[List.length_append,RdC.length a h1,RdC.length b h2];rfl
theorem RdC.mono {S S':Nat→Prop} {w w':World} (hS:∀ b,S b→S' b) (hw:∀ b,S b→w'.heap[b]? = w.heap[b]?) :
  (t:Ty)→{x:t.den}→{cs:List Value}→RdC S w t x cs→RdC S' w' t x cs
 | .int _,_,_,h=>by simpa only[RdC]using h
 | .bool,_,_,h=>by simpa only[RdC]using h
 | .str,_,_,h=>by simpa only[RdC]using h
 | .list t,_,_,h=>by
  simp only[RdC]at h ⊢;obtain⟨a,n,c,h1,h2,h3,h4,h5,h6⟩:=h;refine⟨a,n,c,h1,h2,h3,h4,h5,fun hx=>?_⟩;obtain⟨b,o,ha,hb,hel⟩:=h6 hx;refine⟨b,o,ha,hS b hb,fun i y hi=>?_⟩;obtain⟨ys,hl,hc,hr⟩:=hel i y hi;refine⟨ys,hl,fun j hj=>?_,RdC.mono hS hw t hr⟩;rw[←hc j hj];exact World.cell?_of_block (hw b hb)
 | .prod a b,_,_,h=>by
  simp only[RdC]at h ⊢;obtain⟨c1,c2,rfl,h1,h2⟩:=h;exact⟨c1,c2,rfl,RdC.mono hS hw a h1,RdC.mono hS hw b h2⟩
def mkV (t:Ty)(cs:List Value):Value:=if t.isProd then .agg cs.toArray else cs.headD undef
def RdV (S:Nat→Prop)(w:World)(t:Ty)(x:t.den)(v:Value):Prop:=∃cs,RdC S w t x cs∧v=mkV t cs
theorem RdV.mono {S S':Nat→Prop} {w w':World} (hS:∀ b,S b→S' b) (hw:∀ b,S b→w'.heap[b]? = w.heap[b]?)
  {t:Ty} {x:t.den} {v:Value} (h:RdV S w t x v):RdV S' w' t x v :=
 let ⟨cs,h1,h2⟩:=h
 ⟨cs,h1.mono hS hw t,h2⟩
theorem RdV.cells {S:Nat→Prop}{w:World}{t:Ty}{x:t.den}{v:Value}(h:RdV S w t x v):RdC S w t x v.cells.toList:=by
 obtain⟨cs,h1,rfl⟩:=h;cases t with
 | prod a b=>simpa[mkV,Ty.isProd,Value.cells]using h1
 | int k=>simp only[RdC]at h1;subst h1;simp[mkV,Ty.isProd,Value.cells,RdC]
 | bool=>simp only[RdC]at h1;subst h1;simp[mkV,Ty.isProd,Value.cells,RdC]
 | str=>simp only[RdC]at h1;obtain⟨h1,h2⟩:=h1;subst h1;simp[mkV,Ty.isProd,Value.cells,RdC,h2]
 | list t =>
  have h0:=h1;simp only[RdC]at h1;obtain⟨a,n,c,h1,_⟩:=h1;subst h1;simpa[mkV,Ty.isProd,Value.cells]using h0
theorem RdV_int {S:Nat→Prop}{w:World}{k:IntKind}{x:Int}{v:Value}:RdV S w (.int k) x v↔v=.int k x:=by
 constructor
 ·rintro⟨cs,h,rfl⟩;simp only[RdC]at h;subst h;rfl
 ·rintro rfl;exact⟨_,rfl,rfl⟩
theorem RdV_bool {S:Nat→Prop}{w:World}{x:Bool}{v:Value}:RdV S w .bool x v↔v=.bool x:=by
 constructor
 ·rintro⟨cs,h,rfl⟩;simp only[RdC]at h;subst h;rfl
 ·rintro rfl;exact⟨_,rfl,rfl⟩
theorem RdV_str {S:Nat→Prop}{w:World}{x:ByteArray}{v:Value}:RdV S w .str x v↔v=.string x∧x.size≤lim:=by
 constructor
 ·rintro⟨cs,h,rfl⟩;simp only[RdC]at h;obtain⟨h,h2⟩:=h;subst h;exact⟨rfl,h2⟩
 ·rintro⟨rfl,h⟩;exact⟨_,⟨rfl,h⟩,rfl⟩
def eOk (t:Ty)(e:TypeId):Bool:=match t,eInt with
 | .int .i64,some e0=>e==e0
 | _,_=>true
def DpC (B:Nat)(w:World):(t:Ty)→t.den→List Value→List Nat→Prop
 | .int k,x,cs,bs=>cs=[.int k x]∧bs=[]
 | .bool,x,cs,bs=>cs=[.bool x]∧bs=[]
 | .str,x,cs,bs=>cs=[.string x]∧x.size≤lim∧bs=[]
 | .list t,x,cs,bs=>∃ a n c,cs = [.slice a n c]∧n = x.length∧n≤c∧c≤maxLen∧n≤lim ∧
   ((x=[]∧bs=[]∧a=none∧c=0)∨∃(b o:Nat) (arr:Array Value) (e:TypeId) (bss:List (List Nat)),a=some ⟨b,o,none⟩∧bs=b::bss.flatten∧bss.length=x.length ∧
    B≤b∧(w.heap[b]? = some (.cells arr e (0,0))∧o=0∧arr.size=c*t.wid∧eOk t e=true)∧∀i y,x[i]? = some y →
    ∃ys,ys.length=t.wid∧(∀j,j<t.wid→arr[o+i*t.wid+j]? = ys[j]?)∧DpC B w t y ys (bss[i]?.getD []))
 | .prod a b,x,cs,bs=>∃c1 c2 b1 b2,cs=c1++c2∧bs=b1++b2∧DpC B w a x.1 c1 b1∧DpC B w b x.2 c2 b2
theorem DpC.rd {B:Nat}{S:Nat→Prop}{w:World}:(t:Ty)→{x:t.den}→{cs:List Value}→{bs:List Nat}→DpC B w t x cs bs→(∀b∈bs,S b)→RdC S w t x cs
 | .int _,_,_,_,h,_=>by simp only[DpC]at h;simpa only[RdC]using h.1
 | .bool,_,_,_,h,_=>by simp only[DpC]at h;simpa only[RdC]using h.1
 | .str,_,_,_,h,_=>by simp only[DpC]at h;simp only[RdC];exact⟨h.1,h.2.1⟩
 | .list t,x,_,_,h,hS=>by
  simp only[DpC]at h;simp only[RdC];obtain⟨a,n,c,h1,h2,h3,h4,h5,h6⟩:=h;refine⟨a,n,c,h1,h2,h3,h4,h5,fun hx=>?_⟩;rcases h6 with⟨he,_⟩ | ⟨b,o,arr,e,bss,ha,hbs,hbl,hB,⟨hh,_⟩,hel⟩
  ·exact absurd he hx
  ·subst hbs;refine⟨b,o,ha,hS b (by simp),fun i y hi=>?_⟩
   obtain⟨ys,hl,hc,hr⟩:=hel i y hi;refine⟨ys,hl,fun j hj=>?_,DpC.rd t hr fun b' hb'=>hS b' ?_⟩
   ·rw[cell_of_row w b _ arr e (0,0) hh,hc j hj]
   ·cases hg:bss[i]? with
    | none=>simp[hg]at hb'
    | some l =>
     simp only[hg,Option.getD_some]at hb';exact List.mem_cons_of_mem _ (List.mem_flatten.2 ⟨l,List.mem_of_getElem? hg,hb'⟩)
 | .prod a b,_,_,_,h,hS=>by
  simp only[DpC]at h;simp only[RdC];obtain⟨c1,c2,b1,b2,rfl,rfl,h1,h2⟩:=h;exact⟨c1,c2,rfl,DpC.rd a h1 fun b' hb'=>hS b' (List.mem_append_left _ hb'),DpC.rd b h2 fun b' hb'=>hS b' (List.mem_append_right _ hb')⟩
theorem DpC.range {B:Nat}{w:World}:(t:Ty)→{x:t.den}→{cs:List Value}→{bs:List Nat}→DpC B w t x cs bs→∀b∈bs,B≤b∧b<w.heap.size
 | .int _,_,_,_,h,_,hb=>by unfold DpC at h;simp[h.2]at hb
 | .bool,_,_,_,h,_,hb=>by unfold DpC at h;simp[h.2]at hb
 | .str,_,_,_,h,_,hb=>by unfold DpC at h;simp[h.2.2]at hb
 | .list t,x,_,_,h,b',hb'=>by
  simp only[DpC]at h;obtain⟨a,n,c,h1,h2,h3,h4,h5,h6⟩:=h;rcases h6 with⟨_,he,_⟩ | ⟨b,o,arr,e,bss,ha,hbs,hbl,hB,⟨hh,_⟩,hel⟩
  ·simp[he]at hb'
  ·subst hbs;rcases List.mem_cons.1 hb' with rfl | hb'
   ·exact⟨hB,(Array.getElem?_eq_some_iff.1 hh).1⟩
   ·obtain⟨l,hl,hm⟩:=List.mem_flatten.1 hb';obtain⟨i,hi,rfl⟩:=List.getElem_of_mem hl;have hx:x[i]? = some (x[i]'(by omega)):=List.getElem?_eq_getElem (by omega)
    obtain⟨ys,_,_,hr⟩:=hel i _ hx;have hg:bss[i]? = some bss[i]:=List.getElem?_eq_getElem hi;simp only[hg,Option.getD_some]at hr;exact DpC.range t hr b' hm
 | .prod a b,_,_,_,h,b',hb'=>by
  simp only[DpC]at h;obtain⟨c1,c2,b1,b2,rfl,rfl,h1,h2⟩:=h;rcases List.mem_append.1 hb' with hb' | hb'
  ·exact DpC.range a h1 b' hb'
  ·exact DpC.range b h2 b' hb'
theorem DpC.mono {B B':Nat} {w w':World} (hB:B'≤B):(t:Ty)→{x:t.den}→{cs:List Value}→{bs:List Nat}→DpC B w t x cs bs →
  (∀b∈bs,w'.heap[b]? = w.heap[b]?)→DpC B' w' t x cs bs
 | .int _,_,_,_,h,_=>by simpa only[DpC]using h
 | .bool,_,_,_,h,_=>by simpa only[DpC]using h
 | .str,_,_,_,h,_=>by simpa only[DpC]using h
 | .list t,x,_,_,h,hw=>by
  simp only[DpC]at h ⊢;obtain⟨a,n,c,h1,h2,h3,h4,h5,h6⟩:=h;refine⟨a,n,c,h1,h2,h3,h4,h5,?_⟩;rcases h6 with he | ⟨b,o,arr,e,bss,ha,hbs,hbl,hB',⟨hh,hz⟩,hel⟩
  ·exact .inl he
  ·subst hbs;refine .inr ⟨b,o,arr,e,bss,ha,rfl,hbl,by omega,⟨by rw[hw b (by simp)];exact hh,hz⟩,fun i y hi=>?_⟩
   obtain⟨ys,hl,hc,hr⟩:=hel i y hi;refine⟨ys,hl,hc,DpC.mono hB t hr fun b' hb'=>hw b' ?_⟩;cases hg:bss[i]? with
   | none=>simp[hg]at hb'
   | some l =>
    simp only[hg,Option.getD_some]at hb';exact List.mem_cons_of_mem _ (List.mem_flatten.2 ⟨l,List.mem_of_getElem? hg,hb'⟩)
 | .prod a b,_,_,_,h,hw=>by
  simp only[DpC]at h ⊢;obtain⟨c1,c2,b1,b2,rfl,rfl,h1,h2⟩:=h;exact⟨c1,c2,b1,b2,rfl,rfl,DpC.mono hB a h1 fun b' hb'=>hw b' (List.mem_append_left _ hb'),DpC.mono hB b h2 fun b' hb'=>hw b' (List.mem_append_right _ hb')⟩
theorem DpC.length {B:Nat}{w:World}{t:Ty}{x:t.den}{cs:List Value}{bs:List Nat}(h:DpC B w t x cs bs):cs.length=t.wid :=
 (h.rd (S:=fun _=>True) t fun _ _=>trivial).length t
open Go
set_option linter.unusedVariables false
inductive L where
 | unk
 | nils
 | dat (nn:Bool) (t:Ty) (x:t.den)
 | cptr (t:Ty) (x:t.den)
 | ref (id:Nat)
 | optr (id wid:Nat) (i:Nat)
 | bptr (id j:Nat)
 | fn (f:FuncId)
 | clo (f:FuncId) (ids:List Nat)
 | und
 | sub (id wid l m:Nat)
 | full (t:Ty) (x:List t.den)
inductive A where
 | l (x:L)
 | a (xs:List L)
 | t (vs:List (Bool×List L))
inductive Ob where
 | own (ro dp:Bool) (e:TypeId) (t:Ty) (x:List t.den)
 | box (ro:Bool) (e:TypeId) (cs:List L)
 | mp (ro:Bool) (n:Nat) (xs:List (List Int))
def Ob.ro:Ob→Bool
 | .own ro _ _ _ _=>ro
 | .box ro _ _=>ro
 | .mp ro _ _=>ro
def Ob.freeze:Ob→Ob
 | .own _ d e t x=>.own true d e t x
 | .box _ e cs=>.box true e cs
 | .mp _ n xs=>.mp true n xs
structure Sg where
 env:List A
 hp:List (Option Ob)
def Sg.ob (σ:Sg)(id:Nat):Option Ob:=(σ.hp[id]?).join
def castT (t t':Ty)(x:t.den):Option t'.den :=
 match decEq t t' with
 | isTrue h=>some (h▸x)
 | isFalse _=>none
def idx {α:Type}(xs:List α)(i:Int):Option α:=if 0≤i then xs[i.toNat]? else none
def inIdx (n:Nat)(i:Int):Option Unit:=if 0≤i∧i<n then some ()else none
def subl {α:Type}(xs:List α)(lo hi:Int):Option (List α):=if 0≤lo∧lo≤hi∧hi≤xs.length then some ((xs.take hi.toNat).drop lo.toNat)else none
def subs (s:ByteArray)(lo hi:Int):Option ByteArray:=if 0≤lo∧lo≤hi∧hi≤s.size then some (s.extract lo.toNat hi.toNat)else none
def quoI (k:IntKind)(a b:Int):Option Int:=if b=0 then none else some (k.wrap (a.tdiv b))
def remI (k:IntKind)(a b:Int):Option Int:=if b=0 then none else some (a.tmod b)
def shlI (k:IntKind)(a b:Int):Option Int:=if b<0 then none else some (k.wrap (a*2 ^ (min b.toNat k.bits)))
def shrI (k:IntKind)(a b:Int):Option Int:=if b<0 then none else some (a.fdiv (2 ^ (min b.toNat k.bits)))
def andI (k:IntKind)(a b:Int):Int:=k.wrap (BitVec.ofInt k.bits a &&& BitVec.ofInt k.bits b).toNat
def orI (k:IntKind)(a b:Int):Int:=k.wrap (BitVec.ofInt k.bits a ||| BitVec.ofInt k.bits b).toNat
def xorI (k:IntKind)(a b:Int):Int:=k.wrap (BitVec.ofInt k.bits a ^^^ BitVec.ofInt k.bits b).toNat
def appD {α:Type}(bytes:Nat)(xs ys:List α):Option (List α):=if(xs.length+ys.length)*bytes≤lim∧xs.length+ys.length≤lim then some (xs++ys)else none
def mkD {α:Type}(bytes:Nat)(n:Int)(d:α):Option (List α):=if 0≤n∧n*bytes≤lim∧n≤lim then some (List.replicate n.toNat d)else none
def catS (a b:ByteArray):Option ByteArray:=if a.size+b.size≤lim then some (a++b)else none
def nneD {α:Type}(xs:List α):Option Unit:=if xs.isEmpty then none else some ()
def Ty.dflt:(t:Ty)→t.den
 | .int _=>(0:Int)
 | .bool=>false
 | .str=>ByteArray.empty
 | .list _=>[]
 | .prod a b=>(a.dflt,b.dflt)
inductive LK where
 | d (nn:Bool) (t:Ty)
 | o (dp:Bool) (e:TypeId) (t:Ty)
 | m (n:Nat)
@[reducible] def LK.den:LK→Type
 | .d _ t=>t.den
 | .o _ _ t=>List t.den
 | .m _=>List (List Int)
@[reducible] def LKs.den:List LK→Type
 | []=>Unit
 | [k]=>k.den
 | k::k'::r=>k.den×LKs.den (k'::r)
inductive SK where
 | l (k:LK)
 | a (ks:List LK)
 | b (e:TypeId) (ks:List LK)
@[reducible] def SK.den:SK→Type
 | .l k=>k.den
 | .a ks=>LKs.den ks
 | .b _ ks=>LKs.den ks
@[reducible] def SKs.den:List SK→Type
 | []=>Unit
 | [k]=>k.den
 | k::k'::r=>k.den×SKs.den (k'::r)
abbrev curKs:List LK:=[.d false (.list (.int .u8)),.d false (.int .i64),.d false (.int .i64)]
inductive PM where
 | d (nn:Bool) (t:Ty)
 | f (f:FuncId)
 | mv (dp:Bool) (e:TypeId) (t:Ty)
 | io (dp:Bool) (e:TypeId) (t:Ty)
 | cur (e:TypeId)
@[reducible] def PM.den:PM→Type
 | .d _ t=>t.den
 | .f _=>Unit
 | .mv _ _ t=>List t.den
 | .io _ _ t=>List t.den
 | .cur _=>LKs.den curKs
@[reducible] def PMs.den:List PM→Type
 | []=>Unit
 | [k]=>k.den
 | k::k'::r=>k.den×PMs.den (k'::r)
@[reducible] def PMo.den:List PM→Type
 | []=>Unit
 | .io _ _ t::r=>List t.den×PMo.den r
 | .cur _::r=>LKs.den curKs×PMo.den r
 | _::r=>PMo.den r
def hasIo:List PM→Bool
 | []=>false
 | .io _ _ _::_=>true
 | .cur _::_=>true
 | _::r=>hasIo r
@[reducible] def ResB (b:Bool) (R O:Type):Type :=
 match b with
 | true=>R×O
 | false=>R
def resB {R O:Type}:(b:Bool)→ResB b R O→R×Option O
 | true,x=>(x.1,some x.2)
 | false,x=>(x,none)
structure CallE where
 f:FuncId
 ps:List PM
 rs:List SK
 F:PMs.den ps→Option (ResB (hasIo ps) (SKs.den rs) (PMo.den ps))
inductive AEx where
 | normal
 | exit (id:Nat)
 | ret
 deriving DecidableEq
structure LoopA where
 id:Nat
 st:List (Nat×SK)
 brk:Option (Nat×List (Nat×SK))
 ret:Option (List (Nat×SK))
 lo:Bool:=false
 ip:Option (Nat×SK):=none
structure DrawA where
 id:Nat
 fz:List Nat
 th:List Nat
 wr:List (Nat×Bool)
 k:Nat
structure InE where
 f:FuncId
 dr:Bool
 K:(ρ:Type)→List A→Sg→(A→Sg→Option ρ)→Option ρ
structure Ctx where
 P:Program
 T:List (TypeId×Ty)
 O:List CallE
 An:List LoopA
 Dr:List DrawA
 I:List InE:=[]
 Vw:List Nat:=[]
 Sq:List (Nat×List Nat):=[]
def findI (f:FuncId):List InE→Option InE
 | []=>none
 | e::r=>if e.f=f then some e else findI f r
section
variable {ρ:Type}
def rdL (σ:Sg)(t:Ty)(x:L)(k:t.den→Option ρ):Option ρ :=
 match x with
 | .dat _ t' y=>(castT t' t y).bind k
 | .nils=>match t with
  | .list _=>k []
  | _=>none
 | .ref id=>match σ.ob id with
  | some (.own _ _ _ t' y)=>(castT (.list t') t y).bind k
  | _=>none
 | _=>none
def rdLs (σ:Sg):(t:Ty)→List L→(t.den→List L→Option ρ)→Option ρ
 | .prod a b,ls,k=>rdLs σ a ls fun x r=>rdLs σ b r fun y r'=>k (x,y) r'
 | t,x::r,k=>rdL σ t x fun y=>k y r
 | _,[],_=>none
def rdA (σ:Sg)(t:Ty)(x:A)(k:t.den→Option ρ):Option ρ :=
 match x with
 | .l x=>rdL σ t x k
 | .a ls=>match t with
  | .prod a b=>rdLs σ (.prod a b) ls fun y r=>match r with
   | []=>k y
   | _=>none
  | _=>none
 | .t _=>none
def nnL (t:Ty)(x:L)(y:t.den)(k:Option ρ):Option ρ :=
 match x with
 | .nils=>k
 | .dat true _ _=>k
 | _=>match t,y with
  | .list _,(z:List _)=>(nneD z).bind fun _=>k
  | _,_=>k
def nnK (nn:Bool)(t:Ty)(x:L)(y:t.den)(k:Option ρ):Option ρ :=
 match nn with
 | true=>nnL t x y k
 | false=>k
def nnA (nn:Bool)(t:Ty)(x:A)(y:t.den)(k:Option ρ):Option ρ :=
 match nn with
 | true=>(match x with
  | .l l=>nnL t l y k
  | _=>none)
 | false=>k
def setHp (σ:Sg)(id:Nat)(o:Option Ob):Sg:={ σ with hp:=σ.hp.set id o }
def addHp (σ:Sg)(o:Ob):Sg:={ σ with hp:=σ.hp++[some o] }
def freezeL (σ:Sg)(x:L):Sg :=
 match x with
 | .ref id=>match σ.ob id with
  | some o=>setHp σ id (some o.freeze)
  | none=>σ
 | _=>σ
def okDp (dp dp':Bool)(t:Ty):Bool:=!dp||dp'||t.flat
def tkO (σ:Sg)(dp:Bool)(e:TypeId)(t:Ty)(x:L)(k:List t.den→Sg→Option ρ):Option ρ :=
 match x with
 | .nils=>k [] σ
 | .ref id=>match σ.ob id with
  | some (.own false dp' e' t' y)=>if okDp dp dp' t&&e==e' then(castT (.list t') (.list t) y).bind fun z=>k z (setHp σ id none)else none
  | _=>none
 | _=>none
def tkM (σ:Sg)(n:Nat)(x:L)(k:List (List Int)→Sg→Option ρ):Option ρ :=
 match x with
 | .ref id=>match σ.ob id with
  | some (.mp false n' xs)=>if n=n' then k xs (setHp σ id none)else none
  | _=>none
 | _=>none
def okL (σ:Sg)(x:L):Bool :=
 match x with
 | .ref id=>match σ.ob id with
  | some (.own ro _ _ _ _)=>ro
  | _=>false
 | _=>true
def okA (σ:Sg)(x:A):Bool :=
 match x with
 | .l x=>okL σ x
 | .a ls=>ls.all (okL σ)
 | .t _=>true
def decL (σ:Sg)(c:LK)(x:L)(k:c.den→Sg→Option ρ):Option ρ :=
 match c with
 | .d nn t=>match okL σ x with
  | true=>rdL σ t x fun y=>nnK nn t x y (k y σ)
  | false=>none
 | .o dp e t=>tkO σ dp e t x k
 | .m n=>tkM σ n x k
def decLs:(cs:List LK)→List L→(σ:Sg)→(LKs.den cs→Sg→Option ρ)→Option ρ
 | [],[],σ,k=>k () σ
 | [c],[x],σ,k=>decL σ c x k
 | c::c'::r,x::xs,σ,k=>decL σ c x fun y σ=>decLs (c'::r) xs σ fun ys σ=>k (y,ys) σ
 | _,_,_,_=>none
def splitD:(t:Ty)→t.den→List L
 | .prod a b,x=>splitD a x.1++splitD b x.2
 | t,x=>[.dat false t x]
def cellsA (x:A):List L :=
 match x with
 | .l .unk=>[]
 | .l .und=>[]
 | .l (.dat _ (.prod a b) y)=>splitD (.prod a b) y
 | .l x=>[x]
 | .a ls=>ls
 | .t _=>[]
def decS (c:SK)(x:A)(σ:Sg)(k:c.den→Sg→Option ρ):Option ρ :=
 match c with
 | .l c=>match x with
  | .l x=>decL σ c x k
  | .a ls=>match c with
   | .d _ t=>match okA σ (.a ls)with
    | true=>rdA σ t (.a ls) fun y=>k y σ
    | false=>none
   | .o _ _ _=>none
   | .m _=>none
  | .t _=>none
 | .a cs=>match x with
  | .a ls=>decLs cs ls σ k
  | .l (.dat _ (.prod a b) y)=>decLs cs (splitD (.prod a b) y) σ k
  | _=>none
 | .b e cs=>match x with
  | .l (.bptr id 0)=>match σ.ob id with
   | some (.box false e' ls)=>if e==e' then decLs cs ls (setHp σ id none) k else none
   | _=>none
  | _=>none
def decSs:(cs:List SK)→List A→(σ:Sg)→(SKs.den cs→Sg→Option ρ)→Option ρ
 | [],[],σ,k=>k () σ
 | [c],[x],σ,k=>decS c x σ k
 | c::c'::r,x::xs,σ,k=>decS c x σ fun y σ=>decSs (c'::r) xs σ fun ys σ=>k (y,ys) σ
 | _,_,_,_=>none
def frzL (σ:Sg)(c:LK)(x:L):Sg :=
 match c with
 | .d _ _=>freezeL σ x
 | .o _ _ _=>σ
 | .m _=>σ
def frzLs:List LK→List L→Sg→Sg
 | c::cs,x::xs,σ=>frzLs cs xs (frzL σ c x)
 | _,_,σ=>σ
def frzS (c:SK)(x:A)(σ:Sg):Sg :=
 match c with
 | .l c=>match x with
  | .l x=>frzL σ c x
  | .a ls=>ls.foldl freezeL σ
  | .t _=>σ
 | .a cs=>frzLs cs (cellsA x) σ
 | .b _ cs=>match x with
  | .l (.bptr id 0)=>match σ.ob id with
   | some (.box _ _ ls)=>frzLs cs ls σ
   | _=>σ
  | _=>σ
def frzSs:List SK→List A→Sg→Sg
 | c::cs,x::xs,σ=>frzSs cs xs (frzS c x σ)
 | _,_,σ=>σ
def takeSs (σ:Sg)(cs:List SK)(xs:List A)(k:SKs.den cs→Sg→Option ρ):Option ρ:=decSs cs xs (frzSs cs xs σ) k
def encL (σ:Sg)(c:LK)(x:c.den)(k:L→Sg→Option ρ):Option ρ :=
 match c with
 | .d nn t=>k (.dat nn t x) σ
 | .o dp e t=>k (.ref σ.hp.length) (addHp σ (.own false dp e t x))
 | .m n=>k (.ref σ.hp.length) (addHp σ (.mp false n x))
def encLs (σ:Sg):(cs:List LK)→LKs.den cs→(List L→Sg→Option ρ)→Option ρ
 | [],_,k=>k [] σ
 | [c],x,k=>encL σ c x fun l σ=>k [l] σ
 | c::c'::r,x,k=>encL σ c x.1 fun l σ=>encLs σ (c'::r) x.2 fun ls σ=>k (l::ls) σ
def encS (σ:Sg)(c:SK)(x:c.den)(k:A→Sg→Option ρ):Option ρ :=
 match c with
 | .l c=>encL σ c x fun l σ=>k (.l l) σ
 | .a cs=>encLs σ cs x fun ls σ=>k (.a ls) σ
 | .b e cs=>encLs σ cs x fun ls σ=>k (.l (.bptr σ.hp.length 0)) (addHp σ (.box false e ls))
def encSs (σ:Sg):(cs:List SK)→SKs.den cs→(List A→Sg→Option ρ)→Option ρ
 | [],_,k=>k [] σ
 | [c],x,k=>encS σ c x fun l σ=>k [l] σ
 | c::c'::r,x,k=>encS σ c x.1 fun l σ=>encSs σ (c'::r) x.2 fun ls σ=>k (l::ls) σ
def ofConst (v:Value):A :=
 match v with
 | .int k n=>.l (.dat true (.int k) n)
 | .bool b=>.l (.dat true .bool b)
 | .string s=>if s.size≤lim then .l (.dat true .str s)else .l .unk
 | .slice none 0 0=>.l .nils
 | _=>.l .unk
def getA (σ:Sg)(x:Operand):A :=
 match x with
 | .tmp t=>σ.env.getD t (.l .unk)
 | .const v=>ofConst v
 | .func f=>.l (.fn f)
 | .global _=>.l .unk
def setK:List A→Nat→A→(List A→Option ρ)→Option ρ
 | [],_,_,k=>k []
 | _::r,0,v,k=>k (v::r)
 | a::r,n+1,v,k=>setK r n v fun r'=>k (a::r')
def putK (σ:Sg)(d:Option Tmp)(v:A)(k:Sg→Option ρ):Option ρ :=
 match d with
 | none=>k σ
 | some d=>setK σ.env d v fun env=>k { σ with env:=env }
variable (C:Ctx)
def isAggT (t:TypeId):Option Bool :=
 match C.P.underlying t with
 | some (.struct _)=>some true
 | some (.array _ _)=>some true
 | some _=>some false
 | none=>none
def szT (t:TypeId):Option Nat:=(C.P.info? t).map (·.size)
def byT (t:TypeId):Option Nat:=(C.P.info? t).map (·.bytes)
def elT (t:TypeId):Option TypeId :=
 match C.P.underlying t with
 | some (.slice e)=>some e
 | _=>none
def lookT (e:TypeId):List (TypeId×Ty)→Option Ty
 | []=>none
 | (e',t)::r=>if e==e' then some t else lookT e r
def fitT (t:TypeId)(ty:Ty):Bool:=isAggT C t==some ty.isProd&&szT C t==some ty.wid
def int64 (n:Int):A:=.l (.dat true (.int .i64) n)
def boolA (b:Bool):A:=.l (.dat true .bool b)
def intOpK (op:BinOp)(kd:IntKind)(a b:Int)(k:A→Option ρ):Option ρ :=
 match op with
 | .add=>k (.l (.dat true (.int kd) (kd.wrap (a+b))))
 | .sub=>k (.l (.dat true (.int kd) (kd.wrap (a-b))))
 | .mul=>k (.l (.dat true (.int kd) (kd.wrap (a*b))))
 | .quo=>(quoI kd a b).bind fun c=>k (.l (.dat true (.int kd) c))
 | .rem=>(remI kd a b).bind fun c=>k (.l (.dat true (.int kd) c))
 | .and=>k (.l (.dat true (.int kd) (andI kd a b)))
 | .or=>k (.l (.dat true (.int kd) (orI kd a b)))
 | .xor=>k (.l (.dat true (.int kd) (xorI kd a b)))
 | .eql=>k (boolA (a==b))
 | .neq=>k (boolA (a != b))
 | .lss=>k (boolA (decide (a<b)))
 | .leq=>k (boolA (decide (a≤b)))
 | .gtr=>k (boolA (decide (a>b)))
 | .geq=>k (boolA (decide (a≥b)))
 | _=>none
def nilK (σ:Sg)(x:L)(k:Bool→Option ρ):Option ρ :=
 match x with
 | .nils=>k true
 | .dat true (.list _) (y:List _)=>k y.isEmpty
 | .dat false (.list _) (y:List _)=>(nneD y).bind fun _=>k false
 | .ref id=>match σ.ob id with
  | some (.own _ _ _ _ y)=>(nneD y).bind fun _=>k false
  | _=>none
 | _=>none
def binK (op:BinOp)(t:TypeId)(σ:Sg)(x y:A)(k:A→Option ρ):Option ρ :=
 match x,y with
 | .l (.dat _ (.int kd) (a:Int)),.l (.dat _ (.int kd') (b:Int)) =>
  match op with
  | .shl=>(shlI kd a b).bind fun c=>k (.l (.dat true (.int kd) c))
  | .shr=>(shrI kd a b).bind fun c=>k (.l (.dat true (.int kd) c))
  | op=>if kd=kd' then intOpK op kd a b k else none
 | .l (.dat _ .str (a:ByteArray)),.l (.dat _ .str (b:ByteArray)) =>
  match op with
  | .add=>(catS a b).bind fun c=>k (.l (.dat true .str c))
  | .eql=>k (boolA (a.toList==b.toList))
  | .neq=>k (boolA (!(a.toList==b.toList)))
  | _=>none
 | .l (.dat _ .bool (a:Bool)),.l (.dat _ .bool (b:Bool)) =>
  match C.P.underlying t with
  | some .bool=>match op with
   | .eql=>k (boolA (a==b))
   | .neq=>k (boolA (!(a==b)))
   | _=>none
  | _=>none
 | .l x,.l .nils =>
  match elT C t with
  | some _=>match op with
   | .eql=>nilK σ x fun b=>k (boolA b)
   | .neq=>nilK σ x fun b=>k (boolA (!b))
   | _=>none
  | none=>none
 | _,_=>none
def unK (op:UnOp)(x:A)(k:A→Option ρ):Option ρ :=
 match op,x with
 | .neg,.l (.dat _ (.int kd) (a:Int))=>k (.l (.dat true (.int kd) (kd.wrap (0-a))))
 | .not,.l (.dat _ .bool (b:Bool))=>k (boolA !b)
 | _,_=>none
def fieldK:(n:Nat)→(t:Ty)→t.den→Nat→Nat→((t':Ty)→t'.den→Nat→Option ρ)→Option ρ
 | 1,t,x,0,off,k=>k t x off
 | n+2,.prod a _,x,0,off,k=>k a x.1 off
 | n+2,.prod a b,x,i+1,off,k=>fieldK (n+1) b x.2 i (off+a.wid) k
 | _,_,_,_,_,_=>none
def fieldAddrK (s:TypeId)(f:Nat)(x:A)(k:A→Option ρ):Option ρ :=
 match C.P.underlying s with
 | some (.struct fs)=>match fs[f]? with
  | some fd=>match szT C fd.type with
   | some (_+1)=>match x with
    | .l (.bptr id j)=>k (.l (.bptr id (j+fd.offset)))
    | .l (.cptr t y)=>fieldK fs.size t y f 0 fun t' y' off=>if off=fd.offset then k (.l (.cptr t' y'))else none
    | _=>none
   | _=>none
  | none=>none
 | _=>none
def indexAddrK (σ:Sg)(t:TypeId)(x i:A)(k:A→Option ρ):Option ρ :=
 match elT C t,i with
 | some e,.l (.dat _ (.int _) (i:Int))=>match x with
  | .l (.dat _ (.list ty) (xs:List _))=>if szT C e=some ty.wid then(idx xs i).bind fun y=>k (.l (.cptr ty y))else none
  | .l (.ref id)=>match σ.ob id with
   | some (.own true _ _ ty xs)=>if szT C e=some ty.wid then(idx xs i).bind fun y=>k (.l (.cptr ty y))else none
   | some (.own false _ _ ty xs)=>if szT C e=some ty.wid then(inIdx xs.length i).bind fun _=>k (.l (.optr id ty.wid i.toNat))else none
   | _=>none
  | .l (.sub id wid l m)=>if szT C e=some wid then(inIdx (m-l) i).bind fun _=>k (.l (.optr id wid (l+i.toNat)))else none
  | _=>none
 | _,_=>none
def loadK (σ:Sg)(t:TypeId)(a:A)(k:A→Option ρ):Option ρ :=
 match a with
 | .l (.cptr ty y)=>if fitT C t ty then k (.l (.dat false ty y))else none
 | .l (.optr id wid i)=>match σ.ob id with
  | some (.own _ _ _ ty xs)=>if ty.wid=wid∧fitT C t ty then(idx xs i).bind fun y=>k (.l (.dat false ty y))else none
  | _=>none
 | .l (.bptr id j)=>match σ.ob id with
  | some (.box _ _ cs)=>match isAggT C t with
   | some true=>if szT C t=some cs.length∧j=0 then k (.a cs)else none
   | some false=>match cs[j]? with
    | some x=>k (.l x)
    | none=>none
   | none=>none
  | _=>none
 | _=>none
def tkLs (dp:Bool):(t:Ty)→Sg→List L→(t.den→List L→Sg→Option ρ)→Option ρ
 | .prod a b,σ,ls,k=>tkLs dp a σ ls fun x r σ=>tkLs dp b σ r fun y r' σ=>k (x,y) r' σ
 | .list t,σ,x :: r,k=>if dp then (match x with
   | .nils=>k [] r σ
   | .ref id=>match σ.ob id with
    | some (.own false dp' e' t' y)=>if okDp true dp' t&&eOk t' e' then(castT (.list t') (.list t) y).bind fun z=>k z r (setHp σ id none)else none
    | _=>none
   | _=>none)else rdL σ (.list t) x fun y=>k y r (freezeL σ x)
 | t,σ,x::r,k=>rdL σ t x fun y=>k y r σ
 | _,_,[],_=>none
def canTk:(t:Ty)→Sg→List L→Bool×List L
 | .prod a b,σ,ls=>let (p,r):=canTk a σ ls;let (q,r'):=canTk b σ r;(p&&q,r')
 | .list t,σ,x :: r=>((match x with
   | .nils=>true
   | .ref id=>match σ.ob id with
    | some (.own false dp' e' t' _)=>okDp true dp' t&&eOk t' e'
    | _=>false
   | _=>false),r)
 | _,_,_::r=>(true,r)
 | _,_,[]=>(false,[])
def storeK (σ:Sg)(t:TypeId)(a v:A)(k:Sg→Option ρ):Option ρ :=
 match a with
 | .l (.bptr id j)=>match σ.ob id with
  | some (.box false e cs) =>
   let ls:=cellsA v
   if szT C t=some ls.length∧j+ls.length≤cs.length∧0<ls.length then k (setHp σ id (some (.box false e (cs.take j++ls++cs.drop (j+ls.length)))))else none
  | _=>none
 | .l (.optr id wid i)=>match σ.ob id with
  | some (.own false dp e ty xs) =>
   if ty.wid=wid∧fitT C t ty then
    tkLs (dp&&!ty.flat) ty σ (cellsA v) fun y r σ'=>match r,σ'.ob id with
     | [],some (.own false dp2 e2 ty2 xs2)=>if dp2=dp∧e2=e∧ty2=ty then(castT (.list ty2) (.list ty) xs2).bind fun xs2=>(inIdx xs2.length i).bind fun _=>k (setHp σ' id (some (.own false dp e ty (xs2.set i y))))else none
     | _,_=>none
   else none
  | _=>none
 | _=>none
def zeroL (v:Value):L :=
 match v with
 | .int k n=>.dat true (.int k) n
 | .bool b=>.dat true .bool b
 | .string s=>if s.size=0 then .dat true .str s else .unk
 | .slice none 0 0=>.nils
 | _=>.unk
def zeroLs (t:TypeId):Option (List L):=((C.P.info? t).bind (·.zero)).bind fun z=>if z.cells.toList.all Value.oneCell' then some (z.cells.toList.map zeroL)else none
def zeroOk:(ty:Ty)→List Value→Bool×List Value
 | .prod a b,vs=>let (p,r):=zeroOk a vs;let (q,r'):=zeroOk b r;(p&&q,r')
 | .int k,v::r=>((match v with | .int k' 0=>decide (k=k') | _=>false),r)
 | .bool,v::r=>((match v with | .bool false=>true | _=>false),r)
 | .str,v::r=>((match v with | .string s=>s.size==0 | _=>false),r)
 | .list _,v::r=>((match v with | .slice none 0 0=>true | _=>false),r)
 | _,[]=>(false,[])
def fillLs (places:Nat→Option (Nat×Nat))(cs:List L):List (Nat×List L)→Option (List L)
 | []=>some cs
 | (i,ls)::r=>match places i with
  | some (off,sz)=>if ls.length=sz∧off+sz≤cs.length∧0<ls.length then fillLs places (cs.take off++ls++cs.drop (off+sz)) r else none
  | none=>none
def buildK (σ:Sg)(t:TypeId)(parts:Array (Nat×Operand))(k:A→Option ρ):Option ρ :=
 match C.P.underlying t with
 | some (.struct fs)=>match zeroLs C t,fs.toList.mapM (fun f=>(C.P.info? f.type).map fun i=>(f.offset,i.size))with
  | some zs,some places=>match fillLs (places.toArray[·]?) zs (parts.toList.map fun p=>(p.1,cellsA (getA σ p.2)))with
   | some ls=>k (.a ls)
   | none=>none
  | _,_=>none
 | some (.array n el)=>match zeroLs C t,szT C el with
  | some zs,some sz=>match fillLs (fun i=>some (i*sz,sz)) zs (parts.toList.map fun p=>(p.1,cellsA (getA σ p.2)))with
   | some ls=>k (.a ls)
   | none=>none
  | _,_=>none
 | _=>none
def i64B (x:Int):Bool:=decide (-9223372036854775808≤x)&&decide (x≤9223372036854775807)
def arrKeyB (k:TypeId):Option Nat :=
 match C.P.underlying k with
 | some (.array n e)=>match C.P.underlying e with
  | some (.int .i64)=>if(C.P.plainKey e&&C.P.cellsOf e==1&&C.P.cellsOf k==n&&decide (0<C.P.types.size))=true then some n else none
  | _=>none
 | _=>none
def insK (xs:List (List Int))(x:List Int):List (List Int):=if xs.contains x then xs else xs++[x]
def makeMapK (σ:Sg)(t:TypeId)(k:A→Sg→Option ρ):Option ρ :=
 match C.P.underlying t with
 | some (.map ky _)=>match arrKeyB C ky with
  | some n=>k (.l (.ref σ.hp.length)) (addHp σ (.mp false n []))
  | none=>none
 | _=>none
def intsL:List L→Option (List Int)
 | []=>some []
 | .dat _ (.int .i64) (x:Int)::r=>(intsL r).map (x::·)
 | _=>none
def mapUpdateK (σ:Sg)(t:TypeId)(m key:A)(k:Sg→Option ρ):Option ρ :=
 match C.P.underlying t,m,key with
 | some (.map ky _),.l (.ref id),.a ls=>match arrKeyB C ky,σ.ob id,intsL ls with
  | some n,some (.mp false n' xs),some x=>if n=n'∧x.length=n then(if x.all i64B∧xs.length<lim then k (setHp σ id (some (.mp false n (insK xs x))))else none)else none
  | _,_,_=>none
 | _,_,_=>none
def elemsK (dp:Bool)(ty:Ty):Sg→List A→(List ty.den→Sg→Option ρ)→Option ρ
 | σ,[],k=>k [] σ
 | σ,x::r,k=>tkLs dp ty σ (cellsA x) fun y rest σ=>match rest with
  | []=>elemsK dp ty σ r fun ys σ=>k (y::ys) σ
  | _=>none
def inOrder:Nat→List (Nat×Operand)→Bool
 | _,[]=>true
 | n,(i,_)::r=>i==n&&inOrder (n+1) r
def buildSliceK (σ:Sg)(t:TypeId)(len:Nat)(parts:Array (Nat×Operand))(k:A→Sg→Option ρ):Option ρ :=
 match elT C t with
 | some e=>match lookT e C.T with
  | some ty =>
   let xs:=parts.toList.map fun p=>getA σ p.2
   if szT C e=some ty.wid∧parts.size=len∧inOrder 0 parts.toList∧len*ty.wid≤16777216∧(zeroLs C e).isSome then
    let dp:=ty.flat||xs.all fun x=>(canTk ty σ (cellsA x)).1
    elemsK (dp&&!ty.flat) ty σ xs fun ys σ=>k (.l (.ref σ.hp.length)) (addHp σ (.own false dp e ty ys))
   else none
  | none=>none
 | none=>none
def makeSliceK (σ:Sg)(t:TypeId)(l c:Operand)(k:A→Sg→Option ρ):Option ρ :=
 match l,c,elT C t with
 | .tmp a,.tmp b,some e=>if a=b then(match getA σ (.tmp a),lookT e C.T,byT C e with
  | .l (.dat _ (.int .i64) (n:Int)),some ty,some by_ =>
   if szT C e=some ty.wid∧(((C.P.info? e).bind (·.zero)).map fun z=>(zeroOk ty z.cells.toList).1&&z.cells.size==ty.wid)=some true then
    (mkD by_ n ty.dflt).bind fun xs=>k (.l (.ref σ.hp.length)) (addHp σ (.own false true e ty xs))
   else none
  | _,_,_=>none)else none
 | _,_,_=>none
def intOptK (σ:Sg)(x:Option Operand)(d:Int)(k:Int→Option ρ):Option ρ :=
 match x with
 | none=>k d
 | some x=>match getA σ x with
  | .l (.dat _ (.int _) (n:Int))=>k n
  | _=>none
def sliceK (σ:Sg)(t:TypeId)(x:A)(lo hi:Option Operand)(vw:Bool)(k:A→Sg→Option ρ):Option ρ :=
 match x with
 | .l (.dat _ .str (s:ByteArray))=>match C.P.underlying t with
  | some .string=>intOptK σ lo 0 fun l=>intOptK σ hi s.size fun h=>(subs s l h).bind fun y=>k (.l (.dat true .str y)) σ
  | _=>none
 | .l (.dat _ (.list ty) (xs:List _))=>match elT C t with
  | some e=>if szT C e=some ty.wid then intOptK σ lo 0 fun l=>intOptK σ hi xs.length fun h=>(subl xs l h).bind fun y=>k (.l (.dat false (.list ty) y)) σ else none
  | none=>none
 | .l (.ref id)=>match elT C t,σ.ob id with
  | some e,some (.own ro dp e' ty xs)=>if szT C e = some ty.wid then (match lo with
    | none=>if ro then none else intOptK σ hi xs.length fun h=>(subl xs 0 h).bind fun y=>k (.l (.ref σ.hp.length)) (addHp (setHp σ id none) (.own false dp e' ty y))
    | some _=>intOptK σ lo 0 fun l=>intOptK σ hi xs.length fun h=>(subl xs l h).bind fun y=>match vw&&!ro with
     | true=>k (.l (.sub id ty.wid l.toNat h.toNat)) σ
     | false=>k (.l (.dat false (.list ty) y)) (setHp σ id ((σ.ob id).map Ob.freeze)))else none
  | _,_=>none
 | _=>none
def fullD (h m:Int)(n:Nat):Option Unit:=if h=n∧m=n then some ()else none
def clrD (l m n:Nat):Option Unit:=if l≤n∧m=n then some ()else none
def slice3K (σ:Sg)(t:TypeId)(x:A)(hi mx:Operand)(k:A→Option ρ):Option ρ :=
 match x,getA σ hi,getA σ mx with
 | .l (.dat _ (.list ty) (xs:List _)),.l (.dat _ (.int _) (h:Int)),.l (.dat _ (.int _) (m:Int))=>match elT C t with
  | some e=>if szT C e=some ty.wid then(fullD h m xs.length).bind fun _=>k (.l (.full ty xs))else none
  | none=>none
 | _,_,_=>none
def extractK (x:A)(i:Nat)(k:A→Option ρ):Option ρ :=
 match x with
 | .t vs=>match vs[i]? with
  | some (true,ls)=>k (.a ls)
  | some (false,[l])=>k (.l l)
  | _=>none
 | _=>none
def bytesI (s:ByteArray):List Int:=s.data.toList.map fun b=>(b.toNat:Int)
def strI (xs:List Int):ByteArray:=⟨(xs.map fun n=>UInt8.ofNat n.toNat).toArray⟩
def convertK (σ:Sg)(src dst:TypeId)(x:A)(k:A→Option ρ):Option ρ :=
 match C.P.underlying dst,x with
 | some (.int kd),.l (.dat _ (.int _) (n:Int))=>match C.P.underlying src with
  | some (.int _)=>k (.l (.dat true (.int kd) (kd.wrap n)))
  | _=>none
 | some .string,.l x=>match elT C src with
  | some e=>match C.P.underlying e with
   | some (.int .u8)=>rdL σ (.list (.int .u8)) x fun xs=>k (.l (.dat true .str (strI xs)))
   | _=>none
  | none=>none
 | _,_=>none
def indexK (t:TypeId)(x i:A)(k:A→Option ρ):Option ρ :=
 match C.P.underlying t,x,i with
 | some .string,.l (.dat _ .str (s:ByteArray)),.l (.dat _ (.int _) (i:Int))=>(idx s.data.toList i).bind fun b=>k (.l (.dat true (.int .u8) (b.toNat:Int)))
 | _,_,_=>none
def lenK (σ:Sg)(t:TypeId)(x:A)(k:A→Option ρ):Option ρ :=
 match x with
 | .l (.dat _ .str (s:ByteArray))=>match C.P.underlying t with
  | some .string=>k (int64 s.size)
  | _=>none
 | .l (.dat _ (.list _) (xs:List _))=>(elT C t).bind fun _=>k (int64 xs.length)
 | .l .nils=>(elT C t).bind fun _=>k (int64 0)
 | .l (.ref id)=>match σ.ob id with
  | some (.own _ _ _ _ xs)=>(elT C t).bind fun _=>k (int64 xs.length)
  | some (.mp false _ xs)=>match C.P.underlying t with
   | some (.map _ _)=>k (int64 xs.length)
   | _=>none
  | _=>none
 | .l (.sub id wid l m)=>(elT C t).bind fun _=>k (int64 ((m-l:Nat):Int))
 | _=>none
def srcK (σ:Sg)(dp:Bool)(ty:Ty)(x:A)(k:Bool→List ty.den→Sg→Option ρ):Option ρ :=
 match x with
 | .l (.sub id wid l m)=>match σ.ob id with
  | some (.own false _ _ t' y)=>if t'.wid=wid then(castT (.list t') (.list ty) y).bind fun z=>(subl z l m).bind fun q=>k ty.flat q σ else none
  | _=>none
 | .l x=>match dp&&!ty.flat,x with
  | true,.ref id=>match σ.ob id with
   | some (.own false true _ t' y)=>(castT (.list t') (.list ty) y).bind fun z=>k true z (setHp σ id none)
   | _=>rdL σ (.list ty) x fun y=>k ty.flat y σ
  | _,_=>rdL σ (.list ty) x fun y=>k ty.flat y σ
 | _=>none
def appendLK (σ:Sg)(ts:Array TypeId)(s x:A)(k:A→Sg→Option ρ):Option ρ :=
 match ts.toList with
 | [tS,tX]=>match elT C tS with
  | some e=>match lookT e C.T,byT C e with
   | some ty,some by_ =>
    if szT C e=some ty.wid∧tS=tX∧(((C.P.info? e).bind (·.zero)).map fun z=>z.cells.size==ty.wid)=some true then
     match s with
     | .l .nils=>srcK σ true ty x fun dp ys σ=>(appD by_ [] ys).bind fun zs=>k (.l (.ref σ.hp.length)) (addHp σ (.own false dp e ty zs))
     | .l (.ref id)=>match σ.ob id with
      | some (.own false dp e' ty' xs)=>if e=e' then(castT (.list ty') (.list ty) xs).bind fun xs=>srcK (setHp σ id none) dp ty x fun dp ys σ=>(appD by_ xs ys).bind fun zs=>k (.l (.ref σ.hp.length)) (addHp σ (.own false dp e ty zs))else none
      | _=>none
     | .l (.full ty' xs)=>(castT (.list ty') (.list ty) xs).bind fun xs=>srcK σ false ty x fun dp ys σ=>(nneD ys).bind fun _=>(appD by_ xs ys).bind fun zs=>k (.l (.ref σ.hp.length)) (addHp σ (.own false dp e ty zs))
     | _=>none
    else none
   | _,_=>none
  | none=>none
 | _=>none
def zero8 (z:Option Value):Bool:=match z with
 | some (.int .u8 0)=>true
 | _=>false
def appendSK (σ:Sg)(ts:Array TypeId)(s:A)(q:ByteArray)(k:A→Sg→Option ρ):Option ρ :=
 match ts.toList with
 | [tS,tX]=>match elT C tS,C.P.underlying tX with
  | some e,some .string=>match lookT e C.T,C.P.info? e with
   | some (.int .u8),some i=>if i.size = 1∧i.bytes = 1∧zero8 i.zero = true then
     match s with
     | .l .nils=>(appD 1 [] (bytesI q)).bind fun zs=>k (.l (.ref σ.hp.length)) (addHp σ (.own false true e (.int .u8) zs))
     | .l (.ref id)=>match σ.ob id with
      | some (.own false _ e' ty' xs)=>if e=e' then(castT (.list ty') (.list (.int .u8)) xs).bind fun xs=>(appD 1 xs (bytesI q)).bind fun zs=>k (.l (.ref (setHp σ id none).hp.length)) (addHp (setHp σ id none) (.own false true e (.int .u8) zs))else none
      | _=>none
     | _=>none
    else none
   | _,_=>none
  | _,_=>none
 | _=>none
def appendK (σ:Sg)(ts:Array TypeId)(s x:A)(k:A→Sg→Option ρ):Option ρ :=
 match x with
 | .l (.dat _ .str q)=>appendSK C σ ts s q k
 | x=>appendLK C σ ts s x k
def max2K (op:Bool)(x y:A)(k:A→Option ρ):Option ρ :=
 match x,y with
 | .l (.dat _ (.int kd) (a:Int)),.l (.dat _ (.int _) (b:Int))=>k (.l (.dat true (.int kd) (if op then(if b>a then b else a)else(if b<a then b else a))))
 | _,_=>none
def findE (f:FuncId):List CallE→Option CallE
 | []=>none
 | e::r=>if e.f=f then some e else findE f r
def argK {β:Type}(al:Bool)(p:PM)(x:A)(σ:Sg)(rest:Sg→(β→Sg→Option ρ)→Option ρ)(k:p.den→β→Sg→Option ρ):Option ρ :=
 match p with
 | .d nn t=>rest σ fun ys σ=>match !al||okA σ x with
  | true=>rdA σ t x fun y=>nnA nn t x y (k y ys σ)
  | false=>none
 | .f f=>match x with
  | .l (.fn g)=>if f=g then rest σ fun ys σ=>k () ys σ else none
  | _=>none
 | .mv dp e t=>match x with
  | .l x=>tkO σ dp e t x fun y σ=>rest σ fun ys σ=>k y ys σ
  | _=>none
 | .io dp e t=>match x with
  | .l (.ref id)=>match σ.ob id with
   | some (.own false dp' e' t' y)=>if dp=dp'∧e=e' then(castT (.list t') (.list t) y).bind fun z=>rest (setHp σ id none) fun ys σ=>k z ys σ else none
   | _=>none
  | _=>none
 | .cur e=>decS (.b e curKs) x σ fun y σ=>rest σ fun ys σ=>k y ys σ
def argsK (al:Bool):(ps:List PM)→List A→(σ:Sg)→(PMs.den ps→Sg→Option ρ)→Option ρ
 | [],[],σ,k=>k () σ
 | [p],[x],σ,k=>argK (β:=Unit) al p x σ (fun σ k=>k () σ) fun y _ σ=>k y σ
 | p::p'::r,x::xs,σ,k=>argK al p x σ (argsK al (p'::r) xs) fun y ys σ=>k (y,ys) σ
 | _,_,_,_=>none
def LK.alias:LK→Bool
 | .d _ t=>!t.flat
 | .o dp _ t=>!dp&&!t.flat
 | .m _=>false
def PM.alias:PM→Bool
 | .io dp _ t=>!dp&&!t.flat
 | .cur _=>true
 | _=>false
def SK.alias:SK→Bool
 | .l k=>k.alias
 | .a ks=>ks.any LK.alias
 | .b _ _=>true
def freezeAs (σ:Sg):List PM→List A→Sg
 | .d _ _::ps,x::r=>freezeAs ((cellsA x).foldl freezeL σ) ps r
 | _::ps,_::r=>freezeAs σ ps r
 | _,_=>σ
def frzArgs (al:Bool)(σ:Sg)(ps:List PM)(xs:List A):Sg :=
 match al with
 | true=>freezeAs σ ps xs
 | false=>σ
def backK:(ps:List PM)→List A→PMo.den ps→(σ:Sg)→(Sg→Option ρ)→Option ρ
 | [],_,_,σ,k=>k σ
 | .io dp e t::r,x::xs,y,σ,k=>match x with
  | .l (.ref id)=>match σ.ob id with
   | none=>backK r xs y.2 (setHp σ id (some (.own false dp e t y.1))) k
   | some _=>none
  | _=>none
 | .cur e::r,x::xs,y,σ,k=>match x with
  | .l (.bptr id 0)=>match σ.ob id with
   | none=>backK r xs y.2 (setHp σ id (some (.box false e [.dat false (.list (.int .u8)) y.1.1,.dat false (.int .i64) y.1.2.1,.dat false (.int .i64) y.1.2.2]))) k
   | some _=>none
  | _=>none
 | .d _ _::r,_::xs,y,σ,k=>backK r xs y σ k
 | .f _::r,_::xs,y,σ,k=>backK r xs y σ k
 | .mv _ _ _::r,_::xs,y,σ,k=>backK r xs y σ k
 | _::_,[],_,_,_=>none
def retA (vs:List A):A :=
 match vs with
 | [x]=>x
 | vs=>.t (vs.map fun
  | .l l=>(false,[l])
  | .a ls=>(true,ls)
  | .t _=>(true,[]))
def noT:A→Bool
 | .t _=>false
 | _=>true
def SK.noB:SK→Bool
 | .b _ _=>false
 | _=>true
def callK (σ:Sg)(f:FuncId)(xs:List A)(k:A→Sg→Option ρ):Option ρ :=
 match findE f C.O with
 | some e =>
  let al:=e.rs.any SK.alias||e.ps.any PM.alias
  match e.rs.all SK.noB with
  | true=>argsK al e.ps xs (frzArgs al σ e.ps xs) fun y σ1=>(e.F y).bind fun r =>
   match resB (hasIo e.ps) r with
   | (r,some o)=>backK e.ps xs o σ1 fun σ2=>encSs σ2 e.rs r fun vs σ3=>k (retA vs) σ3
   | (r,none)=>encSs σ1 e.rs r fun vs σ3=>k (retA vs) σ3
  | false=>none
 | none=>match findI f C.I with
  | some e=>e.K ρ xs σ k
  | none=>none
def clearK (σ:Sg)(t:TypeId)(x:A)(k:Sg→Option ρ):Option ρ :=
 match x with
 | .l (.sub id wid l m)=>match elT C t,σ.ob id with
  | some e,some (.own false false e' ty xs) =>
   if szT C e=some ty.wid∧wid=ty.wid∧(((C.P.info? e).bind (·.zero)).map fun z=>(zeroOk ty z.cells.toList).1&&z.cells.size==ty.wid)=some true then
    (clrD l m xs.length).bind fun _=>k (setHp σ id (some (.own false false e' ty (xs.take l++List.replicate (m-l) ty.dflt))))
   else none
  | _,_=>none
 | _=>none
def builtinK (σ:Sg)(b:Builtin)(ts:Array TypeId)(xs:List A)(k:A→Sg→Option ρ):Option ρ :=
 match b,xs with
 | .len,[x]=>match ts.toList with
  | [t]=>lenK C σ t x fun v=>k v σ
  | _=>none
 | .append,[s,x]=>appendK C σ ts s x k
 | .max,[x,y]=>max2K true x y fun v=>k v σ
 | .min,[x,y]=>max2K false x y fun v=>k v σ
 | .clear,[x]=>match ts.toList with
  | [t]=>clearK C σ t x fun σ=>k (.l .unk) σ
  | _=>none
 | _,_=>none
def capIds:List A→Option (List Nat)
 | []=>some []
 | .l (.bptr id 0)::r=>(capIds r).map (id::·)
 | _=>none
def vwT (x:Operand):Bool :=
 match x with
 | .tmp t=>C.Vw.contains t
 | _=>false
def ptrK (x:A)(k:A→Option ρ):Option ρ :=
 match x with
 | .l (.bptr id j)=>k (.l (.bptr id j))
 | _=>none
def opK (σ:Sg)(op:Op)(k:A→Sg→Option ρ):Option ρ :=
 match op with
 | .move x=>k (getA σ x) σ
 | .assign x=>k (getA σ x) σ
 | .nilCheck x=>ptrK (getA σ x) fun v=>k v σ
 | .pick c a b=>match getA σ c with
  | .l (.dat _ .bool (cb:Bool))=>cond cb (k (getA σ a) σ) (k (getA σ b) σ)
  | _=>none
 | .unOp op _ x=>unK op (getA σ x) fun v=>k v σ
 | .binOp op t x y _=>binK C op t σ (getA σ x) (getA σ y) fun v=>k v σ
 | .load t a=>loadK C σ t (getA σ a) fun v=>k v σ
 | .store t a v=>storeK C σ t (getA σ a) (getA σ v) fun σ=>k (.l .unk) σ
 | .fieldAddr s x f=>fieldAddrK C s f (getA σ x) fun v=>k v σ
 | .indexAddr t x i=>indexAddrK C σ t (getA σ x) (getA σ i) fun v=>k v σ
 | .alloc e=>match zeroLs C e with
  | some zs=>k (.l (.bptr σ.hp.length 0)) (addHp σ (.box false e zs))
  | none=>none
 | .box e v=>let ls:=cellsA (getA σ v)
  if ls.length=0 then none else k (.l (.bptr σ.hp.length 0)) (addHp σ (.box false e ls))
 | .build t parts=>buildK C σ t parts fun v=>k v σ
 | .buildSlice t len parts=>buildSliceK C σ t len parts k
 | .makeSlice t l c=>makeSliceK C σ t l c k
 | .makeMap t none=>makeMapK C σ t k
 | .mapUpdate t m y _=>mapUpdateK C σ t (getA σ m) (getA σ y) fun σ=>k (.l .unk) σ
 | .slice t x lo hi none=>sliceK C σ t (getA σ x) lo hi (vwT C x) k
 | .slice t x none (some hi) (some mx)=>slice3K C σ t (getA σ x) hi mx fun v=>k v σ
 | .extract t i=>extractK (getA σ t) i fun v=>k v σ
 | .convert src dst x=>convertK C σ src dst (getA σ x) fun v=>k v σ
 | .index t x i=>indexK C t (getA σ x) (getA σ i) fun v=>k v σ
 | .makeFunc (.func f) first captured=>match first.toList,capIds (captured.toList.map (getA σ))with
  | [],some []=>k (.l (.fn f)) σ
  | [],some (id::ids)=>k (.l (.clo f (id::ids))) σ
  | _,_=>none
 | .call c=>match c.callee with
  | .builtin b=>builtinK C σ b c.argTypes (c.args.toList.map (getA σ)) k
  | .value f=>match getA σ f with
   | .l (.fn f)=>callK C σ f (c.args.toList.map (getA σ)) k
   | .l (.clo f ids)=>callK C σ f (c.args.toList.map (getA σ)++ids.map fun id=>.l (.bptr id 0)) k
   | _=>none
  | _=>none
 | _=>none
def operK (ops:Array Oper)(σ:Sg)(o:Oper)(k:Sg→Option ρ):Option ρ :=
 match o.guard with
 | none=>opK C σ o.op fun v σ=>putK σ o.dst v k
 | some (j,want)=>match (ops[j]?).bind (·.dst)with
  | some d=>match getA σ (.tmp d)with
   | .l (.dat _ .bool (b:Bool))=>cond b
     (putK σ (some d) (boolA true) fun σ=>cond want (opK C σ o.op fun v σ=>putK σ o.dst v k) (putK σ o.dst (.l .und) k))
     (putK σ (some d) (boolA false) fun σ=>cond want (putK σ o.dst (.l .und) k) (opK C σ o.op fun v σ=>putK σ o.dst v k))
   | .l .und=>putK σ o.dst (.l .und) k
   | _=>none
  | none=>none
def opersK (ops:Array Oper)(σ:Sg):List Oper→(Sg→Option ρ)→Option ρ
 | [],k=>k σ
 | o::r,k=>operK C ops σ o fun σ=>opersK ops σ r k
end
def L.refs:L→List Nat
 | .ref id=>[id]
 | .optr id _ _=>[id]
 | .bptr id _=>[id]
 | .clo _ ids=>ids
 | .sub id _ _ _=>[id]
 | _=>[]
def A.refs:A→List Nat
 | .l y=>y.refs
 | .a ys=>ys.flatMap L.refs
 | .t ps=>ps.flatMap fun p=>p.2.flatMap L.refs
def Ob.refs:Ob→List Nat
 | .own _ _ _ _ _=>[]
 | .box _ _ cs=>cs.flatMap L.refs
 | .mp _ _ _=>[]
def passing:Op→Bool
 | .move _=>true
 | .assign _=>true
 | .nilCheck _=>true
 | .pick _ _ _=>true
 | .build _ _=>true
 | .extract _ _=>true
 | .alloc _=>true
 | .box _ _=>true
 | _=>false
def PM.still:PM→Bool
 | .d _ _=>true
 | .f _=>true
 | _=>false
def isR (C:Ctx)(σ:Sg)(op:Op):Bool :=
 match op with
 | .move _=>true
 | .assign _=>true
 | .nilCheck _=>true
 | .pick _ _ _=>true
 | .unOp _ _ _=>true
 | .binOp _ _ _ _ _=>true
 | .load _ _=>true
 | .fieldAddr _ _ _=>true
 | .indexAddr _ _ _=>true
 | .extract _ _=>true
 | .convert _ _ _=>true
 | .index _ _ _=>true
 | .alloc _=>true
 | .box _ _=>true
 | .build _ _=>true
 | .makeSlice _ _ _=>true
 | .call c=>match c.callee with
  | .builtin .len=>true
  | .builtin .max=>true
  | .builtin .min=>true
  | .value f=>match getA σ f with
   | .l (.fn f)=>match findE f C.O with
    | some e=>!(e.rs.any SK.alias||e.ps.any PM.alias)&&e.ps.all PM.still
    | none=>false
   | _=>false
  | _=>false
 | _=>false
def looks (ops:Array Oper)(o:Oper):List Nat :=
 (o.op.operands.toList.filterMap fun
  | .tmp t=>some t
  | _=>none)++(match o.guard with
  | some (g,_)=>((ops[g]?).bind (·.dst)).toList
  | none=>[])
def keepE (ls:List Nat):Nat→List A→List A
 | _,[]=>[]
 | n,a::r=>(if ls.contains n then a else .l .unk)::keepE ls (n+1) r
def keepO (R:Bool)(wr ins:List Nat)(base n:Nat)(o:Option Ob):Option Ob :=
 if ins.contains n then o else if wr.contains n then none else if n < base then (match R with
   | true=>o
   | false=>match o with
    | some o=>(match o.ro with
     | true=>some o
     | false=>none)
    | none=>none)else none
def keepH (R:Bool)(wr ins:List Nat)(base:Nat):Nat→List (Option Ob)→List (Option Ob)
 | _,[]=>[]
 | n,o::r=>keepO R wr ins base n o::keepH R wr ins base (n+1) r
def partS (σ:Sg)(ls:List Nat)(R:Bool)(wr ins:List Nat)(base lo:Nat):Sg:={ env:=keepE ls 0 σ.env,hp:=(keepH R wr ins base 0 σ.hp).take lo }
def mergeS (σ σ':Sg)(ids:List Nat):Sg:=ids.foldl (fun s id=>setHp s id (σ'.ob id)) σ
def thawL (σ:Sg)(x:L):L :=
 match x with
 | .ref id=>match σ.ob id with
  | some (.own _ _ _ t y)=>.dat false (.list t) y
  | _=>.ref id
 | x=>x
def thawA (σ:Sg)(x:A):A :=
 match x with
 | .l x=>.l (thawL σ x)
 | .a ls=>.a (ls.map (thawL σ))
 | .t ps=>.t (ps.map fun p=>(p.1,p.2.map (thawL σ)))
def frzA (σ:Sg)(x:A):Sg:=x.refs.foldl (fun s id=>freezeL s (.ref id)) σ
def ancsL (ancL:List Nat):List Edge→Nat
 | []=>0
 | e::r=>(match Region.binds .any e with
  | true=>2 ^ e.on ||| (ancL[e.on]?).getD 0
  | false=>0) ||| ancsL ancL r
def ancs (ancL:List Nat)(o:Oper):Nat:=ancsL ancL o.after.toList
def segOk (base k an i:Nat)(id:Nat):Bool:=decide (id<base)||(id-base) / k==i||an.testBit ((id-base) / k)
def wrOk (ops:Array Oper)(m i t:Nat):Bool:=(List.range m).all fun j=>match ops[j]? with
 | some o=>!(o.dst==some t)||j==i||o.after.toList.any fun e=>Region.binds .any e&&e.on==i
 | none=>true
def drawK {ρ:Type}(C:Ctx)(ops:Array Oper)(th ds wr:List Nat)(m base k:Nat):(i:Nat)→List Oper→(ancL:List Nat)→(used:List Nat)→(σ:Sg)→(Sg→Option ρ)→Option ρ
 | _,[],_,_,σ,K=>K σ
 | i,o::r,ancL,used,σ,K =>
  let lo:=base+i*k
  let ls:=looks ops o
  let an:=ancs ancL o
  let run:=fun(σ:Sg) =>
   let ins:=if passing o.op then []else(ls.flatMap fun t=>(getA σ (.tmp t)).refs).eraseDups.filter (fun id=>decide (base≤id)||wr.contains id)
   let pt:=partS σ ls (isR C (partS σ ls false [] [] 0 0) o.op) wr ins base lo
   match (ls.all fun t=>!ds.contains t || (o.after.toList.any fun e=>Region.binds .any e && ((ops[e.on]?).bind (·.dst) == some t)) || wrOk ops m i t) &&
     (ls.all fun t=>(getA σ (.tmp t)).refs.all (·<lo))&&(pt.hp.all fun x=>match x with
      | some x=>x.refs.all (·<lo)
      | none=>true)&&(ins.all fun id=>(decide (id<base)||an.testBit ((id-base) / k))&&!used.contains id&&(pt.ob id).isSome)with
   | true=>opK C pt o.op fun v σ1 =>
    let v':=if th.contains i then thawA σ1 v else v
    let σ2:=if th.contains i then frzA σ1 v else σ1
    let ids:=ins++List.range' lo k
    match decide (σ2.hp.length≤lo + k) && (!th.contains i || v.refs.all ids.contains) && (v'.refs.all (segOk base k an i)) && (ids.all fun id=>match σ2.ob id with
      | some x=>x.refs.all (segOk base k an i)
      | none=>true)with
    | true=>putK (mergeS σ σ2 ids) o.dst v' (drawK C ops th ds wr m base k (i+1) r (ancL++[an]) (ins++used) · K)
    | false=>none
   | false=>none
  let skip:=fun(σ:Sg)=>putK σ o.dst (.l .und) (drawK C ops th ds wr m base k (i+1) r (ancL++[an]) used · K)
  match o.guard with
  | none=>run σ
  | some (j,want)=>match (ops[j]?).bind (·.dst),o.after.toList.any (fun e=>Region.binds .any e&&e.on==j)with
   | some d,true=>match getA σ (.tmp d)with
    | .l (.dat _ .bool (b:Bool))=>cond b
      (putK σ (some d) (boolA true) fun σ=>cond want (run σ) (skip σ))
      (putK σ (some d) (boolA false) fun σ=>cond want (skip σ) (run σ))
    | .l .und=>skip σ
    | _=>none
   | _,_=>none
def ancAll:List Oper→List Nat→List Nat
 | [],acc=>acc
 | o::r,acc=>ancAll r (acc++[ancs acc o])
def tailAt (an:List Nat):Nat→Nat
 | 0=>0
 | n+1=>match an[n]? with
  | some x=>if x=2 ^ n-1 then tailAt an n else n+1
  | none=>n+1
def findD (id:Nat):List DrawA→DrawA
 | []=>⟨id,[],[],[],3⟩
 | a::r=>if a.id=id then a else findD id r
def wrIds (σ:Sg)(x:A)(inside:Bool):List Nat :=
 match inside with
 | false=>x.refs
 | true=>x.refs.flatMap fun id=>match σ.ob id with
  | some o=>o.refs
  | none=>[]
def regionD {ρ:Type}(C:Ctx)(id:Nat)(ops:Array Oper)(σ:Sg)(K:Sg→Option ρ):Option ρ :=
 let an:=findD id C.Dr
 let m:=tailAt (ancAll ops.toList []) ops.size
 let pre:=ops.toList.take m
 let ds:=pre.filterMap (·.dst)
 let σ:=(an.fz.map fun t=>getA σ (.tmp t)).foldl frzA σ
 let base:=σ.hp.length
 let wr:=(an.wr.flatMap fun t=>wrIds σ (getA σ (.tmp t.1)) t.2).filter fun id=>match σ.ob id with
  | some o=>!o.ro
  | none=>false
 match decide ds.Nodup && (List.range ops.size).all (fun i=>match ops[i]? with
   | some o=>o.after.toList.all fun e=>!Region.binds .any e||decide (e.on<i)
   | none=>false)with
 | true=>drawK { C with I:=C.I.filter (·.dr) } ops an.th ds wr m base (an.k+1) 0 pre [] [] { env:=σ.env,hp:=σ.hp++List.replicate (m*(an.k+1)) none } fun σ=>opersK C ops σ (ops.toList.drop m) K
 | false=>none
def quietO (o:Oper):Bool :=
 match o.op with
 | .move _=>true
 | .assign _=>true
 | .nilCheck _=>true
 | .pick _ _ _=>true
 | .unOp _ _ _=>true
 | .binOp _ _ _ _ _=>true
 | .load _ _=>true
 | .fieldAddr _ _ _=>true
 | .indexAddr _ _ _=>true
 | .extract _ _=>true
 | .index _ _ _=>true
 | .slice _ _ _ _ none=>true
 | .call c=>match c.callee with
  | .builtin .len=>true
  | .builtin .max=>true
  | .builtin .min=>true
  | _=>false
 | _=>false
def quietAt (ops:Array Oper)(i:Nat):Bool:=match ops[i]? with
 | some o=>quietO o
 | none=>false
def pureO (o:Oper):Bool :=
 match o.op with
 | .move _=>true
 | .assign _=>true
 | .slice _ _ _ _ none=>true
 | .call c=>match c.callee with
  | .builtin .max=>true
  | .builtin .min=>true
  | _=>false
 | _=>false
def pureAt (ops:Array Oper)(i:Nat):Bool:=match ops[i]? with
 | some o=>pureO o
 | none=>false
def frzPtr (σ:Sg)(x:A):Bool :=
 match x with
 | .l (.cptr _ _)=>true
 | .l (.bptr id _)=>(match σ.ob id with
  | some (.box true _ _)=>true
  | _=>false)
 | _=>false
def datSl (σ:Sg)(x:A):Bool :=
 match x with
 | .l (.dat _ (.list _) _)=>true
 | .l (.ref id)=>(match σ.ob id with
  | some (.own true _ _ _ _)=>true
  | _=>false)
 | _=>false
def dataO (σ:Sg)(o:Oper):Bool :=
 match o.guard,o.op with
 | none,.load _ p=>frzPtr σ (getA σ p)
 | none,.indexAddr _ x _=>datSl σ (getA σ x)
 | _,_=>false
def dataAt (σ:Sg)(ops:Array Oper)(i:Nat):Bool:=match ops[i]? with
 | some o=>dataO σ o
 | none=>false
def seqOk (σ:Sg)(ops:Array Oper)(an:List Nat)(listed:Array Bool)(i:Nat):Bool :=
 (Region.ready .any ops listed==[i])||((Region.ready .any ops listed).contains i&&(pureAt ops i||dataAt σ ops i)&&Region.free .any ops listed i)||((Region.ready .any ops listed).contains i&&quietAt ops i&&Region.free .any ops listed i &&
  (List.range ops.size).all fun j=>j==i||listed.getD j true||quietAt ops j||((an[j]?).getD 0).testBit i)
def seqK {ρ:Type}(C:Ctx)(ops:Array Oper)(an:List Nat):List Nat→Array Bool→Sg→(Sg→Option ρ)→Option ρ
 | [],listed,σ,K=>match Region.ready .any ops listed with
  | []=>K σ
  | _=>none
 | i::r,listed,σ,K=>match ops[i]?,seqOk σ ops an listed i with
  | some o,true=>operK C ops σ o fun σ=>seqK C ops an r (listed.setIfInBounds i true) σ K
  | _,_=>none
def regionS {ρ:Type}(C:Ctx)(ops:Array Oper)(ord:List Nat)(σ:Sg)(K:Sg→Option ρ):Option ρ :=
 match Region.noSelect ops && ord.length == ops.size && (List.range ops.size).all (fun i=>match ops[i]? with
   | some o=>o.after.toList.all fun e=>!Region.binds .any e||decide (e.on<i)
   | none=>false)with
 | true=>seqK C ops (ancAll ops.toList []) ord (Array.replicate ops.size false) σ K
 | false=>none
def findS (id:Nat):List (Nat×List Nat)→Option (List Nat)
 | []=>none
 | a::r=>if a.1=id then some a.2 else findS id r
def regionX {ρ:Type}(C:Ctx)(id:Nat)(ops:Array Oper)(σ:Sg)(K:Sg→Option ρ):Option ρ :=
 match findS id C.Sq with
 | some ord=>regionS C ops ord (((findD id C.Dr).fz.map fun t=>getA σ (.tmp t)).foldl frzA σ) K
 | none=>regionD C id ops σ K
def firstReg:Code→Nat
 | .region id _ _=>id
 | .seq a _=>firstReg a
 | .block _ c=>firstReg c
 | .loop c=>firstReg c
 | _=>0
def findA (id:Nat):List LoopA→Option LoopA
 | []=>none
 | a::r=>if a.id=id then some a else findA id r
def slotsA (a:LoopA):List Nat :=
 a.st.map (·.1)++(match a.brk with
  | some (_,bs)=>bs.map (·.1)
  | none=>[])++(match a.ret with
  | some rs=>rs.map (·.1)
  | none=>[])
def writes (An:List LoopA):Code→List Nat
 | .region _ ops _=>ops.toList.filterMap (·.dst)++ops.toList.filterMap fun o=>match o.guard with
  | some (j,_)=>(ops[j]?).bind (·.dst)
  | none=>none
 | .seq a b=>writes An a++writes An b
 | .cond _ a b=>writes An a++writes An b
 | .block _ c=>writes An c
 | .loop c=>writes An c++(match findA (firstReg c) An with
  | some a=>slotsA a
  | none=>[])
 | _=>[]
def eraseK {ρ:Type}(ws:List Nat):Nat→List A→(List A→Option ρ)→Option ρ
 | _,[],k=>k []
 | n,a::r,k=>eraseK ws (n+1) r fun r'=>k ((if ws.contains n then .l .unk else a)::r')
def frameK {ρ:Type}(ws:List Nat)(σ:Sg)(k:Sg→Option ρ):Option ρ :=
 eraseK ws 0 σ.env fun env=>k { env:=env,hp:=σ.hp.map (Option.map Ob.freeze) }
def putsK {ρ:Type}(σ:Sg):List (Nat×SK)→List A→(Sg→Option ρ)→Option ρ
 | [],[],k=>k σ
 | (p,_)::r,x::xs,k=>putK σ (some p) x fun σ=>putsK σ r xs k
 | _,_,_=>none
def getsA (σ:Sg)(ps:List (Nat×SK)):List A:=ps.map fun p=>getA σ (.tmp p.1)
def layK {ρ:Type}(σ:Sg)(ps:List (Nat×SK))(x:SKs.den (ps.map (·.2)))(k:Sg→Option ρ):Option ρ :=
 encSs σ (ps.map (·.2)) x fun vs σ=>putsK σ ps vs k
def iterN {σ β:Type}(step:σ→Option (σ⊕β)):Nat→σ→Option β
 | 0,_=>none
 | n+1,s=>match step s with
  | none=>none
  | some (.inl s')=>iterN step n s'
  | some (.inr b)=>some b
open Classical in
noncomputable def iter {σ β:Type}(step:σ→Option (σ⊕β))(s:σ):Option β :=
 if h:∃n b,iterN step n s=some b then some h.choose_spec.choose else none
abbrev LoopA.sd (a:LoopA):Type:=SKs.den (a.st.map (·.2))
abbrev pd (ps:List (Nat×SK)):Type:=SKs.den (ps.map (·.2))
def SK.free:SK→Bool
 | .l k=>!k.alias
 | .a ks=>ks.all fun k=>!k.alias
 | .b _ _=>false
def backS (lo:Bool)(bs:List (Nat×SK))(σ2 σF:Sg):Sg :=
 match lo&&bs.all fun p=>p.2.free with
 | true=>{ env:=σF.env,hp:=σ2.hp }
 | false=>σF
def moveK {ρ:Type}(x0 x:A)(σ:Sg)(k:Sg→Option ρ):Option ρ :=
 match x0,x with
 | .l (.ref id),.l (.ref n)=>match σ.ob id,σ.ob n with
  | none,some o=>if o.ro then none else k (setHp (setHp σ n none) id (some o))
  | _,_=>none
 | .l (.bptr id 0),.l (.bptr n 0)=>match σ.ob id,σ.ob n with
  | none,some o=>if o.ro then none else k (setHp (setHp σ n none) id (some o))
  | _,_=>none
 | _,_=>none
def layI {ρ:Type}(σ:Sg)(ps:List (Nat×SK))(t:Nat)(c:SK)(y:SKs.den ((ps++[(t,c)]).map (·.2)))(k:Sg→Option ρ):Option ρ :=
 encSs σ ((ps++[(t,c)]).map (·.2)) y fun vs σ1=>putsK σ1 ps (vs.take ps.length) fun σ2=>match vs[ps.length]? with
  | some x=>moveK (getA σ (.tmp t)) x σ2 k
  | none=>none
noncomputable def codeK (C:Ctx):Code→(ρ:Type)→Sg→(AEx→Sg→Option ρ)→Option ρ
 | .skip,_,σ,k=>k .normal σ
 | .region _ ops false,_,σ,k=>opersK C ops σ ops.toList fun σ=>k .normal σ
 | .region id ops true,_,σ,k=>regionX C id ops σ fun σ=>k .normal σ
 | .seq a b,ρ,σ,k=>codeK C a ρ σ fun e σ=>match e with
  | .normal=>codeK C b ρ σ k
  | e=>k e σ
 | .cond c a b,ρ,σ,k=>match getA σ c with
  | .l (.dat _ .bool (cb:Bool))=>cond cb (codeK C a ρ σ k) (codeK C b ρ σ k)
  | _=>none
 | .block id c,ρ,σ,k=>codeK C c ρ σ fun e σ=>match e with
  | .exit id'=>if id'=id then k .normal σ else k (.exit id') σ
  | e=>k e σ
 | .exit id,_,σ,k=>k (.exit id) σ
 | .ret,_,σ,k=>k .ret σ
 | .loop c,ρ,σ,k=>match findA (firstReg c) C.An with
  | none=>none
  | some a=>match a.ip with
   | some (t,c0)=>(match (writes C.An (.loop c)).contains t with
    | true=>none
    | false=>takeSs σ ((a.st++[(t,c0)]).map (·.2)) (getsA σ (a.st++[(t,c0)])) fun s0 σ2=>frameK (writes C.An (.loop c)) σ2 fun σ =>
     match a.brk,a.ret with
     | some (id,bs),none=>(iter (fun s=>layI σ a.st t c0 s fun σ1=>codeK C c (pd (a.st ++ [(t,c0)]) ⊕ pd (bs ++ [(t,c0)])) σ1 fun e σ2=>match e with
       | .normal=>takeSs σ2 ((a.st++[(t,c0)]).map (·.2)) (getsA σ2 (a.st++[(t,c0)])) fun s' _=>some (.inl s')
       | .exit id'=>if id'=id then takeSs σ2 ((bs++[(t,c0)]).map (·.2)) (getsA σ2 (bs++[(t,c0)])) fun y _=>some (.inr y)else none
       | .ret=>none) s0).bind fun y=>layI σ bs t c0 y fun σ=>k (.exit id) σ
     | some (id,bs),some rs=>(iter (fun s=>layI σ a.st t c0 s fun σ1=>codeK C c (pd (a.st ++ [(t,c0)]) ⊕ (pd (bs ++ [(t,c0)]) ⊕ pd rs)) σ1 fun e σ2=>match e with
       | .normal=>takeSs σ2 ((a.st++[(t,c0)]).map (·.2)) (getsA σ2 (a.st++[(t,c0)])) fun s' _=>some (.inl s')
       | .exit id'=>if id'=id then takeSs σ2 ((bs++[(t,c0)]).map (·.2)) (getsA σ2 (bs++[(t,c0)])) fun y _=>some (.inr (.inl y))else none
       | .ret=>takeSs σ2 (rs.map (·.2)) (getsA σ2 rs) fun y _=>some (.inr (.inr y))) s0).bind fun y=>match y with
        | .inl y=>layI σ bs t c0 y fun σ=>k (.exit id) σ
        | .inr y=>layK σ rs y fun σ=>k .ret σ
     | _,_=>none)
   | none=>takeSs σ (a.st.map (·.2)) (getsA σ a.st) fun s0 σ2=>frameK (writes C.An (.loop c)) σ2 fun σ =>
    match a.brk,a.ret with
    | some (id,bs),none=>(iter (fun s=>layK σ a.st s fun σ1=>codeK C c (a.sd ⊕ pd bs) σ1 fun e σ2=>match e with
      | .normal=>takeSs σ2 (a.st.map (·.2)) (getsA σ2 a.st) fun s' _=>some (.inl s')
      | .exit id'=>if id'=id then takeSs σ2 (bs.map (·.2)) (getsA σ2 bs) fun y _=>some (.inr y)else none
      | .ret=>none) s0).bind fun y=>layK (backS a.lo bs σ2 σ) bs y fun σ=>k (.exit id) σ
    | none,some rs=>(iter (fun s=>layK σ a.st s fun σ1=>codeK C c (a.sd ⊕ pd rs) σ1 fun e σ2=>match e with
      | .normal=>takeSs σ2 (a.st.map (·.2)) (getsA σ2 a.st) fun s' _=>some (.inl s')
      | .exit _=>none
      | .ret=>takeSs σ2 (rs.map (·.2)) (getsA σ2 rs) fun y _=>some (.inr y)) s0).bind fun y=>layK σ rs y fun σ=>k .ret σ
    | some (id,bs),some rs=>(iter (fun s=>layK σ a.st s fun σ1=>codeK C c (a.sd ⊕ (pd bs ⊕ pd rs)) σ1 fun e σ2=>match e with
      | .normal=>takeSs σ2 (a.st.map (·.2)) (getsA σ2 a.st) fun s' _=>some (.inl s')
      | .exit id'=>if id'=id then takeSs σ2 (bs.map (·.2)) (getsA σ2 bs) fun y _=>some (.inr (.inl y))else none
      | .ret=>takeSs σ2 (rs.map (·.2)) (getsA σ2 rs) fun y _=>some (.inr (.inr y))) s0).bind fun y=>match y with
       | .inl y=>layK σ bs y fun σ=>k (.exit id) σ
       | .inr y=>layK σ rs y fun σ=>k .ret σ
    | none,none=>none
 | _,_,_,_=>none
def encP (σ:Sg)(p:PM)(x:p.den):A×Sg :=
 match p with
 | .d nn t=>(.l (.dat nn t x),σ)
 | .f f=>(.l (.fn f),σ)
 | .mv dp e t=>(.l (.ref σ.hp.length),addHp σ (.own false dp e t x))
 | .io dp e t=>(.l (.ref σ.hp.length),addHp σ (.own false dp e t x))
 | .cur e=>(.l (.bptr σ.hp.length 0),addHp σ (.box false e [.dat false (.list (.int .u8)) x.1,.dat false (.int .i64) x.2.1,.dat false (.int .i64) x.2.2]))
def encPs (σ:Sg):(ps:List PM)→PMs.den ps→List A×Sg
 | [],_=>([],σ)
 | [p],x=>let (a,σ):=encP σ p x;([a],σ)
 | p::p'::r,x=>let (a,σ):=encP σ p x.1;let (as,σ):=encPs σ (p'::r) x.2;(a::as,σ)
def resK {ρ:Type}(C:Ctx)(σ:Sg):List ResultVar→(List A→Option ρ)→Option ρ
 | [],k=>k []
 | .tmp t::r,k=>resK C σ r fun as=>k (getA σ (.tmp t)::as)
 | .cell a t::r,k=>match getA σ (.tmp a)with
  | .l (.bptr id j)=>loadK C σ t (.l (.bptr id j)) fun x=>resK C σ r fun as=>k (x::as)
  | _=>none
def simpleC:Code→Bool
 | .skip=>true
 | .region _ _ draw=>!draw
 | .seq a b=>simpleC a&&simpleC b
 | .cond _ a b=>simpleC a&&simpleC b
 | .block _ c=>simpleC c
 | .exit _=>true
 | .ret=>true
 | _=>false
noncomputable def inlK (C:Ctx)(fn:Func)(ρ:Type)(xs:List A)(σ:Sg)(k:A→Sg→Option ρ):Option ρ :=
 match fn.body,Nat.ble xs.length fn.ntmps with
 | some c,true=>codeK C c ρ { env:=xs++List.replicate (fn.ntmps-xs.length) (.l .unk),hp:=σ.hp } fun e σ'=>match e with
  | .exit _=>none
  | _=>resK C σ' fn.results.toList fun as=>match as.all noT with
   | true=>k (retA as) { env:=σ.env,hp:=σ'.hp }
   | false=>none
 | _,_=>none
def ioK {ρ:Type}:(ps:List PM)→Nat→(σ:Sg)→(PMo.den ps→Sg→Option ρ)→Option ρ
 | [],_,σ,k=>k () σ
 | .io dp e t::r,i,σ,k=>decS (.l (.o dp e t)) (getA σ (.tmp i)) σ fun z σ=>ioK r (i+1) σ fun o σ=>k (z,o) σ
 | .cur e::r,i,σ,k=>decS (.b e curKs) (getA σ (.tmp i)) σ fun z σ=>ioK r (i+1) σ fun o σ=>k (z,o) σ
 | .d _ _::r,i,σ,k=>ioK r (i+1) σ k
 | .f _::r,i,σ,k=>ioK r (i+1) σ k
 | .mv _ _ _::r,i,σ,k=>ioK r (i+1) σ k
def resJ {R O:Type}:(b:Bool)→R→O→ResB b R O
 | true,r,o=>(r,o)
 | false,r,_=>r
noncomputable def funK (C:Ctx)(fn:Func)(ps:List PM)(rs:List SK)(x:PMs.den ps):Option (ResB (hasIo ps) (SKs.den rs) (PMo.den ps)) :=
 match fn.body with
 | none=>none
 | some c =>
  let (as,σ):=encPs ⟨List.replicate fn.ntmps (.l .unk),[]⟩ ps x
  codeK C c _ { σ with env:=as++σ.env.drop as.length } fun e σ=>match e with
   | .exit _=>none
   | _=>resK C σ fn.results.toList fun vs=>ioK ps 0 (frzSs rs vs σ) fun o σ=>decSs rs vs σ fun r _=>some (resJ (hasIo ps) r o)
open Go
open Go.RowKit (Below)
set_option linter.all false
structure En where
 w0:World
 A:Nat→Prop
 X:Nat→Prop
 H:Nat→Prop
 F:Nat→Prop
 V:Nat→Value
 d:Prop
abbrev En.B (E:En):Nat:=E.w0.heap.size
abbrev Gh:=Nat→Value×List Nat
def Gl (w:World):Prop:=glN≤w.heap.size∧∀p∈glT,∃o,w.heap[p.1]? = some o∧p.2 o
theorem Gl.frame {w w':World}(h:Gl w)(hs:w.heap.size≤w'.heap.size)(hf:∀b,b<glN→w'.heap[b]? = w.heap[b]?):Gl w' :=
 ⟨Nat.le_trans h.1 hs,fun p hp=>by
  obtain⟨v,h1,h2⟩:=h.2 p hp;exact⟨v,by rw[hf p.1 (glT_lt p hp)];exact h1,h2⟩⟩
structure XA (E:En):Prop where
 a:∀b,E.X b→E.A b
 gl:Gl E.w0
 gx:∀b,E.X b→glN≤b
 gh:∀b,E.H b→glN≤b
structure Out (D:Prop) (w' w:World):Prop where
 eq:w'.output=w.output
 drawn:D→w.drawn≤w'.drawn
theorem Out.refl {D:Prop}(w:World):Out D w w:=⟨rfl,fun _=>Nat.le_refl _⟩
theorem Out.trans {D:Prop}{a b c:World}(h:Out D a b)(k:Out D b c):Out D a c:=⟨h.eq.trans k.eq,fun d=>Nat.le_trans (k.drawn d) (h.drawn d)⟩
theorem Out.to {D:Prop}{a b:World}(h:Out True a b):Out D a b:=⟨h.eq,fun _=>h.drawn trivial⟩
theorem ask_drawn {α:Type}:(m:Ask α)→(w:World)→w.drawn≤(w.ask m).2.drawn
 | .done a,w=>Nat.le_refl _
 | .ask what range k,w=>by
  unfold World.ask;simp only;split
  ·exact ask_drawn (k 0) w
  ·refine Nat.le_trans ?_ (ask_drawn _ _);exact Nat.le_succ _
theorem exBind {ε α β:Type}{x:Except ε α}{f:α→Except ε β}{r:β}(h:(x >>= f)=.ok r):∃a,x=.ok a∧f a=.ok r:=by
 cases x with
 | error e=>cases h
 | ok a=>exact⟨a,rfl,h⟩
theorem viewStore_drawn {p:Program}{w:World}{t:Addr}{u:TypeId}{k:Addr}{v:Value}{b:Bool}{r:World×List Addr}(h:w.viewStore p t u k v b=.ok r):r.1.drawn=w.drawn:=by
 unfold World.viewStore at h;simp only[]at h;split at h
 ·cases h
 ·obtain⟨⟨c,e,frozen,first,like,cells⟩,_,h⟩:=exBind h
  simp only at h;split at h
  ·split at h
   ·cases h
   ·obtain⟨c',_,h⟩:=exBind h;obtain rfl:=Except.ok.inj h;rfl
  ·cases h
theorem run_drawn {α:Type}{p:Program}:(m:Sem α)→{w w':World}→{v:α}→m.run p w=.ok v w'→w.drawn≤w'.drawn
 | .pure a,w,w',v,h=>by simp only[Sem.run,Result.ok.injEq]at h;rw[h.2];exact Nat.le_refl _
 | .load m a k,w,w',v,h=>by
  unfold Sem.run at h;split at h
  ·exact run_drawn _ h
  ·split at h
   ·exact run_drawn _ h
   ·cases h
 | .store m a x k,w,w',v,h=>by
  have key:(match w.cell? a with
    | some _=>if w.frozen? a then .halt (.unsupported (.unsafePointer "a write to bytes that a string shares")) w else k.run p (w.setCell a x)
    | none=>match w.farStore p a x (m==.atomic)with
     | .ok (w,_)=>k.run p w
     | .error h=>.halt h w)=Result.ok v w'∨False:=by
   cases x<;>simp only[Sem.run]at h<;>first | exact .inl h | cases h
  rcases key with h | h
  ·split at h
   ·split at h
    ·cases h
    ·exact run_drawn k (w:=w.setCell a x) h
   ·split at h
    ·rename_i w2 l he;refine Nat.le_trans ?_ (run_drawn k h);unfold World.farStore at he;split at he
     ·split at he
      ·rename_i r hr;have:=viewStore_drawn hr;obtain rfl:=Except.ok.inj he;exact Nat.le_of_eq this.symm
      ·cases he
     ·cases he
    ·cases h
  ·exact h.elim
 | .new o k,w,w',v,h=>by
  unfold Sem.run at h;exact run_drawn (k _) (w:={ w with heap:=w.heap.push o }) h
 | .shape r k,w,w',v,h=>by unfold Sem.run at h;exact run_drawn _ h
 | .freeze a n k,w,w',v,h=>by
  unfold Sem.run at h;refine Nat.le_trans ?_ (run_drawn _ h);unfold World.freeze;split<;>exact Nat.le_refl _
 | .frozen a k,w,w',v,h=>by unfold Sem.run at h;exact run_drawn _ h
 | .getObj r k,w,w',v,h=>by
  unfold Sem.run at h;split at h
  ·cases h
  ·exact run_drawn _ h
  ·cases h
 | .setObj r o k,w,w',v,h=>by
  unfold Sem.run at h;split at h
  ·cases h
  ·exact run_drawn k (w:={ w with heap:=w.heap.setIfInBounds r o }) h
  ·cases h
 | .choose q k,w,w',v,h=>by
  unfold Sem.run at h;split at h
  ·exact run_drawn _ h
  ·exact Nat.le_trans (Nat.le_succ _) (run_drawn _ h)
 | .sys c k,w,w',v,h=>by
  unfold Sem.run at h;refine Nat.le_trans ?_ (run_drawn _ h);unfold World.sys;split
  ·exact Nat.le_refl _
  ·rename_i r os w2 he;have:=ask_drawn (Kernel.perform c w.os) w;rw[he]at this;exact this
 | .program k,w,w',v,h=>by unfold Sem.run at h;exact run_drawn _ h
 | .mark _ k,w,w',v,h=>by unfold Sem.run at h;exact run_drawn _ h
 | .halt x,w,w',v,h=>by unfold Sem.run at h;cases h
structure Ext (w w':World):Prop where
 os:w'.os=w.os
 tape:w'.tape=w.tape
 output:Out True w' w
 size:w.heap.size≤w'.heap.size
 block:∀k,k<w.heap.size→w'.heap[k]? = w.heap[k]?
theorem Ext.refl (w:World):Ext w w:=⟨rfl,rfl,.refl _,Nat.le_refl _,fun _ _=>rfl⟩
theorem Ext.trans {a b c:World}(h:Ext a b)(k:Ext b c):Ext a c :=
 ⟨k.os.trans h.os,k.tape.trans h.tape,k.output.trans h.output,Nat.le_trans h.size k.size,fun i hi=>(k.block i (Nat.lt_of_lt_of_le hi h.size)).trans (h.block i hi)⟩
theorem Ext.alloc (w:World)(o:Obj):Ext w (w.alloc o):=⟨rfl,rfl,⟨rfl,fun _=>Nat.le_refl _⟩,by simp,fun k hk=>heap_alloc_old w o k hk⟩
theorem Ext.drew (w:World):Ext w w.drew:=⟨rfl,rfl,⟨rfl,fun _=>Nat.le_succ _⟩,Nat.le_refl _,fun _ _=>rfl⟩
def nnP:(t:Ty)→t.den→Value→Prop
 | .list _,x,v=>(show List _ from x)=[]→v=.slice none 0 0
 | _,_,_=>True
def Imm (E:En)(G:Gh)(σ:Sg)(w:World)(b:Nat):Prop :=
 b<w.heap.size∧(b<E.B→E.A b)∧∀id o,σ.ob id=some o→o.ro=false→(G id).2.head?≠some b
def VL (I:Nat→Prop)(N:Nat)(G:Gh)(w:World):L→Value→Prop
 | .unk,_=>True
 | .nils,v=>v=.slice none 0 0
 | .dat nn t x,v=>RdV I w t x v∧(nn=true→nnP t x v)
 | .cptr t x,v=>∃b o cs,v=.pointer (some ⟨b,o,none⟩)∧I b∧(∀j,j<t.wid→w.cell? ⟨b,o+j,none⟩=cs[j]?)∧RdC I w t x cs
 | .ref id,v=>id<N∧v=(G id).1∧v.oneCell'=true
 | .optr id wid i,v=>id<N∧∃b n c,(G id).1=.slice (some ⟨b,0,none⟩) n c∧v=.pointer (some ⟨b,i*wid,none⟩)
 | .bptr id j,v=>id<N∧∃b,(G id).1=.pointer (some ⟨b,0,none⟩)∧v=.pointer (some ⟨b,j,none⟩)
 | .fn f,v=>v=.func (.func f) #[] #[]
 | .clo f ids,v=>v=.func (.func f) #[] (ids.map fun id=>(G id).1).toArray∧∀id∈ids,id<N∧∃b,(G id).1=.pointer (some ⟨b,0,none⟩)
 | .und,v=>v=undef
 | .sub id wid l m,v=>id<N∧∃p n c,(G id).1=.slice p n c∧v=.slice (if c=l then p else p.map (·.add (l*wid))) (m-l) (c-l)∧m≤n∧n≤c∧(n≠0→∃b,p=some ⟨b,0,none⟩)
 | .full t x,v=>RdV I w (.list t) x v∧∃p n,v=.slice p n n
def VLs (I:Nat→Prop)(N:Nat)(G:Gh)(w:World):List L→List Value→Prop
 | [],[]=>True
 | l::ls,v::vs=>(VL I N G w l v∧v.oneCell'=true)∧VLs I N G w ls vs
 | _,_=>False
def VP (I:Nat→Prop)(N:Nat)(G:Gh)(w:World):Bool×List L→Value→Prop
 | (true,ls),v=>∃vs:List Value,v=.agg vs.toArray∧VLs I N G w ls vs
 | (false,ls),v=>∃l,ls=[l]∧VL I N G w l v
def VPs (I:Nat→Prop)(N:Nat)(G:Gh)(w:World):List (Bool×List L)→List Value→Prop
 | [],[]=>True
 | l::ls,v::vs=>VP I N G w l v∧VPs I N G w ls vs
 | _,_=>False
def VA (I:Nat→Prop)(N:Nat)(G:Gh)(w:World):A→Value→Prop
 | .l l,v=>VL I N G w l v
 | .a ls,v=>∃vs:List Value,v=.agg vs.toArray∧VLs I N G w ls vs
 | .t ps,v=>∃vs:List Value,v=.tuple vs.toArray∧VPs I N G w ps vs
def OwnV (I:Nat→Prop)(w:World)(dp:Bool)(e:TypeId)(t:Ty)(x:List t.den)(v:Value)(bs:List Nat):Prop :=
 x.length≤lim∧∃(cells:List Value) (bss:List (List Nat)),w.ownsRow 0 e t.wid v x.length cells∧bs=v.ownBlock.toList++bss.flatten ∧
  (dp=true→bss.length=x.length)∧(dp=false→bss=[]) ∧
  ∀i y,x[i]? = some y→∃ys,ys.length=t.wid∧(∀j,j<t.wid→cells[i*t.wid+j]? = ys[j]?) ∧
   (if dp then DpC 0 w t y ys (bss[i]?.getD [])else RdC I w t y ys)
def kvV (xs:List Int):Value:=.agg (xs.map (Value.int .i64)).toArray
def MapV (w:World)(n:Nat)(xs:List (List Int))(v:Value)(bs:List Nat):Prop :=
 ∃(b:Nat) (es:Array MapEntry) (clock:Nat),v=.map (some b)∧w.heap[b]? = some (.map es clock)∧es.toList.map (·.key)=xs.map kvV∧xs.length≤lim∧(∀x∈xs,x.length=n∧x.all i64B=true)∧bs=[b]
def OR (I:Nat→Prop)(N:Nat)(G:Gh)(w:World)(id:Nat):Ob→Prop
 | .mp false n xs=>MapV w n xs (G id).1 (G id).2
 | .mp true _ _=>True
 | .own false dp e t x=>OwnV I w dp e t x (G id).1 (G id).2
 | .own true _ _ t x=>RdV I w (.list t) x (G id).1
 | .box ro e cs=>∃b arr,(G id).1=.pointer (some ⟨b,0,none⟩)∧w.heap[b]? = some (.cells arr e (0,0))∧VLs I N G w cs arr.toList∧(if ro then I b else(G id).2=[b])
structure RelG (E:En) (G:Gh) (σ:Sg) (a:Act) (w:World):Prop where
 defers:a.defers=[]
 len:a.tmps.size=σ.env.length
 env:∀(t:Nat) (x:A),σ.env[t]? = some x→VA (Imm E G σ w) σ.hp.length G w x (a.tmps.getD t undef)
 obs:∀(id:Nat) (o:Ob),σ.ob id=some o→OR (Imm E G σ w) σ.hp.length G w id o
 nodup:∀(id:Nat) (o:Ob),σ.ob id=some o→o.ro=false→(G id).2.Nodup
 range:∀(id:Nat) (o:Ob),σ.ob id=some o→o.ro=false→∀b∈(G id).2,b<w.heap.size∧(b<E.B→E.X b)
 hrange:∀(id:Nat) (o:Ob),σ.ob id=some o→o.ro=false→∀b,(G id).2.head? = some b→b<E.B→E.H b
 disj:∀(id id':Nat) (o o':Ob),σ.ob id=some o→o.ro=false→σ.ob id'=some o'→o'.ro=false→id≠id'→∀b∈(G id).2,b∉(G id').2
 os:w.os=E.w0.os
 tape:w.tape=E.w0.tape
 output:Out E.d w E.w0
 size:E.B≤w.heap.size
 frame:∀b,b<E.B→¬E.H b→w.heap[b]? = E.w0.heap[b]?
 xa:XA E
 fixd:∀t,E.F t→a.tmps.getD t undef=E.V t
def Rel (E:En)(σ:Sg)(a:Act)(w:World):Prop:=∃G,RelG E G σ a w
theorem RelG.gl {E:En}{G:Gh}{σ:Sg}{a:Act}{w:World}(h:RelG E G σ a w):Gl w :=
 h.xa.gl.frame h.size fun b hb=>h.frame b (Nat.lt_of_lt_of_le hb h.xa.gl.1) fun hH=>Nat.not_lt.2 (h.xa.gh b hH) hb
theorem RelG.gb {E:En}{G:Gh}{σ:Sg}{a:Act}{w:World}(h:RelG E G σ a w){id:Nat}{o:Ob}(ho:σ.ob id=some o)(hr:o.ro=false):∀b∈(G id).2,glN≤b:=fun b hb=>by
 rcases Nat.lt_or_ge b E.B with hB | hB
 ·exact h.xa.gx b ((h.range id o ho hr b hb).2 hB)
 ·exact Nat.le_trans h.xa.gl.1 hB
section mono
variable {I I':Nat→Prop}{N N':Nat}{G G':Gh}{w w':World}
structure Keep (I I':Nat→Prop) (N N':Nat) (G G':Gh) (w w':World):Prop where
 imm:∀b,I b→I' b
 heap:∀b,I b→w'.heap[b]? = w.heap[b]?
 n:N≤N'
 g:∀id,id<N→(G' id).1=(G id).1
def GA (E:En)(σ σ':Sg)(G G':Gh)(w w':World):Prop:=Keep (Imm E G σ w) (Imm E G' σ' w') σ.hp.length σ'.hp.length G G' w w'
theorem GA.refl (E:En)(σ:Sg)(G:Gh)(w:World):GA E σ σ G G w w:=⟨fun _ h=>h,fun _ _=>rfl,Nat.le_refl _,fun _ _=>rfl⟩
theorem GA.trans {E:En}{σ1 σ2 σ3:Sg}{G1 G2 G3:Gh}{w1 w2 w3:World}(h:GA E σ1 σ2 G1 G2 w1 w2)(k:GA E σ2 σ3 G2 G3 w2 w3):GA E σ1 σ3 G1 G3 w1 w3 :=
 ⟨fun b hb=>k.imm b (h.imm b hb),fun b hb=>(k.heap b (h.imm b hb)).trans (h.heap b hb),Nat.le_trans h.n k.n,fun id hi=>(k.g id (Nat.lt_of_lt_of_le hi h.n)).trans (h.g id hi)⟩
theorem RdV.keep (k:Keep I I' N N' G G' w w'){t:Ty}{x:t.den}{v:Value}(h:RdV I w t x v):RdV I' w' t x v:=h.mono k.imm k.heap
theorem VL.keep (k:Keep I I' N N' G G' w w'):(l:L)→{v:Value}→VL I N G w l v→VL I' N' G' w' l v
 | .unk,_,_=>trivial
 | .nils,_,h=>h
 | .dat nn t x,_,h=>⟨RdV.keep k h.1,h.2⟩
 | .cptr t x,_,h=>by
  obtain⟨b,o,cs,hv,hb,hc,hr⟩:=h;exact⟨b,o,cs,hv,k.imm b hb,fun j hj=>by rw[←hc j hj];exact World.cell?_of_block (k.heap b hb),hr.mono k.imm k.heap t⟩
 | .ref id,_,h=>⟨Nat.lt_of_lt_of_le h.1 k.n,by rw[k.g id h.1];exact h.2⟩
 | .optr id wid i,_,h=>⟨Nat.lt_of_lt_of_le h.1 k.n,by rw[k.g id h.1];exact h.2⟩
 | .bptr id j,_,h=>⟨Nat.lt_of_lt_of_le h.1 k.n,by rw[k.g id h.1];exact h.2⟩
 | .fn f,_,h=>h
 | .und,_,h=>h
 | .sub id _ _ _,_,h=>⟨Nat.lt_of_lt_of_le h.1 k.n,by rw[k.g id h.1];exact h.2⟩
 | .full t x,_,h=>⟨RdV.keep k h.1,h.2⟩
 | .clo f ids,_,h=>by
  have e:(ids.map fun id=>(G' id).1)=ids.map fun id=>(G id).1:=List.map_congr_left fun id hi=>k.g id (h.2 id hi).1;refine⟨by rw[e];exact h.1,fun id hi=>⟨Nat.lt_of_lt_of_le (h.2 id hi).1 k.n,?_⟩⟩
  rw[k.g id (h.2 id hi).1];exact(h.2 id hi).2
theorem VLs.keep (k:Keep I I' N N' G G' w w'):(l:List L)→{v:List Value}→VLs I N G w l v→VLs I' N' G' w' l v
 | [],[],_=>trivial
 | l::ls,v::vs,h=>⟨⟨h.1.1.keep k l,h.1.2⟩,VLs.keep k ls h.2⟩
 | [],_::_,h=>h.elim
 | _::_,[],h=>h.elim
theorem VP.keep (k:Keep I I' N N' G G' w w'):(l:Bool×List L)→{v:Value}→VP I N G w l v→VP I' N' G' w' l v
 | (true,ls),_,⟨vs,h1,h2⟩=>⟨vs,h1,h2.keep k ls⟩
 | (false,ls),_,⟨l,h1,h2⟩=>⟨l,h1,h2.keep k l⟩
theorem VPs.keep (k:Keep I I' N N' G G' w w'):(l:List (Bool×List L))→{v:List Value}→VPs I N G w l v→VPs I' N' G' w' l v
 | [],[],_=>trivial
 | l::ls,v::vs,h=>⟨h.1.keep k l,VPs.keep k ls h.2⟩
 | [],_::_,h=>h.elim
 | _::_,[],h=>h.elim
theorem VA.keep (k:Keep I I' N N' G G' w w'):(x:A)→{v:Value}→VA I N G w x v→VA I' N' G' w' x v
 | .l l,_,h=>VL.keep k l h
 | .a ls,_,⟨vs,h1,h2⟩=>⟨vs,h1,h2.keep k ls⟩
 | .t ps,_,⟨vs,h1,h2⟩=>⟨vs,h1,h2.keep k ps⟩
theorem OwnV.keep {bs:List Nat} (hI:∀ b,I b→I' b∧w'.heap[b]? = w.heap[b]?) {dp:Bool} {e:TypeId} {t:Ty} {x:List t.den} {v:Value}
  (h:OwnV I w dp e t x v bs) (hb:∀b∈bs,w'.heap[b]? = w.heap[b]?):OwnV I' w' dp e t x v bs:=by
 obtain⟨hl,cells,bss,ho,hbs,h1,h2,hel⟩:=h;refine⟨hl,cells,bss,?_,hbs,h1,h2,fun i y hi=>?_⟩
 ·refine⟨ho.1,?_⟩;rcases ho.2 with hn | ⟨g,cap,cur,hv,hg,hh,r⟩
  ·exact .inl hn
  ·refine .inr ⟨g,cap,cur,hv,hg,?_,r⟩;rw[hb g (by rw[hbs,hv];simp[Value.ownBlock])];exact hh
 ·obtain⟨ys,hy1,hy2,hy3⟩:=hel i y hi;refine⟨ys,hy1,hy2,?_⟩;cases dp with
  | true =>
   simp only[if_true]at hy3 ⊢;refine hy3.mono (Nat.le_refl _) t fun b' hb'=>hb b' ?_;rw[hbs];cases hg:bss[i]? with
   | none=>simp[hg]at hb'
   | some l =>
    simp only[hg,Option.getD_some]at hb';exact List.mem_append_right _ (List.mem_flatten.2 ⟨l,List.mem_of_getElem? hg,hb'⟩)
  | false =>
   simp only[Bool.false_eq_true,if_false]at hy3 ⊢;exact hy3.mono (fun b hb=>(hI b hb).1) (fun b hb=>(hI b hb).2) t
theorem OR.keep (k:Keep I I' N N' G G' w w') {id:Nat} (hid:id < N) (hg:G' id = G id):(o:Ob)→OR I N G w id o →
  (o.ro=false→∀b∈(G id).2,w'.heap[b]? = w.heap[b]?)→OR I' N' G' w' id o
 | .own false dp e t x,h,hb=>by
  simp only[OR]at h ⊢;rw[hg];exact h.keep (fun b hb=>⟨k.imm b hb,k.heap b hb⟩) (hb rfl)
 | .own true _ _ t x,h,_=>by
  simp only[OR]at h ⊢;rw[hg];exact RdV.keep k h
 | .box ro e cs,h,hb=>by
  simp only[OR]at h ⊢;rw[hg];obtain⟨b,arr,h1,h2,h3,h4⟩:=h;refine⟨b,arr,h1,?_,h3.keep k cs,?_⟩
  ·cases ro with
   | true=>simp only[if_true]at h4;rw[k.heap b h4];exact h2
   | false=>simp only[Bool.false_eq_true,if_false]at h4;rw[hb rfl b (by rw[h4];simp)];exact h2
  ·cases ro with
   | true=>simp only[if_true]at h4 ⊢;exact k.imm b h4
   | false=>simpa using h4
 | .mp true _ _,_,_=>by simp only[OR]
 | .mp false n xs,h,hb=>by
  simp only[OR]at h ⊢;rw[hg];obtain⟨b,es,clock,h1,h2,h3,h4,h5,h6⟩:=h;exact⟨b,es,clock,h1,by rw[hb rfl b (by rw[h6];simp)];exact h2,h3,h4,h5,h6⟩
end mono
theorem Sg.ob_lt {σ:Sg}{id:Nat}{o:Ob}(h:σ.ob id=some o):id<σ.hp.length:=by
 unfold Sg.ob at h;cases hg:σ.hp[id]? with
 | none=>simp[hg]at h
 | some x=>exact(List.getElem?_eq_some_iff.1 hg).1
theorem ob_setHp (σ:Sg)(id i:Nat)(o:Option Ob):(setHp σ id o).ob i=if i=id∧id<σ.hp.length then o else σ.ob i:=by
 unfold setHp Sg.ob;simp only[List.getElem?_set];by_cases h:id=i
 ·subst h;by_cases hl:id<σ.hp.length
  ·simp[hl]
  ·simp[hl]
 ·simp[h,Ne.symm h]
theorem ob_addHp (σ:Sg)(i:Nat)(o:Ob):(addHp σ o).ob i=if i=σ.hp.length then some o else σ.ob i:=by
 unfold addHp Sg.ob;by_cases h:i=σ.hp.length
 ·subst h;simp
 ·rcases Nat.lt_or_gt_of_ne h with h' | h'
  ·simp only[h,if_false,List.getElem?_append_left h']
  ·simp only[h,if_false];rw[List.getElem?_eq_none (by simp;omega),List.getElem?_eq_none (by omega)]
@[simp] theorem setHp_len (σ:Sg) (id:Nat) (o:Option Ob):(setHp σ id o).hp.length=σ.hp.length:=by simp[setHp]
@[simp] theorem addHp_len (σ:Sg) (o:Ob):(addHp σ o).hp.length=σ.hp.length+1:=by simp[addHp]
@[simp] theorem setHp_env (σ:Sg) (id:Nat) (o:Option Ob):(setHp σ id o).env=σ.env:=rfl
@[simp] theorem addHp_env (σ:Sg) (o:Ob):(addHp σ o).env=σ.env:=rfl
theorem RelG.upd {E:En} {G G':Gh} {σ σ':Sg} {a:Act} {w w':World} (h:RelG E G σ a w)
  (henv:σ'.env=σ.env) (hn:σ.hp.length≤σ'.hp.length) (hG:∀id,id<σ.hp.length→(G' id).1=(G id).1)
  (os:w'.os=w.os) (tape:w'.tape=w.tape) (output:Out E.d w' w) (size:w.heap.size≤w'.heap.size)
  (frame:∀b,b<E.B→¬E.H b→w'.heap[b]? = w.heap[b]?)
  (himm:∀b,Imm E G σ w b→Imm E G' σ' w' b∧w'.heap[b]? = w.heap[b]?)
  (hobs:∀(id:Nat) (o:Ob),σ'.ob id=some o→OR (Imm E G' σ' w') σ'.hp.length G' w' id o)
  (hnd:∀(id:Nat) (o:Ob),σ'.ob id=some o→o.ro=false→(G' id).2.Nodup)
  (hrg:∀(id:Nat) (o:Ob),σ'.ob id=some o→o.ro=false→∀b∈(G' id).2,b<w'.heap.size∧(b<E.B→E.X b))
  (hhr:∀(id:Nat) (o:Ob),σ'.ob id=some o→o.ro=false→∀b,(G' id).2.head? = some b→b<E.B→E.H b)
  (hdj:∀(id id':Nat) (o o':Ob),σ'.ob id=some o→o.ro=false→σ'.ob id'=some o'→o'.ro=false→id≠id'→∀b∈(G' id).2,b∉(G' id').2) :
  RelG E G' σ' a w' :=
 {defers:=h.defers
  len:=by rw[henv];exact h.len
  env:=fun t x hx=>by
   rw[henv]at hx;exact(h.env t x hx).keep ⟨fun b hb=>(himm b hb).1,fun b hb=>(himm b hb).2,hn,hG⟩ x
  obs:=hobs
  nodup:=hnd
  range:=hrg
  hrange:=hhr
  disj:=hdj
  os:=os.trans h.os
  tape:=tape.trans h.tape
  output:=output.trans h.output
  size:=Nat.le_trans h.size size
  frame:=fun b hb hx=>(frame b hb hx).trans (h.frame b hb hx)
  xa:=h.xa
  fixd:=h.fixd }
theorem RelG.ext {E:En}{G:Gh}{σ:Sg}{a:Act}{w w':World}(h:RelG E G σ a w)(x:Ext w w'):RelG E G σ a w':=by
 have himm:∀b,Imm E G σ w b→Imm E G σ w' b∧w'.heap[b]? = w.heap[b]?:=fun b hb =>
  ⟨⟨Nat.lt_of_lt_of_le hb.1 x.size,hb.2⟩,x.block b hb.1⟩
 refine h.upd rfl (Nat.le_refl _) (fun _ _=>rfl) x.os x.tape x.output.to x.size (fun b hb _=>x.block b (Nat.lt_of_lt_of_le hb h.size)) himm
  (fun id o ho=>?_) h.nodup (fun id o ho hr b hb=>⟨Nat.lt_of_lt_of_le (h.range id o ho hr b hb).1 x.size,(h.range id o ho hr b hb).2⟩) h.hrange h.disj
 exact(h.obs id o ho).keep ⟨fun b hb=>(himm b hb).1,fun b hb=>(himm b hb).2,Nat.le_refl _,fun _ _=>rfl⟩ (Sg.ob_lt ho) rfl o
  fun hr b hb=>x.block b (h.range id o ho hr b hb).1
theorem RelG.chg {E:En} {G:Gh} {σ σ':Sg} {a:Act} {w w':World} (h:RelG E G σ a w) (ds:List Nat) (n:Nat) (o:Ob) (v:Value) (bs:List Nat)
  (hσ:∀i,σ'.ob i=if i=n then some o else if i∈ds then none else σ.ob i) (henv:σ'.env=σ.env) (hlen:σ.hp.length≤σ'.hp.length)
  (hn:n=σ.hp.length∨(n∈ds∧(G n).1=v)) (hro:o.ro=false)
  (os:w'.os=w.os) (tape:w'.tape=w.tape) (output:Out E.d w' w) (size:w.heap.size≤w'.heap.size)
  (hw:∀b,b<w.heap.size→(∀d∈ds,∀o',σ.ob d=some o'→o'.ro=false→(G d).2.head?≠some b)→w'.heap[b]? = w.heap[b]?)
  (hnd:bs.Nodup)
  (hbs:∀b∈bs,(w.heap.size≤b∧b<w'.heap.size)∨(b<w.heap.size∧∃d∈ds,∃o',σ.ob d=some o'∧o'.ro=false∧b∈(G d).2))
  (hhd:∀b,bs.head? = some b→w.heap.size≤b∨∃d∈ds,∃o',σ.ob d=some o'∧o'.ro=false∧(G d).2.head? = some b)
  (hor:∀(I:Nat→Prop) (G':Gh),Keep (Imm E G σ w) I σ.hp.length σ'.hp.length G G' w w'→G' n=(v,bs)→OR I σ'.hp.length G' w' n o) :
  ∃G',RelG E G' σ' a w'∧(G' n).1=v∧Keep (Imm E G σ w) (Imm E G' σ' w') σ.hp.length σ'.hp.length G G' w w':=by
 let G':Gh:=fun i=>if i=n then(v,bs)else G i
 have hGn:G' n=(v,bs):=by simp[G']
 have hGo:∀i,i≠n→G' i=G i:=fun i hi=>by simp[G',hi]
 have hG1:∀i,i<σ.hp.length→(G' i).1=(G i).1:=fun i hi=>by
  by_cases hin:i=n
  ·subst hin;rw[hGn];rcases hn with hn | hn
   ·omega
   ·exact hn.2.symm
  ·rw[hGo i hin]
 have hold:∀i o',σ'.ob i=some o'→i≠n→i∉ds∧σ.ob i=some o':=fun i o' ho' hi=>by
  rw[hσ i,if_neg hi]at ho';split at ho'
  ·simp at ho'
  ·exact⟨‹_›,ho'⟩
 have hnew:∀o',σ'.ob n=some o'→o'=o:=fun o' ho'=>by rw[hσ n,if_pos rfl]at ho';exact(Option.some.inj ho').symm
 have himm:∀b,Imm E G σ w b→Imm E G' σ' w' b∧w'.heap[b]? = w.heap[b]?:=fun b hb=>by
  refine⟨⟨Nat.lt_of_lt_of_le hb.1 size,hb.2.1,fun i o' ho' hr'=>?_⟩,hw b hb.1 fun d _ o' ho' hr'=>hb.2.2 d o' ho' hr'⟩;by_cases hin:i=n
  ·subst hin;rw[hGn];intro hh;rcases hhd b hh with h1 | ⟨d,_,o2,h2,h3,h4⟩
   ·have:=hb.1;omega
   ·exact hb.2.2 d o2 h2 h3 h4
  ·rw[hGo i hin];exact hb.2.2 i o' (hold i o' ho' hin).2 hr'
 have hk:Keep (Imm E G σ w) (Imm E G' σ' w') σ.hp.length σ'.hp.length G G' w w':=⟨fun b hb=>(himm b hb).1,fun b hb=>(himm b hb).2,hlen,hG1⟩;refine⟨G',?_,by rw[hGn],hk⟩
 refine h.upd henv hlen hG1 os tape output size (fun b hb hx=>hw b (Nat.lt_of_lt_of_le hb h.size) fun d _ o' ho' hr' hh=>hx (h.hrange d o' ho' hr' b hh hb)) himm
  (fun i o' ho'=>?_) (fun i o' ho' hr'=>?_) (fun i o' ho' hr' b hb=>?_) (fun i o' ho' hr' b hb hB=>?_) (fun i j o1 o2 h1 hr1 h2 hr2 hij b hb=>?_)
 ·by_cases hin:i=n
  ·subst hin;rw[hnew o' ho'];exact hor _ G' hk hGn
  ·obtain⟨hd,h2⟩:=hold i o' ho' hin;refine(h.obs i o' h2).keep hk (Sg.ob_lt h2) (hGo i hin) o' fun hr b hb=>hw b (h.range i o' h2 hr b hb).1 fun d hdm o3 h3 hr3 hh=>?_;exact h.disj i d o' o3 h2 hr h3 hr3 (fun e=>hd (e▸hdm)) b hb (List.mem_of_mem_head? hh)
 ·by_cases hin:i=n
  ·subst hin;rw[hGn];exact hnd
  ·rw[hGo i hin];exact h.nodup i o' (hold i o' ho' hin).2 hr'
 ·by_cases hin:i=n
  ·subst hin;rw[hGn]at hb;rcases hbs b hb with h1 | ⟨h0,d,_,o2,h2,h3,h4⟩
   ·exact⟨h1.2,fun hB=>by have:=h.size;omega⟩
   ·exact⟨Nat.lt_of_lt_of_le h0 size,(h.range d o2 h2 h3 b h4).2⟩
  ·rw[hGo i hin]at hb;have:=h.range i o' (hold i o' ho' hin).2 hr' b hb;exact⟨Nat.lt_of_lt_of_le this.1 size,this.2⟩
 ·by_cases hin:i=n
  ·subst hin;rw[hGn]at hb;rcases hhd b hb with h1 | ⟨d,hdm,o2,h2,h3,h4⟩
   ·have:=h.size;omega
   ·exact h.hrange d o2 h2 h3 b h4 hB
  ·rw[hGo i hin]at hb;exact h.hrange i o' (hold i o' ho' hin).2 hr' b hb hB
 ·have key:∀(i j:Nat) (o1 o2:Ob),σ'.ob i=some o1→o1.ro=false→i=n→σ'.ob j=some o2→o2.ro=false→j≠n→∀b∈bs,b∉(G j).2:=by
   intro i j o1 o2 h1 hr1 hi h2 hr2 hj b hb hbj;obtain⟨hd,h2'⟩:=hold j o2 h2 hj;rcases hbs b hb with h3 | ⟨_,d,hdm,o3,h3,h4,h5⟩
   ·have:=(h.range j o2 h2' hr2 b hbj).1;omega
   ·exact h.disj j d o2 o3 h2' hr2 h3 h4 (fun e=>hd (e▸hdm)) b hbj h5
  by_cases hin:i=n
  ·have hjn:j≠n:=fun e=>hij (hin.trans e.symm);rw[hGo j hjn];rw[hin,hGn]at hb;exact key i j o1 o2 h1 hr1 hin h2 hr2 hjn b hb
  ·rw[hGo i hin]at hb;by_cases hjn:j=n
   ·rw[hjn,hGn];intro hb';exact key j i o2 o1 h2 hr2 hjn h1 hr1 hin b hb' hb
   ·rw[hGo j hjn];exact h.disj i j o1 o2 (hold i o1 h1 hin).2 hr1 (hold j o2 h2 hjn).2 hr2 hij b hb
theorem RelG.add {E:En} {G:Gh} {σ:Sg} {a:Act} {w w':World} (h:RelG E G σ a w) (x:Ext w w') (o:Ob) (v:Value) (bs:List Nat) (hro:o.ro = false)
  (hnd:bs.Nodup) (hbs:∀b∈bs,w.heap.size≤b∧b<w'.heap.size)
  (hor:∀(I:Nat→Prop) (G':Gh),Keep (Imm E G σ w) I σ.hp.length (σ.hp.length+1) G G' w w'→G' σ.hp.length=(v,bs)→OR I (σ.hp.length+1) G' w' σ.hp.length o) :
  ∃G',RelG E G' (addHp σ o) a w'∧(G' σ.hp.length).1=v∧Keep (Imm E G σ w) (Imm E G' (addHp σ o) w') σ.hp.length (addHp σ o).hp.length G G' w w':=by
 refine h.chg [] σ.hp.length o v bs (fun i=>by rw[ob_addHp];simp) rfl (by simp) (.inl rfl) hro x.os x.tape x.output.to x.size (fun b hb _=>x.block b hb) hnd
  (fun b hb=>.inl (hbs b hb)) (fun b hb=>.inl (hbs b (List.mem_of_mem_head? hb)).1) (fun I G' k hG=>?_)
 rw[addHp_len]at k ⊢;exact hor I G' k hG
theorem RelG.put {E:En} {G:Gh} {σ:Sg} {a:Act} {w:World} (h:RelG E G σ a w) (d:Nat) {x:A} {v:Value}
  (hv:VA (Imm E G σ w) σ.hp.length G w x v) (hF:¬E.F d):RelG E G { σ with env:=σ.env.set d x } (a.put (some d) v) w:=by
 have hi:∀b,Imm E G { σ with env:=σ.env.set d x } w b↔Imm E G σ w b:=fun b=>Iff.rfl;refine{ h with len:=by simp[Act.put,h.len],env:=fun t y hy=>?_,defers:=h.defers,fixd:=fun t ht=>?_ }
 rotate_left
 ·have hne:d≠t:=fun e=>hF (e▸ht);have:(a.put (some d) v).tmps.getD t undef=a.tmps.getD t undef:=by
   simp[Act.put,Array.getElem?_setIfInBounds,hne]
  rw[this];exact h.fixd t ht
 show VA (Imm E G σ w) σ.hp.length G w y _;simp only[List.getElem?_set]at hy;by_cases ht:d=t
 ·subst ht;simp only[if_true]at hy;split at hy
  ·rename_i hlt;obtain rfl:=Option.some.inj hy;have:(a.put (some d) v).tmps.getD d undef=v:=by
    simp[Act.put,Array.getElem?_setIfInBounds,h.len,hlt]
   rw[this];exact hv
  ·simp at hy
 ·simp only[ht,if_false]at hy;have:(a.put (some d) v).tmps.getD t undef=a.tmps.getD t undef:=by
   simp[Act.put,Array.getElem?_setIfInBounds,ht]
  rw[this];exact h.env t y hy
theorem setK_eq {ρ:Type}:∀(l:List A) (n:Nat) (v:A) (k:List A→Option ρ),setK l n v k=k (l.set n v)
 | [],_,_,_=>rfl
 | _::_,0,_,_=>rfl
 | a::r,n+1,v,k=>by simp only[setK,List.set];exact setK_eq r n v _
open Go
set_option linter.all false
theorem castT_some {t t':Ty}{x:t.den}{y:t'.den}(h:castT t t' x=some y):∃e:t=t',e▸x=y:=by
 unfold castT at h;split at h
 ·rename_i e _;exact⟨e,by simpa using h⟩
 ·simp at h
def Acc (E:En)(w:World)(b:Nat):Prop:=b<w.heap.size∧(b<E.B→E.A b)
section
variable {E:En}{G:Gh}{σ:Sg}{a:Act}{w:World}
theorem Imm.acc {b:Nat}(h:Imm E G σ w b):Acc E w b:=⟨h.1,h.2.1⟩
theorem OwnV.rd {I S:Nat→Prop} {dp:Bool} {e:TypeId} {t:Ty} {x:List t.den} {v:Value} {bs:List Nat} (h:OwnV I w dp e t x v bs)
  (hI:∀b,I b→S b) (hb:∀b∈bs,S b):RdV S w (.list t) x v:=by
 obtain⟨hl,cells,bss,ho,hbs,h1,h2,hel⟩:=h;rcases ho.2 with⟨hv,hn⟩ | ⟨g,cap,cur,hv,hg,hh,hnc,hcm,hcs,htake⟩
 ·subst hv;refine⟨[.slice none 0 0],?_,rfl⟩;have hx:x=[]:=List.eq_nil_of_length_eq_zero hn;simp only[RdC];exact⟨none,0,0,rfl,by simp[hx],Nat.le_refl _,Nat.zero_le _,Nat.zero_le _,fun hne=>absurd hx hne⟩
 ·subst hv;refine⟨[.slice (some ⟨g,0,none⟩) x.length cap],?_,rfl⟩;simp only[RdC];refine⟨_,_,_,rfl,rfl,hnc,hcm,hl,fun hne=>⟨g,0,rfl,hb g (by rw[hbs];simp[Value.ownBlock]),fun i y hi=>?_⟩⟩
  obtain⟨ys,hy1,hy2,hy3⟩:=hel i y hi;have hil:i<x.length:=(List.getElem?_eq_some_iff.1 hi).1;refine⟨ys,hy1,fun j hj=>?_,?_⟩
  ·rw[←hy2 j hj,cell_of_row w g _ cur e (0,0) hh,Nat.zero_add,←htake,List.getElem?_take,if_pos,Array.getElem?_toList];calc i*t.wid+j<i*t.wid+t.wid:=by omega
    _=(i+1)*t.wid:=by rw[Nat.add_mul,Nat.one_mul]
    _≤x.length*t.wid:=Nat.mul_le_mul_right _ hil
  ·cases dp with
   | true =>
    simp only[if_true]at hy3;refine hy3.rd t fun b' hb'=>hb b' ?_;rw[hbs];cases hg:bss[i]? with
    | none=>simp[hg]at hb'
    | some l =>
     simp only[hg,Option.getD_some]at hb';exact List.mem_append_right _ (List.mem_flatten.2 ⟨l,List.mem_of_getElem? hg,hb'⟩)
   | false =>
    simp only[Bool.false_eq_true,if_false]at hy3;exact hy3.mono hI (fun _ _=>rfl) t
theorem RelG.ownRd (h:RelG E G σ a w) {id:Nat} {ro dp:Bool} {e:TypeId} {t:Ty} {x:List t.den} (ho:σ.ob id = some (.own ro dp e t x)) :
  RdV (Acc E w) w (.list t) x (G id).1:=by
 have hor:=h.obs id _ ho;cases ro with
 | true=>simp only[OR]at hor;exact hor.mono (fun b hb=>hb.acc) fun _ _=>rfl
 | false =>
  simp only[OR]at hor;exact hor.rd (fun b hb=>hb.acc) fun b hb=>⟨(h.range id _ ho rfl b hb).1,fun hB=>h.xa.a b ((h.range id _ ho rfl b hb).2 hB)⟩
theorem rdL_some {ρ:Type} {t:Ty} {x:L} {k:t.den→Option ρ} {r:ρ} {v:Value} (h:RelG E G σ a w) (hk:rdL σ t x k = some r)
  (hv:VL (Imm E G σ w) σ.hp.length G w x v):∃y,k y=some r∧RdV (Acc E w) w t y v ∧
   ((∀id,x≠.ref id)→RdV (Imm E G σ w) w t y v)∧(∀id,x=.ref id→∃ro dp e t' z,σ.ob id=some (.own ro dp e t' z)∧t=.list t'∧HEq z y):=by
 unfold rdL at hk;split at hk
 ·rename_i nn t' y;cases hc:castT t' t y with
  | none=>simp[hc]at hk
  | some z =>
   simp only[hc,Option.bind_some]at hk;obtain⟨e,rfl⟩:=castT_some hc;subst e;exact⟨_,hk,hv.1.mono (fun b hb=>hb.acc) fun _ _=>rfl,fun _=>hv.1,fun id hid=>by simp at hid⟩
 ·split at hk
  ·rename_i t' _;have:RdV (Imm E G σ w) w (.list t') [] v:=by
    simp only[VL]at hv;subst hv;refine⟨[.slice none 0 0],?_,rfl⟩;simp only[RdC];exact⟨none,0,0,rfl,rfl,Nat.le_refl _,Nat.zero_le _,Nat.zero_le _,fun hne=>absurd rfl hne⟩
   exact⟨_,hk,this.mono (fun b hb=>hb.acc) fun _ _=>rfl,fun _=>this,fun id hid=>by simp at hid⟩
  ·simp at hk
 ·rename_i id;split at hk
  ·rename_i ro dp e t' y ho;cases hc:castT (.list t') t y with
   | none=>simp[hc]at hk
   | some z =>
    simp only[hc,Option.bind_some]at hk;obtain⟨e',rfl⟩:=castT_some hc;subst e';refine⟨_,hk,?_,fun hn=>absurd rfl (hn id),fun id' hid'=>?_⟩
    ·have:=h.ownRd ho;simp only[VL]at hv;rw[hv.2.1];exact this
    ·simp only[L.ref.injEq]at hid';subst hid';exact⟨ro,dp,e,t',y,ho,rfl,HEq.rfl⟩
  ·simp at hk
 ·simp at hk
theorem RelG.freeze (h:RelG E G σ a w)(id:Nat)(o:Ob)(ho:σ.ob id=some o):RelG E G (setHp σ id (some o.freeze)) a w:=by
 have hlt:=Sg.ob_lt ho;have hob:∀i o',(setHp σ id (some o.freeze)).ob i=some o'→(i=id∧o'=o.freeze)∨(i≠id∧σ.ob i=some o'):=fun i o' ho'=>by
  rw[ob_setHp]at ho';split at ho'
  ·rename_i hc;exact .inl ⟨hc.1,(Option.some.inj ho').symm⟩
  ·rename_i hc;exact .inr ⟨fun e=>hc ⟨e,hlt⟩,ho'⟩
 have hro:o.freeze.ro=true:=by cases o<;>rfl
 have himm:∀b,Imm E G σ w b→Imm E G (setHp σ id (some o.freeze)) w b∧w.heap[b]? = w.heap[b]?:=fun b hb =>
  ⟨⟨hb.1,hb.2.1,fun i o' ho' hr'=>by
   rcases hob i o' ho' with⟨rfl,rfl⟩ | ⟨_,h2⟩
   ·rw[hro]at hr';simp at hr'
   ·exact hb.2.2 i o' h2 hr'⟩,rfl⟩
 have hk:Keep (Imm E G σ w) (Imm E G (setHp σ id (some o.freeze)) w) σ.hp.length (setHp σ id (some o.freeze)).hp.length G G w w :=
  ⟨fun b hb=>(himm b hb).1,fun b hb=>(himm b hb).2,by simp,fun _ _=>rfl⟩
 refine h.upd rfl (by simp) (fun _ _=>rfl) rfl rfl (.refl _) (Nat.le_refl _) (fun _ _ _=>rfl) himm (fun i o' ho'=>?_) (fun i o' ho' hr=>?_) (fun i o' ho' hr=>?_) (fun i o' ho' hr=>?_) (fun i j o1 o2 h1 hr1 h2 hr2=>?_)
 ·rcases hob i o' ho' with⟨rfl,rfl⟩ | ⟨hne,h2⟩
  ·have hor:=(h.obs i o ho).keep hk hlt rfl o fun _ _ _=>rfl;have hmine:o.ro=false→∀b∈(G i).2,Imm E G (setHp σ i (some o.freeze)) w b:=fun hr b hb=>by
    have hrg:=h.range i o ho hr b hb;refine⟨hrg.1,fun hB=>h.xa.a b (hrg.2 hB),fun j o' ho' hr' hhd=>?_⟩;rcases hob j o' ho' with⟨rfl,rfl⟩ | ⟨hne,h2⟩
    ·rw[hro]at hr';simp at hr'
    ·exact h.disj j i o' o h2 hr' ho hr hne b (List.mem_of_mem_head? hhd) hb
   cases o with
   | own ro dp e t x =>
    cases ro with
    | true=>exact hor
    | false =>
     simp only[OR]at hor;simp only[Ob.freeze,OR];exact hor.rd (fun b hb=>hb) (hmine rfl)
   | box ro e cs =>
    simp only[OR]at hor;simp only[Ob.freeze,OR];obtain⟨b,arr,h1,h2,h3,h4⟩:=hor;refine⟨b,arr,h1,h2,h3,?_⟩;simp only[if_true];cases ro with
    | true=>simp only[if_true]at h4;exact h4
    | false=>exact hmine rfl b (by simp only[Bool.false_eq_true,if_false]at h4;rw[h4];simp)
   | mp ro n xs=>simp only[Ob.freeze,OR]
  ·exact(h.obs i o' h2).keep hk (Sg.ob_lt h2) rfl o' fun _ _ _=>rfl
 ·rcases hob i o' ho' with⟨rfl,rfl⟩ | ⟨_,h2⟩
  ·rw[hro]at hr;simp at hr
  ·exact h.nodup i o' h2 hr
 ·rcases hob i o' ho' with⟨rfl,rfl⟩ | ⟨_,h2⟩
  ·rw[hro]at hr;simp at hr
  ·exact h.range i o' h2 hr
 ·rcases hob i o' ho' with⟨rfl,rfl⟩ | ⟨_,h2⟩
  ·rw[hro]at hr;simp at hr
  ·exact h.hrange i o' h2 hr
 ·rcases hob i o1 h1 with⟨rfl,rfl⟩ | ⟨_,h1'⟩
  ·rw[hro]at hr1;simp at hr1
  ·rcases hob j o2 h2 with⟨rfl,rfl⟩ | ⟨_,h2'⟩
   ·rw[hro]at hr2;simp at hr2
   ·exact h.disj i j o1 o2 h1' hr1 h2' hr2
theorem RelG.freezeL (h:RelG E G σ a w)(x:L):RelG E G (freezeL σ x) a w:=by
 unfold Eng.freezeL;split
 ·split
  ·rename_i ho;exact h.freeze _ _ ho
  ·exact h
 ·exact h
theorem freezeL_len (σ:Sg)(x:L):(freezeL σ x).hp.length=σ.hp.length:=by
 unfold freezeL;split
 ·split<;>simp
 ·rfl
end
open Go
set_option linter.all false
structure Kp (σ σ':Sg):Prop where
 env:σ'.env=σ.env
 n:σ.hp.length≤σ'.hp.length
 ob:∀id o,σ.ob id=some o→o.ro=true→σ'.ob id=some o
theorem Kp.refl (σ:Sg):Kp σ σ:=⟨rfl,Nat.le_refl _,fun _ _ h _=>h⟩
theorem Kp.trans {a b c:Sg}(h:Kp a b)(k:Kp b c):Kp a c :=
 ⟨k.env.trans h.env,Nat.le_trans h.n k.n,fun id o ho hr=>k.ob id o (h.ob id o ho hr) hr⟩
theorem Kp.set {σ:Sg}{id:Nat}{o:Ob}(n:Option Ob)(h:σ.ob id=some o)(hr:o.ro=false):Kp σ (setHp σ id n) :=
 ⟨rfl,by simp,fun i o' ho' hr'=>by
  rw[ob_setHp];split
  ·rename_i hc;rw[hc.1,h]at ho';obtain rfl:=Option.some.inj ho';simp[hr]at hr'
  ·exact ho'⟩
theorem Kp.add (σ:Sg)(o:Ob):Kp σ (addHp σ o) :=
 ⟨rfl,by simp,fun i o' ho' hr'=>by
  rw[ob_addHp];split
  ·rename_i hc;have:=Sg.ob_lt ho';omega
  ·exact ho'⟩
theorem Kp.freeze {σ:Sg}{id:Nat}{o:Ob}(h:σ.ob id=some o):Kp σ (setHp σ id (some o.freeze)) :=
 ⟨rfl,by simp,fun i o' ho' hr'=>by
  rw[ob_setHp];split
  ·rename_i hc;rw[hc.1,h]at ho';obtain rfl:=Option.some.inj ho';cases o with
   | own ro _ _ _ _=>simp only[Ob.ro]at hr';subst hr';rfl
   | box ro _ _=>simp only[Ob.ro]at hr';subst hr';rfl
   | mp ro _ _=>simp only[Ob.ro]at hr';subst hr';rfl
  ·exact ho'⟩
theorem Kp.freezeL (σ:Sg)(x:L):Kp σ (freezeL σ x):=by
 unfold Eng.freezeL;split
 ·split
  ·rename_i h;exact Kp.freeze h
  ·exact Kp.refl _
 ·exact Kp.refl _
section
variable {ρ:Type}{C:Ctx}{E:En}{G:Gh}{σ:Sg}{a:Act}{w:World}
def OpOut (C:Ctx)(E:En)(G:Gh)(σ:Sg)(a:Act)(w:World)(k:A→Sg→Option ρ)(r:ρ)(x:Result Next):Prop :=
 ∃v σ',k v σ'=some r∧Kp σ σ' ∧
  match x with
  | .ok (.value val) w'=>∃G',RelG E G' σ' a w'∧GA E σ σ' G G' w w'∧VA (Imm E G' σ' w') σ'.hp.length G' w' v val
  | .ok .skip w'=>v=.l .unk∧∃G',RelG E G' σ' a w'∧GA E σ σ' G G' w w'
  | .ok (.enter f args) w'=>Calls C.P f args w' fun e w''=>∃val,e=.returned val∧∃G',RelG E G' σ' a w''∧GA E σ σ' G G' w w''∧VA (Imm E G' σ' w'') σ'.hp.length G' w'' v val
  | _=>False
theorem OpOut.val {k:A→Sg→Option ρ} {r:ρ} {v:A} {val:Value} (h:RelG E G σ a w) (hk:k v σ = some r)
  (hv:VA (Imm E G σ w) σ.hp.length G w v val):OpOut C E G σ a w k r (.ok (.value val) w) :=
 ⟨v,σ,hk,Kp.refl σ,G,h,GA.refl _ _ _ _,hv⟩
theorem ofConst_VA (I:Nat→Prop)(N:Nat)(G:Gh)(w:World)(v:Value):VA I N G w (ofConst v) v:=by
 unfold ofConst;split
 ·exact⟨RdV_int.2 rfl,fun _=>trivial⟩
 ·exact⟨RdV_bool.2 rfl,fun _=>trivial⟩
 ·split
  ·rename_i hs;exact⟨RdV_str.2 ⟨rfl,hs⟩,fun _=>trivial⟩
  ·trivial
 ·rfl
 ·trivial
theorem RelG.get (h:RelG E G σ a w)(x:Operand):VA (Imm E G σ w) σ.hp.length G w (getA σ x) (a.eval x):=by
 cases x with
 | tmp t =>
  simp only[getA,Act.eval];cases ht:σ.env[t]? with
  | none=>simp[List.getD,ht,VA,VL]
  | some y=>simp only[List.getD,ht,Option.getD_some];exact h.env t y ht
 | const v=>exact ofConst_VA _ _ _ _ v
 | func f=>rfl
 | global g=>trivial
theorem datInt {kd:IntKind}{nn:Bool}{n:Int}{v:Value}{I:Nat→Prop}{N:Nat}(h:VA I N G w (.l (.dat nn (.int kd) n)) v):v=.int kd n:=RdV_int.1 h.1
theorem datBool {nn:Bool}{b:Bool}{v:Value}{I:Nat→Prop}{N:Nat}(h:VA I N G w (.l (.dat nn .bool b)) v):v=.bool b:=RdV_bool.1 h.1
theorem datStr {nn:Bool}{s:ByteArray}{v:Value}{I:Nat→Prop}{N:Nat}(h:VA I N G w (.l (.dat nn .str s)) v):v=.string s∧s.size≤lim:=RdV_str.1 h.1
theorem intVA {kd:IntKind}{nn:Bool}{n:Int}{I:Nat→Prop}{N:Nat}:VA I N G w (.l (.dat nn (.int kd) n)) (.int kd n):=⟨RdV_int.2 rfl,fun _=>trivial⟩
theorem boolVA {nn:Bool}{b:Bool}{I:Nat→Prop}{N:Nat}:VA I N G w (.l (.dat nn .bool b)) (.bool b):=⟨RdV_bool.2 rfl,fun _=>trivial⟩
theorem unK_some {op:UnOp} {x:A} {k:A→Option ρ} {r:ρ} {v:Value} {I:Nat→Prop} {N:Nat} (hk:unK op x k = some r) (hv:VA I N G w x v) :
  ∃y u,k y=some r∧(Op.unary op v).run C.P w=.ok u w∧VA I N G w y u:=by
 unfold unK at hk;split at hk
 ·have:=datInt hv;subst this;exact⟨_,_,hk,by simp[Op.unary,Op.intArith],intVA⟩
 ·have:=datBool hv;subst this;exact⟨_,_,hk,by simp[Op.unary],boolVA⟩
 ·simp at hk
theorem intOp_some {op:BinOp} {kd:IntKind} {p q:Int} {k:A→Option ρ} {r:ρ} {I:Nat→Prop} {N:Nat} (hk:intOpK op kd p q k = some r) (hs:op≠.shl) (hs':op≠.shr) :
  ∃y u,k y=some r∧∀t,(binOp op t (.int kd p) (.int kd q)).run C.P w=.ok u w∧VA I N G w y u:=by
 unfold intOpK at hk;split at hk
 case h_1=>exact⟨_,_,hk,fun t=>⟨by simp[binOp,Op.intArith],intVA⟩⟩
 case h_2=>exact⟨_,_,hk,fun t=>⟨by simp[binOp,Op.intArith],intVA⟩⟩
 case h_3=>exact⟨_,_,hk,fun t=>⟨by simp[binOp,Op.intArith],intVA⟩⟩
 case h_4 =>
  unfold quoI at hk;split at hk
  ·simp at hk
  ·rename_i hq;exact⟨_,_,hk,fun t=>⟨by simp[binOp,Op.intDiv,hq],intVA⟩⟩
 case h_5 =>
  unfold remI at hk;split at hk
  ·simp at hk
  ·rename_i hq;exact⟨_,_,hk,fun t=>⟨by simp[binOp,Op.intDiv,hq],intVA⟩⟩
 case h_6=>exact⟨_,_,hk,fun t=>⟨by simp[binOp,Op.intBits,andI],intVA⟩⟩
 case h_7=>exact⟨_,_,hk,fun t=>⟨by simp[binOp,Op.intBits,orI],intVA⟩⟩
 case h_8=>exact⟨_,_,hk,fun t=>⟨by simp[binOp,Op.intBits,xorI],intVA⟩⟩
 case h_9=>exact⟨_,_,hk,fun t=>⟨by simp[binOp,Op.intCmp],boolVA⟩⟩
 case h_10=>exact⟨_,_,hk,fun t=>⟨by simp[binOp,Op.intCmp],boolVA⟩⟩
 case h_11=>exact⟨_,_,hk,fun t=>⟨by simp[binOp,Op.intCmp],boolVA⟩⟩
 case h_12=>exact⟨_,_,hk,fun t=>⟨by simp[binOp,Op.intCmp],boolVA⟩⟩
 case h_13=>exact⟨_,_,hk,fun t=>⟨by simp[binOp,Op.intCmp],boolVA⟩⟩
 case h_14=>exact⟨_,_,hk,fun t=>⟨by simp[binOp,Op.intCmp],boolVA⟩⟩
 case h_15=>simp at hk
end
open Go
set_option linter.all false
section
variable {ρ:Type}{C:Ctx}{E:En}{G:Gh}{σ:Sg}{a:Act}{w:World}
theorem elT_some {t e:TypeId}(h:elT C t=some e):C.P.underlying t=some (.slice e):=by
 unfold elT at h;split at h
 ·rename_i e' he;obtain rfl:=Option.some.inj h;exact he
 ·simp at h
theorem szT_some {t:TypeId}{n:Nat}(h:szT C t=some n):∃i,C.P.info? t=some i∧i.size=n:=by
 unfold szT at h;cases hi:C.P.info? t with
 | none=>simp[hi]at h
 | some i=>simp[hi]at h;exact⟨i,rfl,h⟩
theorem byT_some {t:TypeId}{n:Nat}(h:byT C t=some n):∃i,C.P.info? t=some i∧i.bytes=n:=by
 unfold byT at h;cases hi:C.P.info? t with
 | none=>simp[hi]at h
 | some i=>simp[hi]at h;exact⟨i,rfl,h⟩
theorem run_sizeOf {t:TypeId}{n:Nat}(h:szT C t=some n)(w:World):(sizeOf t).run C.P w=.ok n w:=by
 obtain⟨i,hi,rfl⟩:=szT_some h;simp[sizeOf,typeInfo,hi]
theorem isAggT_run {t:TypeId}{b:Bool}(h:isAggT C t=some b)(w:World):(isAgg t).run C.P w=.ok b w:=by
 unfold isAggT at h;cases hu:C.P.underlying t with
 | none=>simp[hu]at h
 | some d =>
  unfold isAgg;rw[Sem.run_bind,run_underlying hu w];cases d<;>simp_all
theorem eqGuard_int {op:BinOp}{t:TypeId}{x y:Operand}{k k':IntKind}{p q:Int}:(eqGuard op t x y (.int k p) (.int k' q)).run C.P w=.ok () w:=by
 unfold eqGuard;cases op<;>simp
theorem eqGuard_bool {op:BinOp}{t:TypeId}{x y:Operand}{p q:Bool}:(eqGuard op t x y (.bool p) (.bool q)).run C.P w=.ok () w:=by
 unfold eqGuard;cases op<;>simp
theorem eqGuard_str {op:BinOp}{t:TypeId}{x y:Operand}{p q:ByteArray}:(eqGuard op t x y (.string p) (.string q)).run C.P w=.ok () w:=by
 unfold eqGuard;cases op<;>simp
theorem eqGuard_slice {op:BinOp}{t:TypeId}{x y:Operand}{p q:Option Addr}{n c n' c':Nat}:(eqGuard op t x y (.slice p n c) (.slice q n' c')).run C.P w=.ok () w:=by
 unfold eqGuard;cases op<;>simp
theorem neq_bool (t:TypeId)(p q:Bool)(h:C.P.underlying t=some .bool):(binOp .neq t (.bool p) (.bool q)).run C.P w=.ok (.bool (!(p==q))) w:=by
 simp[binOp,run_equal_bool w t p q h]
theorem RdV_list {S:Nat→Prop} {t:Ty} {x:List t.den} {v:Value} (h:RdV S w (.list t) x v):∃ p c,v = .slice p x.length c∧x.length≤c∧c≤maxLen∧x.length≤lim ∧
  (x≠[]→∃b o,p=some ⟨b,o,none⟩∧S b∧∀i y,x[i]? = some y→∃ys,ys.length=t.wid∧(∀j,j<t.wid→w.cell? ⟨b,o+i*t.wid+j,none⟩=ys[j]?)∧RdC S w t y ys):=by
 obtain⟨cs,h1,rfl⟩:=h;simp only[RdC]at h1;obtain⟨p,n,c,rfl,rfl,h2,h3,h4,h5⟩:=h1;exact⟨p,c,rfl,h2,h3,h4,h5⟩
theorem nne_slice {S:Nat→Prop}{t:Ty}{x:List t.den}{v:Value}(h:RdV S w (.list t) x v)(hx:x≠[]):∃ad c,v=.slice (some ad) x.length c:=by
 obtain⟨p,c,rfl,_,_,_,h5⟩:=RdV_list h;obtain⟨b,o,rfl,_⟩:=h5 hx;exact⟨_,_,rfl⟩
theorem eql_nil (t e:TypeId) (p:Option Addr) (n c:Nat) (h:C.P.underlying t = some (.slice e)) :
  (binOp .eql t (.slice p n c) (.slice none 0 0)).run C.P w=.ok (.bool p.isNone) w:=by
 simp only[binOp];simp[run_equal_slice_nil w t e p n c h]
theorem neq_nil (t e:TypeId) (p:Option Addr) (n c:Nat) (h:C.P.underlying t = some (.slice e)) :
  (binOp .neq t (.slice p n c) (.slice none 0 0)).run C.P w=.ok (.bool (!p.isNone)) w:=by
 simp only[binOp];simp[run_equal_slice_nil w t e p n c h]
theorem nneD_some {α β:Type}{x:List α}{k:Unit→Option β}{r:β}(h:(nneD x).bind k=some r):x≠[]∧k ()=some r:=by
 unfold nneD at h;split at h
 ·simp at h
 ·rename_i hx;exact⟨by simpa using hx,h⟩
theorem nilK_some {x:L} {k:Bool→Option ρ} {r:ρ} {v:Value} (h:RelG E G σ a w) (hk:nilK σ x k = some r) (hv:VL (Imm E G σ w) σ.hp.length G w x v) :
  ∃p n c,v=.slice p n c∧k p.isNone=some r:=by
 unfold nilK at hk;split at hk
 ·simp only[VL]at hv;subst hv;exact⟨none,0,0,rfl,hk⟩
 ·rename_i t y;obtain⟨p,c,rfl,_,_,_,h5⟩:=RdV_list hv.1;refine⟨p,_,c,rfl,?_⟩;by_cases hy:y=[]
  ·have:=hv.2 rfl hy;simp only[Value.slice.injEq]at this;rw[this.1];subst hy;exact hk
  ·obtain⟨b,o,rfl,_⟩:=h5 hy;have:List.isEmpty y=false:=by cases y with
    | nil=>exact absurd rfl hy
    | cons _ _=>rfl
   rw[this]at hk;exact hk
 ·obtain⟨hy,hk⟩:=nneD_some hk;obtain⟨ad,c,rfl⟩:=nne_slice hv.1 hy;exact⟨some ad,_,c,rfl,hk⟩
 ·split at hk
  ·rename_i ho;obtain⟨hy,hk⟩:=nneD_some hk;obtain⟨ad,c,he⟩:=nne_slice (h.ownRd ho) hy;exact⟨some ad,_,c,by simp only[VL]at hv;rw[hv.2.1,he],hk⟩
  ·simp at hk
 ·simp at hk
theorem run_cat (t:TypeId)(p q:ByteArray)(h:p.size+q.size≤lim):(binOp .add t (.string p) (.string q)).run C.P w=.ok (.string (p++q)) w:=by
 unfold lim at h;simp[binOp,Op.stringOp,IntKind.max,IntKind.signed,IntKind.bits];omega
theorem binK_some {op:BinOp} {t:TypeId} {x y:A} {k:A→Option ρ} {r:ρ} {v u:Value} (h:RelG E G σ a w) (hk:binK C op t σ x y k = some r)
  (hv:VA (Imm E G σ w) σ.hp.length G w x v) (hu:VA (Imm E G σ w) σ.hp.length G w y u) :
  ∃z s,k z=some r∧(∀X Y,(eqGuard op t X Y v u).run C.P w=.ok () w)∧(binOp op t v u).run C.P w=.ok s w∧VA (Imm E G σ w) σ.hp.length G w z s:=by
 unfold binK at hk;split at hk
 ·have h1:=datInt hv;have h2:=datInt hu;subst h1;subst h2
  split at hk
  ·unfold shlI at hk;split at hk
   ·simp at hk
   ·rename_i hb;exact⟨_,_,hk,fun X Y=>eqGuard_int,by simp[binOp,Op.shift,hb],intVA⟩
  ·unfold shrI at hk;split at hk
   ·simp at hk
   ·rename_i hb;exact⟨_,_,hk,fun X Y=>eqGuard_int,by simp[binOp,Op.shift,hb],intVA⟩
  ·rename_i n1 n2;split at hk
   ·rename_i he;subst he;obtain⟨z,s,hz,hs⟩:=intOp_some (C:=C) (G:=G) (w:=w) (I:=Imm E G σ w) (N:=σ.hp.length) hk (fun e=>n1 e) (fun e=>n2 e);exact⟨z,s,hz,fun X Y=>eqGuard_int,(hs t).1,(hs t).2⟩
   ·simp at hk
 ·obtain⟨h1,h1'⟩:=datStr hv;obtain⟨h2,h2'⟩:=datStr hu;subst h1;subst h2;split at hk
  ·unfold catS at hk;split at hk
   ·rename_i hb;exact⟨_,_,hk,fun X Y=>eqGuard_str,run_cat t _ _ hb,RdV_str.2 ⟨rfl,by simpa using hb⟩,fun _=>trivial⟩
   ·simp at hk
  ·exact⟨_,_,hk,fun X Y=>eqGuard_str,by simp[binOp,Op.stringOp],boolVA⟩
  ·exact⟨_,_,hk,fun X Y=>eqGuard_str,by simp[binOp,Op.stringOp],boolVA⟩
  ·simp at hk
 ·have h1:=datBool hv;have h2:=datBool hu;subst h1;subst h2
  split at hk
  ·rename_i hb;split at hk
   ·exact⟨_,_,hk,fun X Y=>eqGuard_bool,run_eql_bool w t _ _ hb,boolVA⟩
   ·exact⟨_,_,hk,fun X Y=>eqGuard_bool,neq_bool t _ _ hb,boolVA⟩
   ·simp at hk
  ·simp at hk
 ·split at hk
  ·rename_i e he;simp only[VA,VL]at hu;subst hu;split at hk
   ·obtain⟨p,n,c,rfl,hk⟩:=nilK_some h hk hv;exact⟨_,_,hk,fun X Y=>eqGuard_slice,eql_nil t e p n c (elT_some he),boolVA⟩
   ·obtain⟨p,n,c,rfl,hk⟩:=nilK_some h hk hv;exact⟨_,_,hk,fun X Y=>eqGuard_slice,neq_nil t e p n c (elT_some he),boolVA⟩
   ·simp at hk
  ·simp at hk
 ·simp at hk
theorem max2K_some {op:Bool} {x y:A} {k:A→Option ρ} {r:ρ} {v u:Value} {I:Nat→Prop} {N:Nat} (hk:max2K op x y k = some r)
  (hv:VA I N G w x v) (hu:VA I N G w y u):∃z s,k z=some r∧(∀ts ty,((if op then Builtin.max_ else Builtin.min_) ts ty #[v,u]).run C.P w=.ok s w)∧VA I N G w z s:=by
 unfold max2K at hk;split at hk
 ·have h1:=datInt hv;have h2:=datInt hu;subst h1;subst h2
  refine⟨_,_,hk,fun ts ty=>?_,intVA⟩;cases op<;>simp[Builtin.max_,Builtin.min_,Builtin.max2,Builtin.min2]
 ·simp at hk
theorem extractK_some {x:A} {i:Nat} {k:A→Option ρ} {r:ρ} {v:Value} {I:Nat→Prop} {N:Nat} (hk:extractK x i k = some r) (hv:VA I N G w x v) :
  ∃z s,k z=some r∧(Instr.extract v i).run C.P w=.ok s w∧VA I N G w z s:=by
 unfold extractK at hk;split at hk
 ·rename_i vs;obtain⟨us,rfl,hus⟩:=hv;have key:∀(vs:List (Bool×List L)) (us:List Value) (i:Nat) (p:Bool×List L),VPs I N G w vs us→vs[i]? = some p→∃u,us[i]? = some u∧VP I N G w p u:=by
   intro vs;induction vs with
   | nil=>intro us i p _ hp;simp at hp
   | cons q vs ih =>
    intro us i p hus hp;cases us with
    | nil=>exact hus.elim
    | cons u us =>
     cases i with
     | zero=>simp at hp;subst hp;exact⟨u,rfl,hus.1⟩
     | succ i=>simp at hp ⊢;exact ih us i p hus.2 hp
  split at hk
  ·rename_i ls hi;obtain⟨u,hu,hp⟩:=key vs us i _ hus hi;obtain⟨as,rfl,has⟩:=hp;exact⟨_,_,hk,by simp[Instr.extract,hu],as,rfl,has⟩
  ·rename_i l hi;obtain⟨u,hu,hp⟩:=key vs us i _ hus hi;obtain⟨l',hl',has⟩:=hp;simp only[List.cons.injEq,and_true]at hl';subst hl';exact⟨_,_,hk,by simp[Instr.extract,hu],has⟩
  ·simp at hk
 ·simp at hk
end
open Go
set_option linter.all false
section
variable {ρ:Type}{C:Ctx}{E:En}{G:Gh}{σ:Sg}{a:Act}{w:World}
theorem add_none (b o n:Nat):(⟨b,o,none⟩:Addr).add n=⟨b,o+n,none⟩:=by
 unfold Addr.add;split<;>simp_all
theorem fieldK_some {I:Nat→Prop}:∀ (n:Nat) (t:Ty) (y:t.den) (i off:Nat) (cs:List Value) {k:(t':Ty)→t'.den→Nat→Option ρ} {r:ρ},
  fieldK n t y i off k=some r→RdC I w t y cs→∃t' y' d cs',k t' y' (off+d)=some r∧d+t'.wid≤t.wid∧RdC I w t' y' cs'∧∀j,j<t'.wid→cs'[j]? = cs[d+j]?
 | 0,_,_,_,_,_,_,_,hk,_=>by simp[fieldK]at hk
 | 1,t,y,0,off,cs,k,r,hk,hr=>by
  simp only[fieldK]at hk;exact⟨t,y,0,cs,hk,by simp,hr,fun j _=>by simp⟩
 | 1,t,y,i+1,off,cs,k,r,hk,hr=>by simp[fieldK]at hk
 | n+2,.prod p q,y,0,off,cs,k,r,hk,hr=>by
  simp only[fieldK]at hk;simp only[RdC]at hr;obtain⟨c1,c2,rfl,h1,h2⟩:=hr;have hl:=h1.length;refine⟨p,y.1,0,c1,hk,by simp[Ty.wid],h1,fun j hj=>?_⟩
  rw[Nat.zero_add,List.getElem?_append_left (by omega)]
 | n+2,.prod p q,y,i+1,off,cs,k,r,hk,hr=>by
  simp only[fieldK]at hk;simp only[RdC]at hr;obtain⟨c1,c2,rfl,h1,h2⟩:=hr;have hl:=h1.length;obtain⟨t',y',d,cs',hk',hd,hr',hc⟩:=fieldK_some (n+1) q y.2 i (off+p.wid) c2 hk h2;refine⟨t',y',p.wid+d,cs',by rw[←Nat.add_assoc];exact hk',by simp only[Ty.wid];omega,hr',fun j hj=>?_⟩
  rw[hc j hj,List.getElem?_append_right (by omega)]
  congr 1;omega
 | n+2,.int _,_,_,_,_,_,_,hk,_=>by simp[fieldK]at hk
 | n+2,.bool,_,_,_,_,_,_,hk,_=>by simp[fieldK]at hk
 | n+2,.str,_,_,_,_,_,_,hk,_=>by simp[fieldK]at hk
 | n+2,.list _,_,_,_,_,_,_,hk,_=>by simp[fieldK]at hk
theorem fieldAddrK_some {s:TypeId} {f:Nat} {x:A} {k:A→Option ρ} {r:ρ} {v:Value} {I:Nat→Prop} {N:Nat} (hk:fieldAddrK C s f x k = some r) (hv:VA I N G w x v) :
  ∃z u,k z=some r∧(Instr.fieldAt s v f).run C.P w=.ok u w∧VA I N G w z u:=by
 unfold fieldAddrK at hk;split at hk
 ·rename_i fs hfs;split at hk
  ·rename_i fd hfd;split at hk
   ·rename_i n hsz;have hso:=run_sizeOf hsz w;split at hk
    ·rename_i id j;obtain⟨hid,b,hg,rfl⟩:=hv;refine⟨_,.pointer (some ⟨b,j+fd.offset,none⟩),hk,?_,hid,b,hg,rfl⟩;simp[Instr.fieldAt,run_underlying hfs,hfd,Instr.sureAddr,fieldPlace,hso,add_none]
    ·rename_i t y;obtain⟨b,o,cs,rfl,hb,hc,hr⟩:=hv;obtain⟨t',y',d,cs',hk',hd,hr',hc'⟩:=fieldK_some _ _ _ _ _ _ hk hr;split at hk'
     ·rename_i he;rw[Nat.zero_add]at he;refine⟨_,.pointer (some ⟨b,o+fd.offset,none⟩),hk',?_,b,o+fd.offset,cs',rfl,hb,fun j hj=>?_,hr'⟩
      ·simp[Instr.fieldAt,run_underlying hfs,hfd,Instr.sureAddr,fieldPlace,hso,add_none]
      ·rw[hc' j hj,←he,Nat.add_assoc];exact hc (d+j) (by omega)
     ·simp at hk'
    ·simp at hk
   ·simp at hk
  ·simp at hk
 ·simp at hk
theorem idx_some {α β:Type}{xs:List α}{i:Int}{k:α→Option β}{r:β}(h:(idx xs i).bind k=some r):∃y,0≤i∧i<xs.length∧xs[i.toNat]? = some y∧k y=some r:=by
 unfold idx at h;split at h
 ·rename_i h0;cases hx:xs[i.toNat]? with
  | none=>simp[hx]at h
  | some y =>
   have hl:=(List.getElem?_eq_some_iff.1 hx).1;exact⟨y,h0,by omega,rfl,by simpa[hx]using h⟩
 ·simp at h
theorem index_dat {I:Nat→Prop} {N:Nat} {t e:TypeId} {ty:Ty} {xs:List ty.den} {y:ty.den} {i:Int} {kd:IntKind} {v:Value} (hut:C.P.underlying t = some (.slice e))
  (hsz:szT C e=some ty.wid) (h0:0≤i) (h1:i<xs.length) (hy:xs[i.toNat]? = some y) (hv:RdV I w (.list ty) xs v) :
  ∃s,(Instr.indexAt t v (.int kd i)).run C.P w=.ok s w∧VA I N G w (.l (.cptr ty y)) s:=by
 obtain⟨p,c,rfl,hc1,hc2,hc3,hc4⟩:=RdV_list hv;obtain⟨b,o,rfl,hb,hel⟩:=hc4 (by intro hn;rw[hn]at h1;simp at h1;omega)
 obtain⟨ys,hy1,hy2,hy3⟩:=hel _ _ hy;refine⟨.pointer (some ⟨b,o+i.toNat*ty.wid,none⟩),?_,b,o+i.toNat*ty.wid,ys,rfl,hb,hy2,hy3⟩;simp[Instr.indexAt,run_underlying hut,asIntOf,h0,h1,run_sizeOf hsz,add_none]
theorem indexAddrK_some {t:TypeId} {x i:A} {k:A→Option ρ} {r:ρ} {v u:Value} (h:RelG E G σ a w) (hk:indexAddrK C σ t x i k = some r)
  (hv:VA (Imm E G σ w) σ.hp.length G w x v) (hu:VA (Imm E G σ w) σ.hp.length G w i u) :
  ∃z s,k z=some r∧(Instr.indexAt t v u).run C.P w=.ok s w∧VA (Imm E G σ w) σ.hp.length G w z s:=by
 unfold indexAddrK at hk;split at hk
 ·rename_i e _ _ i he;have hut:=elT_some he;have:=datInt hu;subst this;split at hk
  ·rename_i nn ty xs;split at hk
   ·rename_i hsz;obtain⟨y,h0,h1,hy,hk⟩:=idx_some hk;obtain⟨s,hs1,hs2⟩:=index_dat (C:=C) (G:=G) (N:=σ.hp.length) (kd:=_) hut hsz h0 h1 hy hv.1;exact⟨_,s,hk,hs1,hs2⟩
   ·simp at hk
  ·rename_i id;obtain⟨hid,rfl,_⟩:=hv;split at hk
   ·rename_i dp e' ty xs ho;split at hk
    ·rename_i hsz;have hor:=h.obs id _ ho;simp only[OR]at hor;obtain⟨y,h0,h1,hy,hk⟩:=idx_some hk;obtain⟨s,hs1,hs2⟩:=index_dat (C:=C) (G:=G) (N:=σ.hp.length) (kd:=_) hut hsz h0 h1 hy hor;exact⟨_,s,hk,hs1,hs2⟩
    ·simp at hk
   ·rename_i dp e' ty xs ho;split at hk
    ·rename_i hsz;unfold inIdx at hk;split at hk
     ·rename_i hin;simp only[Option.bind_some]at hk;have hor:=h.obs id _ ho;have hg:∃b n c,(G id).1=.slice (some ⟨b,0,none⟩) n c∧n=xs.length:=by
       simp only[OR]at hor;obtain⟨_,cells,bss,how,_⟩:=hor;rcases how.2 with⟨_,hn⟩ | ⟨g,cap,cur,hg,_⟩
       ·rw[hn]at hin;simp at hin;omega
       ·exact⟨g,_,cap,hg,rfl⟩
      obtain⟨b,n,c,hg,rfl⟩:=hg;refine⟨_,.pointer (some ⟨b,i.toNat*ty.wid,none⟩),hk,?_,hid,b,_,c,hg,rfl⟩;rw[hg];simp[Instr.indexAt,run_underlying hut,asIntOf,hin.1,hin.2,run_sizeOf hsz,add_none]
     ·simp at hk
    ·simp at hk
   ·simp at hk
  ·rename_i id wid l m;split at hk
   ·rename_i hsz;obtain⟨hid,p,n,c,hG,rfl,hmn,hnc,hp⟩:=hv;unfold inIdx at hk;split at hk
    ·rename_i hin;simp only[Option.bind_some]at hk;obtain⟨b,rfl⟩:=hp (by omega)
     have hcl:¬c=l:=by omega
     refine⟨_,.pointer (some ⟨b,(l+i.toNat)*wid,none⟩),hk,?_,hid,b,n,c,hG,rfl⟩;simp[Instr.indexAt,run_underlying hut,asIntOf,hin.1,hin.2,run_sizeOf hsz,add_none,hcl,Nat.add_mul]
    ·simp at hk
   ·simp at hk
  ·simp at hk
 ·simp at hk
theorem run_load_data {S:Nat→Prop} {t:TypeId} {ty:Ty} {y:ty.den} {b o:Nat} {cs:List Value} (hf:fitT C t ty = true)
  (hc:∀j,j<ty.wid→w.cell? ⟨b,o+j,none⟩=cs[j]?) (hr:RdC S w ty y cs) :
  (Instr.loadAt t (.pointer (some ⟨b,o,none⟩))).run C.P w=.ok (mkV ty cs) w:=by
 unfold fitT at hf;simp only[Bool.and_eq_true,beq_iff_eq]at hf;have hag:=isAggT_run hf.1 w;have hsz:=run_sizeOf hf.2 w;have hl:=hr.length;simp only[Instr.loadAt,Instr.sureAddr,Sem.run_bind,Sem.run_pure,Result.andThen_ok,loadVar,hag];cases hp:ty.isProd with
 | true =>
  have hlc:=run_loadCells_list (P:=C.P) w ⟨b,o,none⟩ cs fun j v hj=>by
   have hj':=(List.getElem?_eq_some_iff.1 hj).1;rw[add_none,hc j (by omega),hj]
  rw[hl]at hlc;simp[hsz,hlc,mkV,hp]
 | false =>
  have hw:ty.wid=1:=by cases ty<;>simp_all [Ty.wid,Ty.isProd]
  have h0:=hc 0 (by omega)
  cases cs with
  | nil=>simp[hw]at hl
  | cons c cs =>
   simp only[Nat.add_zero,List.getElem?_cons_zero]at h0;simp[mkV,hp,load,Sem.run,h0]
theorem loadK_some {t:TypeId} {x:A} {k:A→Option ρ} {r:ρ} {v:Value} (h:RelG E G σ a w) (hk:loadK C σ t x k = some r)
  (hv:VA (Imm E G σ w) σ.hp.length G w x v) :
  ∃z s,k z=some r∧(Instr.loadAt t v).run C.P w=.ok s w∧VA (Imm E G σ w) σ.hp.length G w z s:=by
 unfold loadK at hk;split at hk
 ·rename_i ty y;split at hk
  ·rename_i hf;obtain⟨b,o,cs,rfl,hb,hc,hr⟩:=hv;exact⟨_,_,hk,run_load_data hf hc hr,⟨cs,hr,rfl⟩,fun hn=>by simp at hn⟩
  ·simp at hk
 ·rename_i id wid i;obtain⟨hid,b,n,c,hg,rfl⟩:=hv;split at hk
  ·rename_i ro dp e ty xs ho;split at hk
   ·rename_i hf;obtain⟨rfl,hf⟩:=hf;obtain⟨y,h0,h1,hy,hk⟩:=idx_some hk;simp only[Int.toNat_natCast]at hy;have hor:=h.obs id _ ho;cases ro with
    | true =>
     simp only[OR]at hor;obtain⟨p,c',he,_,_,_,hc4⟩:=RdV_list hor;obtain⟨b',o',hp,hb,hel⟩:=hc4 (by intro hn;rw[hn]at hy;simp at hy)
     rw[hg]at he;simp only[Value.slice.injEq]at he;rw[hp]at he;simp only[Option.some.injEq,Addr.mk.injEq,and_true]at he;obtain⟨⟨rfl,rfl⟩,_,_⟩:=he;obtain⟨ys,hy1,hy2,hy3⟩:=hel _ _ hy;exact⟨_,_,hk,run_load_data hf (fun j hj=>by rw[←hy2 j hj];simp) hy3,⟨ys,hy3,rfl⟩,fun hn=>by simp at hn⟩
    | false =>
     have hrg:=h.range id _ ho rfl;have hnd:=h.nodup id _ ho rfl;simp only[OR]at hor;obtain⟨hl,cells,bss,how,hbs,hd1,hd2,hel⟩:=hor;obtain⟨ys,hy1,hy2,hy3⟩:=hel _ _ hy;rcases how.2 with⟨hn,_⟩ | ⟨g,cap,cur,hgv,_,hh,hnc,hcm,hcs,htake⟩
     ·rw[hg]at hn;simp at hn
     ·rw[hg]at hgv;simp only[Value.slice.injEq,Option.some.injEq,Addr.mk.injEq,and_true,true_and]at hgv;obtain⟨rfl,_,_⟩:=hgv;have hil:i<xs.length:=by omega
      have hcell:∀j,j<ty.wid→w.cell? ⟨b,i*ty.wid+j,none⟩=ys[j]?:=fun j hj=>by
       rw[←hy2 j hj,cell_of_row w b _ cur e (0,0) hh,←htake,List.getElem?_take,if_pos,Array.getElem?_toList];calc i*ty.wid+j<i*ty.wid+ty.wid:=by omega
        _=(i+1)*ty.wid:=by rw[Nat.add_mul,Nat.one_mul]
        _≤xs.length*ty.wid:=Nat.mul_le_mul_right _ hil
      have hrd:RdC (Imm E G σ w) w ty y ys:=by
       cases dp with
       | false=>simpa using hy3
       | true =>
        simp only[if_true]at hy3;refine hy3.rd ty fun b' hb'=>?_;have hmem:b'∈bss.flatten:=by
         cases hgi:bss[i]? with
         | none=>simp[hgi]at hb'
         | some l =>
          simp only[hgi,Option.getD_some]at hb';exact List.mem_flatten.2 ⟨l,List.mem_of_getElem? hgi,hb'⟩
        have hin:b'∈(G id).2:=by rw[hbs];exact List.mem_append_right _ hmem
        refine⟨(hrg b' hin).1,fun hB=>h.xa.a b' ((hrg b' hin).2 hB),fun j o' ho' hr' hhd=>?_⟩;by_cases hij:j=id
        ·subst hij;rw[hbs,hg]at hhd hnd;simp only[Value.ownBlock,Option.toList_some,List.singleton_append,List.head?_cons,Option.some.injEq]at hhd hnd;subst hhd;exact(List.nodup_cons.1 hnd).1 hmem
        ·exact h.disj j id o' _ ho' hr' ho rfl hij b' (List.mem_of_mem_head? hhd) hin
      exact⟨_,_,hk,run_load_data hf hcell hrd,⟨ys,hrd,rfl⟩,fun hn=>by simp at hn⟩
   ·simp at hk
  ·simp at hk
 ·rename_i id j;obtain⟨hid,b,hg,rfl⟩:=hv;split at hk
  ·rename_i ro e cs ho;have hor:=h.obs id _ ho;simp only[OR]at hor;obtain⟨b',arr,hg',hh,hvs,_⟩:=hor;rw[hg]at hg';simp only[Value.pointer.injEq,Option.some.injEq,Addr.mk.injEq,and_true]at hg';subst hg';split at hk
   ·rename_i hag;split at hk
    ·rename_i hsz;obtain⟨hsz,rfl⟩:=hsz;have hlen:∀(cs:List L) (vs:List Value),VLs (Imm E G σ w) σ.hp.length G w cs vs→cs.length=vs.length:=by
      intro cs;induction cs with
      | nil=>intro vs hh;cases vs with
       | nil=>rfl
       | cons _ _=>exact hh.elim
      | cons c cs ih=>intro vs hh;cases vs with
       | nil=>exact hh.elim
       | cons v vs=>simp[ih vs hh.2]
     have hl:=hlen _ _ hvs;refine⟨_,.agg arr,hk,?_,arr.toList,rfl,hvs⟩;have hlc:=run_loadCells_list (P:=C.P) w ⟨b,0,none⟩ arr.toList fun j v hj=>by
      rw[add_none,Nat.zero_add,cell_of_row w b _ arr e (0,0) hh];simpa using hj
     rw[←hl]at hlc;simp[Instr.loadAt,Instr.sureAddr,loadVar,isAggT_run hag w,run_sizeOf hsz w,hlc]
    ·simp at hk
   ·rename_i hag;split at hk
    ·rename_i y hj;have key:∀(cs:List L) (vs:List Value) (j:Nat) (y:L),VLs (Imm E G σ w) σ.hp.length G w cs vs→cs[j]? = some y→∃u,vs[j]? = some u∧VL (Imm E G σ w) σ.hp.length G w y u:=by
      intro cs;induction cs with
      | nil=>intro vs j y _ hy;simp at hy
      | cons c cs ih=>intro vs j y hh hy;cases vs with
       | nil=>exact hh.elim
       | cons v vs=>cases j with
        | zero=>simp at hy;subst hy;exact⟨v,rfl,hh.1.1⟩
        | succ j=>simp at hy ⊢;exact ih vs j y hh.2 hy
     obtain⟨u,hu,hvu⟩:=key _ _ _ _ hvs hj;refine⟨_,u,hk,?_,hvu⟩;have hcell:w.cell? ⟨b,j,none⟩=some u:=by rw[cell_of_row w b _ arr e (0,0) hh];simpa using hu
     simp[Instr.loadAt,Instr.sureAddr,loadVar,isAggT_run hag w,load,Sem.run,hcell]
    ·simp at hk
   ·simp at hk
  ·simp at hk
 ·simp at hk
theorem lenK_some {t:TypeId} {x:A} {k:A→Option ρ} {r:ρ} {v:Value} (h:RelG E G σ a w) (hk:lenK C σ t x k = some r)
  (hv:VA (Imm E G σ w) σ.hp.length G w x v) :
  ∃z s,k z=some r∧(∀ty,(Builtin.len_ #[t] ty #[v]).run C.P w=.ok s w)∧VA (Imm E G σ w) σ.hp.length G w z s:=by
 unfold lenK at hk;split at hk
 ·split at hk
  ·rename_i hu;obtain⟨rfl,_⟩:=datStr hv;exact⟨_,_,hk,fun ty=>by simp[Builtin.len_,run_underlying hu];rfl,intVA⟩
  ·simp at hk
 ·cases he:elT C t with
  | none=>simp[he]at hk
  | some e =>
   simp only[he,Option.bind_some]at hk;obtain⟨p,c,rfl,_⟩:=RdV_list hv.1;exact⟨_,_,hk,fun ty=>by simp[Builtin.len_,run_underlying (elT_some he)];rfl,intVA⟩
 ·cases he:elT C t with
  | none=>simp[he]at hk
  | some e =>
   simp only[he,Option.bind_some]at hk;simp only[VA,VL]at hv;subst hv;exact⟨_,_,hk,fun ty=>by simp[Builtin.len_,run_underlying (elT_some he)];rfl,intVA⟩
 ·split at hk
  ·rename_i ho;cases he:elT C t with
   | none=>simp[he]at hk
   | some e =>
    simp only[he,Option.bind_some]at hk;obtain⟨p,c,hg,_⟩:=RdV_list (h.ownRd ho);obtain⟨_,rfl,_⟩:=hv;exact⟨_,_,hk,fun ty=>by rw[hg];simp[Builtin.len_,run_underlying (elT_some he)];rfl,intVA⟩
  ·rename_i n xs ho;split at hk
   ·rename_i ky ev hu;have hor:=h.obs _ _ ho;simp only[OR]at hor;obtain⟨b,es,clock,h1,h2,h3,_⟩:=hor;obtain⟨_,rfl,_⟩:=hv;have hl:es.size=xs.length:=by
     have:=congrArg List.length h3;simpa using this
    exact⟨_,_,hk,fun ty=>by rw[h1];simp[Builtin.len_,run_underlying hu,MapKept.run_getObj_map h2,hl];rfl,intVA⟩
   ·cases hk
  ·simp at hk
 ·rename_i id wid l m;cases he:elT C t with
  | none=>simp[he]at hk
  | some e =>
   simp only[he,Option.bind_some]at hk;obtain⟨_,p,n,c,hG,rfl,_⟩:=hv;exact⟨_,_,hk,fun ty=>by simp[Builtin.len_,run_underlying (elT_some he)];rfl,intVA⟩
 ·simp at hk
theorem indexK_some {t:TypeId} {x i:A} {k:A→Option ρ} {r:ρ} {v u:Value} {I:Nat→Prop} {N:Nat} (hk:indexK C t x i k = some r)
  (hv:VA I N G w x v) (hu:VA I N G w i u):∃z s,k z=some r∧(Instr.index t v u).run C.P w=.ok s w∧VA I N G w z s:=by
 unfold indexK at hk;split at hk
 ·rename_i s _ _ i hut;obtain⟨rfl,_⟩:=datStr hv;have:=datInt hu;subst this;obtain⟨y,h0,h1,hy,hk⟩:=idx_some hk;refine⟨_,_,hk,?_,intVA⟩;have hsz:i.toNat<s.size:=by simp[←ByteArray.size_data]at h1 ⊢;omega
  have hget:s[i.toNat]? = some y:=by
   rw[getElem?_pos s i.toNat hsz];simp at hy;rw[Array.getElem?_eq_getElem (by simpa using hsz)]at hy
   have hy:=Option.some.inj hy;rw[←hy];rfl
  simp[Instr.index,asIntOf,run_underlying hut,h0,hget]
 ·simp at hk
end
open Go
set_option linter.all false
section
variable {I:Nat→Prop}{N:Nat}{G:Gh}{w:World}
theorem VLs.length:(cs:List L)→{vs:List Value}→VLs I N G w cs vs→cs.length=vs.length
 | [],[],_=>rfl
 | _::cs,_::vs,h=>by simp[VLs.length cs h.2]
 | [],_::_,h=>h.elim
 | _::_,[],h=>h.elim
theorem VLs.append:(cs:List L)→{vs:List Value}→{cs':List L}→{vs':List Value}→VLs I N G w cs vs→VLs I N G w cs' vs'→VLs I N G w (cs++cs') (vs++vs')
 | [],[],_,_,_,h=>h
 | _::cs,_::vs,_,_,h,h'=>⟨h.1,VLs.append cs h.2 h'⟩
 | [],_::_,_,_,h,_=>h.elim
 | _::_,[],_,_,h,_=>h.elim
theorem VLs.take:(n:Nat)→(cs:List L)→{vs:List Value}→VLs I N G w cs vs→VLs I N G w (cs.take n) (vs.take n)
 | 0,_,_,_=>by simp[VLs]
 | n+1,[],[],_=>trivial
 | n+1,_::cs,_::vs,h=>⟨h.1,VLs.take n cs h.2⟩
 | _+1,[],_::_,h=>h.elim
 | _+1,_::_,[],h=>h.elim
theorem VLs.drop:(n:Nat)→(cs:List L)→{vs:List Value}→VLs I N G w cs vs→VLs I N G w (cs.drop n) (vs.drop n)
 | 0,_,_,h=>h
 | n+1,[],[],_=>trivial
 | n+1,_::cs,_::vs,h=>VLs.drop n cs h.2
 | _+1,[],_::_,h=>h.elim
 | _+1,_::_,[],h=>h.elim
theorem VLs.one:(cs:List L)→{vs:List Value}→VLs I N G w cs vs→∀v∈vs,v.oneCell'=true
 | [],[],_,v,hv=>by simp at hv
 | _::cs,u::vs,h,v,hv=>by
  rcases List.mem_cons.1 hv with rfl | hv
  ·exact h.1.2
  ·exact VLs.one cs h.2 v hv
 | [],_::_,h,_,_=>h.elim
 | _::_,[],h,_,_=>h.elim
theorem splitD_VLs:(t:Ty)→{x:t.den}→{cs:List Value}→RdC I w t x cs→VLs I N G w (splitD t x) cs
 | .int k,x,cs,h=>by
  have h0:=h;simp only[RdC]at h;subst h;exact⟨⟨⟨⟨_,h0,rfl⟩,fun hn=>by simp at hn⟩,rfl⟩,trivial⟩
 | .bool,x,cs,h=>by
  have h0:=h;simp only[RdC]at h;subst h;exact⟨⟨⟨⟨_,h0,rfl⟩,fun hn=>by simp at hn⟩,rfl⟩,trivial⟩
 | .str,x,cs,h=>by
  have h0:=h;simp only[RdC]at h;obtain⟨h,_⟩:=h;subst h;exact⟨⟨⟨⟨_,h0,rfl⟩,fun hn=>by simp at hn⟩,rfl⟩,trivial⟩
 | .list t,x,cs,h=>by
  have h0:=h;simp only[RdC]at h;obtain⟨p,n,c,h,_⟩:=h;subst h;exact⟨⟨⟨⟨_,h0,rfl⟩,fun hn=>by simp at hn⟩,rfl⟩,trivial⟩
 | .prod p q,x,cs,h=>by
  simp only[RdC]at h;obtain⟨c1,c2,rfl,h1,h2⟩:=h;exact(splitD_VLs p h1).append _ (splitD_VLs q h2)
theorem cellsA_VLs {x:A}{v:Value}(hv:VA I N G w x v)(hne:cellsA x≠[]):VLs I N G w (cellsA x) v.cells.toList:=by
 unfold cellsA at hne ⊢;split at hne
 ·exact absurd rfl hne
 ·exact absurd rfl hne
 ·exact splitD_VLs _ hv.1.cells
 ·rename_i x h1 h0 h2;have key:v.oneCell'=true∧v.cells.toList=[v]:=by
   cases x with
   | unk=>exact absurd rfl h1
   | nils=>simp only[VA,VL]at hv;subst hv;exact⟨rfl,rfl⟩
   | dat nn t y =>
    cases t with
    | prod p q=>exact absurd rfl (h2 nn p q y)
    | int k=>have:=RdV_int.1 hv.1;subst this;exact⟨rfl,rfl⟩
    | bool=>have:=RdV_bool.1 hv.1;subst this;exact⟨rfl,rfl⟩
    | str=>obtain⟨this,_⟩:=RdV_str.1 hv.1;subst this;exact⟨rfl,rfl⟩
    | list t=>obtain⟨p,c,rfl,_⟩:=RdV_list hv.1;exact⟨rfl,rfl⟩
   | cptr t y=>obtain⟨b,o,cs,rfl,_⟩:=hv;exact⟨rfl,rfl⟩
   | ref id =>
    obtain⟨_,_,h3⟩:=hv;refine⟨h3,?_⟩;cases v<;>first | rfl | (simp[Value.oneCell']at h3)
   | optr id wid i=>obtain⟨_,b,n,c,_,rfl⟩:=hv;exact⟨rfl,rfl⟩
   | bptr id j=>obtain⟨_,b,_,rfl⟩:=hv;exact⟨rfl,rfl⟩
   | fn f=>simp only[VA,VL]at hv;subst hv;exact⟨rfl,rfl⟩
   | clo f ids=>obtain⟨rfl,_⟩:=hv;exact⟨rfl,rfl⟩
   | und=>exact absurd rfl h0
   | sub id wid l m=>obtain⟨_,p,n,c,_,rfl,_⟩:=hv;exact⟨rfl,rfl⟩
   | full t x=>obtain⟨_,p,n,rfl⟩:=hv;exact⟨rfl,rfl⟩
  rw[key.2];exact⟨⟨hv,key.1⟩,trivial⟩
 ·obtain⟨vs,rfl,hvs⟩:=hv;simpa[Value.cells]using hvs
 ·exact absurd rfl hne
theorem foldl_set (off:Nat):∀ (l:List Value) (n:Nat) (arr:Array Value),off + n + l.length≤arr.size →
  ((l.zipIdx n).foldl (fun cs p=>cs.setIfInBounds (off+p.2) p.1) arr).toList=arr.toList.take (off+n)++l++arr.toList.drop (off+n+l.length)
 | [],n,arr,h=>by simp
 | v::l,n,arr,h=>by
  simp only[List.zipIdx_cons,List.foldl_cons,List.length_cons]at h ⊢;rw[foldl_set off l (n+1) _ (by simp;omega)]
  simp only[Array.toList_setIfInBounds];have hlt:off+n<arr.toList.length:=by simp;omega
  rw[show off+(n+1)=(off+n)+1 from by omega,List.take_set,List.drop_set]
  rw[List.take_succ_eq_append_getElem hlt];rw[if_pos (by omega)]
  have e1:((arr.toList.take (off+n)++[arr.toList[off+n]]).set (off+n) v)=arr.toList.take (off+n)++[v]:=by
   have hl:(arr.toList.take (off+n)).length=off+n:=by rw[List.length_take];omega
   rw[List.set_append_right _ _ (by omega),hl]
   simp
  rw[e1,show off+n+1+l.length=off+n+(l.length+1)from by omega]
  simp
theorem fill_some (place:Nat→Option (Nat × Nat)):∀ (ps:List (Nat × List L)) (qs:List (Nat × Value)) (cs:List L) (cells:Array Value) (ls:List L),
  fillLs place cs ps=some ls→VLs I N G w cs cells.toList→ps.length=qs.length →
  (∀(i:Nat) (p:Nat×List L) (q:Nat×Value),ps[i]? = some p→qs[i]? = some q→p.1=q.1∧(p.2≠[]→VLs I N G w p.2 q.2.cells.toList)) →
  ∃arr,Instr.fill place cells qs=some arr∧VLs I N G w ls arr.toList
 | [],[],cs,cells,ls,hk,hv,_,_=>by
  simp only[fillLs,Option.some.injEq]at hk;subst hk;exact⟨cells,rfl,hv⟩
 | [],_::_,_,_,_,_,_,hl,_=>by simp at hl
 | _::_,[],_,_,_,_,_,hl,_=>by simp at hl
 | (i,l)::ps,(j,v)::qs,cs,cells,ls,hk,hv,hl,hp=>by
  simp only[fillLs]at hk;obtain⟨hij,hvl⟩:=hp 0 _ _ rfl rfl;simp only at hij hvl;subst hij;split at hk
  ·rename_i off sz hpl;split at hk
   ·rename_i hc;obtain⟨hc1,hc2,hc3⟩:=hc;have hv1:=hvl (by intro h0;rw[h0]at hc3;simp at hc3)
    have hlen:=hv1.length;have hcl:=hv.length;have hcl':cs.length=cells.size:=by simpa using hcl
    have hvs:v.cells.size=sz:=by simp at hlen;omega
    have hset:=foldl_set off v.cells.toList 0 cells (by simp;omega)
    have:=fill_some place ps qs _ (v.cells.zipIdx.foldl (fun cs p=>cs.setIfInBounds (off+p.2) p.1) cells) ls hk ?_ (by simpa using hl) (fun i p q h1 h2=>hp (i+1) p q (by simpa using h1) (by simpa using h2))
    ·obtain⟨arr,h1,h2⟩:=this;refine⟨arr,?_,h2⟩;simp only[Instr.fill,hpl];rw[if_neg (by simp[hvs];omega)]
     exact h1
    ·have e:(v.cells.zipIdx.foldl (fun cs p=>cs.setIfInBounds (off+p.2) p.1) cells).toList=cells.toList.take off++v.cells.toList++cells.toList.drop (off+sz):=by
      rw[←Array.foldl_toList,Array.toList_zipIdx];rw[hset];simp[hvs]
     rw[e];exact((hv.take off _).append _ hv1).append _ (hv.drop (off+sz) _)
   ·simp at hk
  ·simp at hk
theorem zeroL_VL (v:Value):VL I N G w (zeroL v) v:=by
 unfold zeroL;split
 ·exact⟨RdV_int.2 rfl,fun _=>trivial⟩
 ·exact⟨RdV_bool.2 rfl,fun _=>trivial⟩
 ·split
  ·rename_i hs;exact⟨RdV_str.2 ⟨rfl,by rw[hs];exact Nat.zero_le _⟩,fun _=>trivial⟩
  ·trivial
 ·rfl
 ·trivial
theorem zeroLs_some {C:Ctx}{t:TypeId}{zs:List L}(h:zeroLs C t=some zs):∃i z,C.P.info? t=some i∧i.zero=some z∧VLs I N G w zs z.cells.toList:=by
 unfold zeroLs at h;cases hi:C.P.info? t with
 | none=>simp[hi]at h
 | some i =>
  simp only[hi,Option.bind_some]at h;cases hz:i.zero with
  | none=>simp[hz]at h
  | some z =>
   simp only[hz,Option.bind_some]at h;split at h
   ·rename_i hall;obtain rfl:=Option.some.inj h;refine⟨i,z,rfl,hz,?_⟩;have:∀(vs:List Value),vs.all Value.oneCell'=true→VLs I N G w (vs.map zeroL) vs:=by
     intro vs;induction vs with
     | nil=>intro _;trivial
     | cons v vs ih=>intro hv;simp at hv;exact⟨⟨zeroL_VL v,hv.1⟩,ih (by simpa using hv.2)⟩
    exact this _ hall
   ·simp at h
end
section
variable {ρ:Type}{C:Ctx}{E:En}{G:Gh}{σ:Sg}{a:Act}{w:World}
theorem RelG.newBox (h:RelG E G σ a w) (e:TypeId) (cs:List L) (arr:Array Value) (hvs:VLs (Imm E G σ w) σ.hp.length G w cs arr.toList) :
  ∃G',RelG E G' (addHp σ (.box false e cs)) a (w.alloc (.cells arr e))∧GA E σ (addHp σ (.box false e cs)) G G' w (w.alloc (.cells arr e)) ∧
   VL (Imm E G' (addHp σ (.box false e cs)) (w.alloc (.cells arr e))) (addHp σ (.box false e cs)).hp.length G' (w.alloc (.cells arr e)) (.bptr σ.hp.length 0) (.pointer (some ⟨w.heap.size,0,none⟩)):=by
 obtain⟨G',h1,h2,h3⟩:=h.add (Ext.alloc w (.cells arr e)) (.box false e cs) (.pointer (some ⟨w.heap.size,0,none⟩)) [w.heap.size] rfl (by simp) (by simp)
  fun I G' k hG=>by
   simp only[OR,hG];refine⟨w.heap.size,arr,rfl,heap_alloc_new w _,hvs.keep k _,by simp⟩
 exact⟨G',h1,h3,by simp[addHp],w.heap.size,h2,rfl⟩
theorem alloc_some {e:TypeId} {zs:List L} {k:A→Sg→Option ρ} {r:ρ} (h:RelG E G σ a w) (hz:zeroLs C e = some zs)
  (hk:k (.l (.bptr σ.hp.length 0)) (addHp σ (.box false e zs))=some r) :
  ∃v w',(Instr.alloc e true (.tuple #[])).run C.P w=.ok v w'∧OpOut C E G σ a w k r (.ok (.value v) w'):=by
 obtain⟨i,z,hi,hz',hvs⟩:=zeroLs_some (I:=Imm E G σ w) (N:=σ.hp.length) (G:=G) (w:=w) hz;obtain⟨G',h1,hga,h2⟩:=h.newBox e zs z.cells hvs;exact⟨_,_,by simp[Instr.alloc,zeroValue,typeInfo,hi,hz',newVar,newRow],_,_,hk,Kp.add _ _,G',h1,hga,h2⟩
theorem box_some {e:TypeId} {x:A} {v:Value} {k:A→Sg→Option ρ} {r:ρ} (h:RelG E G σ a w) (hv:VA (Imm E G σ w) σ.hp.length G w x v) (hne:cellsA x≠[])
  (hk:k (.l (.bptr σ.hp.length 0)) (addHp σ (.box false e (cellsA x)))=some r) :
  ∃u w',(Instr.box e v).run C.P w=.ok u w'∧OpOut C E G σ a w k r (.ok (.value u) w'):=by
 obtain⟨G',h1,hga,h2⟩:=h.newBox e _ v.cells (cellsA_VLs hv hne);exact⟨_,_,by simp[Instr.box,newVar,newRow],_,_,hk,Kp.add _ _,G',h1,hga,h2⟩
theorem build_some {t:TypeId} {parts:Array (Nat × Operand)} {k:A→Option ρ} {r:ρ} (h:RelG E G σ a w) (hk:buildK C σ t parts k = some r) :
  ∃z u,k z=some r∧(Instr.build t (parts.map fun(i,x)=>(i,a.eval x))).run C.P w=.ok u w∧VA (Imm E G σ w) σ.hp.length G w z u:=by
 unfold buildK at hk;split at hk
 ·rename_i fs hu;split at hk
  ·rename_i zs places hz hp;split at hk
   ·rename_i ls hf;obtain⟨i,z,hi,hz',hvs⟩:=zeroLs_some (I:=Imm E G σ w) (N:=σ.hp.length) (G:=G) (w:=w) hz;obtain⟨arr,h1,h2⟩:=fill_some (I:=Imm E G σ w) (N:=σ.hp.length) (G:=G) (w:=w) (places.toArray[·]?) _ (parts.map fun(i,x)=>(i,a.eval x)).toList zs z.cells ls hf hvs (by simp)
     (fun i p q hp hq=>by
      simp only[List.getElem?_map,Array.toList_map]at hp hq;cases hpi:parts.toList[i]? with
      | none=>simp[hpi]at hp
      | some b =>
       simp only[hpi,Option.map_some,Option.some.injEq]at hp hq;subst hp;subst hq;exact⟨rfl,fun hne=>cellsA_VLs (h.get b.2) hne⟩)
    refine⟨_,.agg arr,hk,run_build w t _ arr ?_,arr.toList,rfl,h2⟩;unfold Program.built;rw[hi,hu];simp only[hz',hp];exact h1
   ·simp at hk
  ·simp at hk
 ·rename_i n el hu;split at hk
  ·rename_i zs sz hz hsz;split at hk
   ·rename_i ls hf;obtain⟨i,z,hi,hz',hvs⟩:=zeroLs_some (I:=Imm E G σ w) (N:=σ.hp.length) (G:=G) (w:=w) hz;obtain⟨ie,hie,his⟩:=szT_some hsz;obtain⟨arr,h1,h2⟩:=fill_some (I:=Imm E G σ w) (N:=σ.hp.length) (G:=G) (w:=w) (fun i=>some (i*sz,sz)) _ (parts.map fun(i,x)=>(i,a.eval x)).toList zs z.cells ls hf hvs (by simp)
     (fun i p q hp hq=>by
      simp only[List.getElem?_map,Array.toList_map]at hp hq;cases hpi:parts.toList[i]? with
      | none=>simp[hpi]at hp
      | some b =>
       simp only[hpi,Option.map_some,Option.some.injEq]at hp hq;subst hp;subst hq;exact⟨rfl,fun hne=>cellsA_VLs (h.get b.2) hne⟩)
    refine⟨_,.agg arr,hk,run_build w t _ arr ?_,arr.toList,rfl,h2⟩;unfold Program.built;rw[hi,hu];simp only[hz',hie,his];exact h1
   ·simp at hk
  ·simp at hk
 ·simp at hk
end
open Go
set_option linter.all false
section
variable {P:Program}{w:World}
theorem run_app (t ty e:TypeId) (i:TypeInfo) (z:Value) (ht:P.underlying t = some (.slice e)) (hi:P.info? e = some i) (hz:i.zero = some z)
  (hzs:z.cells.size=i.size) (hsz:0<i.size) (v:Value) (n:Nat) (xs:List Value) (hown:w.ownsRow 0 e i.size v n xs)
  (ad:Addr) (m c:Nat) (news:List Value) (hl:news.length=m*i.size) (hnews:∀j u,news[j]? = some u→w.cell? (ad.add j)=some u) (h1:∀u∈news,u.oneCell'=true)
  (h63:n+m≤lim) (hbytes:(n+m)*i.bytes≤lim) :
  ∃v' w',(Builtin.append_ #[t,t] ty #[v,.slice (some ad) m c]).run P w=.ok v' w'∧w'.ownsRow 0 e i.size v' (n+m) (xs++news)∧w.grownBy w' v.ownBlock ∧
   (∀b,v'.ownBlock=some b→v.ownBlock=some b∨(w.heap.size≤b∧b<w'.heap.size)):=by
 unfold lim at h63 hbytes;obtain⟨v',w',hr,h2,h3,h4⟩:=run_append_own (P:=P) w 0 t ty e i z i.size i.bytes ht hi hz rfl rfl hzs hsz v n xs hown ad m c news hl hnews h1 (by unfold maxLen;omega) hbytes (Nat.zero_le _)
 refine⟨v',w',hr,h2,h3,fun b hb=>?_⟩;have hlt:=(h2.lt b hb).2;have fresh:∀(p q:Nat) (W:World),(Builtin.append_ #[t,t] ty #[v,.slice (some ad) m c]).run P w=.ok (.slice (some ⟨w.heap.size,0,none⟩) p q) W→w.heap.size≤b:=fun p q W hx=>by
  rw[hx]at hr;simp only[Result.ok.injEq]at hr;obtain⟨rfl,_⟩:=hr;simp[Value.ownBlock]at hb;omega
 rcases hown.2 with⟨rfl,rfl⟩ | ⟨g,cap,cur,rfl,hbg,hg,hnc,hcm,hcs,htake⟩
 ·by_cases hm:m=0
  ·have:=h4.2 ⟨rfl,hm⟩;subst this;simp[Value.ownBlock]at hb
  ·exact .inr ⟨fresh _ _ _ (run_append_nil (P:=P) w t ty e i z ht hi hz ad m c news hl hnews (by omega) (by omega) (by simp only[Nat.zero_add]at hbytes;omega)),hlt⟩
 ·by_cases hroom:n+m≤cap
  ·obtain⟨w2,hr2,_⟩:=run_append_fits (P:=P) w 0 t ty e i i.size ht hi rfl g n cap xs hown ad m c news hl hnews h1 hroom;rw[hr2]at hr;simp only[Result.ok.injEq]at hr;obtain⟨rfl,_⟩:=hr;exact .inl (by simpa[Value.ownBlock]using hb)
  ·have holds:∀j u,xs[j]? = some u→w.cell? ((⟨g,0,none⟩:Addr).add j)=some u:=hown.cells (g:=g) rfl;exact .inr ⟨fresh _ _ _ (run_append_grow (P:=P) w t ty e i z ht hi hz ⟨g,0,none⟩ n cap xs hown.1 holds ad m c news hl hnews (by omega) (by omega) (growslice_fits (by omega) hbytes)),hlt⟩
theorem run_app_none (t ty e:TypeId) (i:TypeInfo) (ht:P.underlying t = some (.slice e)) (hi:P.info? e = some i)
  (v:Value) (n:Nat) (xs:List Value) (hown:w.ownsRow 0 e i.size v n xs) (c:Nat) :
  (Builtin.append_ #[t,t] ty #[v,.slice none 0 c]).run P w=.ok v w:=by
 rcases hown.2 with⟨rfl,rfl⟩ | ⟨g,cap,cur,rfl,_,_,hnc,_⟩
 ·simp[Builtin.append_,run_underlying ht,sizeOf,typeInfo,hi,Builtin.lenOf,Builtin.firstCells]
 ·simp[Builtin.append_,run_underlying ht,sizeOf,typeInfo,hi,Builtin.lenOf,Builtin.firstCells,hnc,storeCells]
end
section
variable {I:Nat→Prop}{w:World}
theorem RdC.one:(t:Ty)→{x:t.den}→{cs:List Value}→RdC I w t x cs→∀v∈cs,v.oneCell'=true
 | .int _,_,_,h,v,hv=>by simp only[RdC]at h;subst h;simp at hv;subst hv;rfl
 | .bool,_,_,h,v,hv=>by simp only[RdC]at h;subst h;simp at hv;subst hv;rfl
 | .str,_,_,h,v,hv=>by simp only[RdC]at h;obtain⟨h,_⟩:=h;subst h;simp at hv;subst hv;rfl
 | .list _,_,_,h,v,hv=>by simp only[RdC]at h;obtain⟨_,_,_,h,_⟩:=h;subst h;simp at hv;subst hv;rfl
 | .prod a b,_,_,h,v,hv=>by
  simp only[RdC]at h;obtain⟨c1,c2,rfl,h1,h2⟩:=h;rcases List.mem_append.1 hv with hv | hv
  ·exact RdC.one a h1 v hv
  ·exact RdC.one b h2 v hv
def Chk (t:Ty)(xs:List t.den)(cells:List Value)(R:Nat→t.den→List Value→Prop):Prop :=
 cells.length=xs.length*t.wid∧∀i y,xs[i]? = some y→∃ys,ys.length=t.wid∧(∀j,j<t.wid→cells[i*t.wid+j]? = ys[j]?)∧R i y ys
theorem chunk_lt {i j n k:Nat}(hi:i<n)(hj:j<k):i*k+j<n*k:=by
 calc i*k+j<i*k+k:=by omega
  _=(i+1)*k:=by rw[Nat.add_mul,Nat.one_mul]
  _≤n*k:=Nat.mul_le_mul_right _ hi
theorem Chk.append {t:Ty} {xs ys:List t.den} {c1 c2:List Value} {R1 R2 R:Nat→t.den→List Value→Prop} (h1:Chk t xs c1 R1) (h2:Chk t ys c2 R2)
  (hR1:∀i y cs,i<xs.length→R1 i y cs→R i y cs) (hR2:∀i y cs,i<ys.length→R2 i y cs→R (xs.length+i) y cs):Chk t (xs++ys) (c1++c2) R:=by
 refine⟨by rw[List.length_append,List.length_append,h1.1,h2.1,Nat.add_mul],fun i y hi=>?_⟩
 by_cases hlt:i<xs.length
 ·rw[List.getElem?_append_left hlt]at hi;obtain⟨cs,hc1,hc2,hc3⟩:=h1.2 i y hi;refine⟨cs,hc1,fun j hj=>?_,hR1 i y cs hlt hc3⟩;rw[←hc2 j hj,List.getElem?_append_left (by rw[h1.1];exact chunk_lt hlt hj)]
 ·rw[List.getElem?_append_right (by omega)]at hi
  obtain⟨cs,hc1,hc2,hc3⟩:=h2.2 _ y hi;refine⟨cs,hc1,fun j hj=>?_,?_⟩
  ·rw[←hc2 j hj,List.getElem?_append_right]
   ·congr 1
    rw[h1.1];have:i=xs.length+(i-xs.length):=by omega
    rw[this,Nat.add_mul];simp;omega
   ·rw[h1.1];have:xs.length*t.wid≤i*t.wid:=Nat.mul_le_mul_right _ (by omega)
    omega
  ·have:=hR2 (i-xs.length) y cs (by have:=(List.getElem?_eq_some_iff.1 hi).1;omega) hc3
   rwa [show xs.length+(i-xs.length)=i from by omega]at this
theorem Chk.imp {t:Ty}{xs:List t.den}{cs:List Value}{R R':Nat→t.den→List Value→Prop}(h:Chk t xs cs R)(hR:∀i y cs,xs[i]? = some y→R i y cs→R' i y cs):Chk t xs cs R' :=
 ⟨h.1,fun i y hi=>let ⟨ys,h1,h2,h3⟩:=h.2 i y hi;⟨ys,h1,h2,hR i y ys hi h3⟩⟩
theorem rd_chk {t:Ty} {xs:List t.den} {b o:Nat} (h:∀ i y,xs[i]? = some y→∃ ys,ys.length = t.wid∧(∀ j,j < t.wid→w.cell? ⟨b,o + i * t.wid + j,none⟩ = ys[j]?)∧RdC I w t y ys) :
  ∃cells,Chk t xs cells (fun _ y ys=>RdC I w t y ys)∧∀j u,cells[j]? = some u→w.cell? ⟨b,o+j,none⟩=some u:=by
 have hw:=t.wid_pos;have hsome:∀j,j<xs.length*t.wid→∃u,w.cell? ⟨b,o+j,none⟩=some u:=fun j hj=>by
  have hi:j / t.wid<xs.length:=by rw[Nat.div_lt_iff_lt_mul hw];exact hj
  obtain⟨ys,h1,h2,_⟩:=h (j / t.wid) _ (List.getElem?_eq_getElem hi);have hm:=Nat.mod_lt j hw;have:=h2 (j % t.wid) hm;rw[show o+j / t.wid*t.wid+j % t.wid=o+j from by have:=Nat.div_add_mod j t.wid;rw[Nat.mul_comm]at this;omega]at this
  exact⟨_,this.trans (List.getElem?_eq_getElem (by omega))⟩
 refine⟨(List.range (xs.length*t.wid)).map fun j=>(w.cell? ⟨b,o+j,none⟩).getD undef,⟨by simp,fun i y hi=>?_⟩,fun j u hj=>?_⟩
 ·obtain⟨ys,h1,h2,h3⟩:=h i y hi;refine⟨ys,h1,fun j hj=>?_,h3⟩;have hlt:=chunk_lt (List.getElem?_eq_some_iff.1 hi).1 hj;rw[List.getElem?_map,List.getElem?_range hlt];have:=h2 j hj;obtain⟨u,hu⟩:=hsome _ hlt;rw[show o+(i*t.wid+j)=o+i*t.wid+j from by omega]at hu
  rw[hu]at this;simp only[Option.map_some];rw[show o+(i*t.wid+j)=o+i*t.wid+j from by omega,hu,←this]
  rfl
 ·rw[List.getElem?_map]at hj;cases hr:(List.range (xs.length*t.wid))[j]? with
  | none=>simp[hr]at hj
  | some q =>
   have hq:=List.getElem?_eq_some_iff.1 hr;obtain⟨hq1,hq2⟩:=hq;simp at hq1 hq2;subst hq2;obtain⟨u',hu'⟩:=hsome _ hq1;simp[hr,hu']at hj;subst hj;exact hu'
theorem Chk.one {t:Ty}{xs:List t.den}{cells:List Value}(h:Chk t xs cells (fun _ y ys=>RdC I w t y ys)):∀v∈cells,v.oneCell'=true:=by
 intro v hv;have hw:=t.wid_pos;obtain⟨j,hj,rfl⟩:=List.getElem_of_mem hv;rw[h.1]at hj;have hi:j / t.wid<xs.length:=by rw[Nat.div_lt_iff_lt_mul hw];exact hj
 obtain⟨ys,h1,h2,h3⟩:=h.2 (j / t.wid) _ (List.getElem?_eq_getElem hi);have hm:=Nat.mod_lt j hw;have h4:=h2 (j % t.wid) hm;rw[show j / t.wid*t.wid+j % t.wid=j from by have:=Nat.div_add_mod j t.wid;rw[Nat.mul_comm]at this;omega]at h4
 rw[List.getElem?_eq_getElem (by rw[h.1];exact hj),List.getElem?_eq_getElem (by omega)]at h4
 have h4:=Option.some.inj h4;rw[h4];exact h3.one t _ (List.getElem_mem _)
theorem flat_Dp {B:Nat}:(t:Ty)→t.flat=true→{x:t.den}→{cs:List Value}→RdC I w t x cs→DpC B w t x cs []
 | .int _,_,_,_,h=>by simp only[RdC]at h;exact⟨h,rfl⟩
 | .bool,_,_,_,h=>by simp only[RdC]at h;exact⟨h,rfl⟩
 | .str,_,_,_,h=>by simp only[RdC]at h;exact⟨h.1,h.2,rfl⟩
 | .list _,hf,_,_,_=>by simp[Ty.flat]at hf
 | .prod a b,hf,_,_,h=>by
  simp only[Ty.flat,Bool.and_eq_true]at hf;simp only[RdC]at h;obtain⟨c1,c2,rfl,h1,h2⟩:=h;simp only[DpC];exact⟨c1,c2,[],[],rfl,rfl,flat_Dp a hf.1 h1,flat_Dp b hf.2 h2⟩
theorem flat_RdC {I':Nat→Prop}{w':World}:(t:Ty)→t.flat=true→{x:t.den}→{cs:List Value}→RdC I w t x cs→RdC I' w' t x cs
 | .int _,_,_,_,h=>by simpa only[RdC]using h
 | .bool,_,_,_,h=>by simpa only[RdC]using h
 | .str,_,_,_,h=>by simpa only[RdC]using h
 | .list _,hf,_,_,_=>by simp[Ty.flat]at hf
 | .prod a b,hf,_,_,h=>by
  simp only[Ty.flat,Bool.and_eq_true]at hf;simp only[RdC]at h ⊢;obtain⟨c1,c2,rfl,h1,h2⟩:=h;exact⟨c1,c2,rfl,flat_RdC a hf.1 h1,flat_RdC b hf.2 h2⟩
theorem OwnV.mk {dp:Bool} {e:TypeId} {t:Ty} {x:List t.den} {v:Value} {bs:List Nat} {cells:List Value} {bss:List (List Nat)} (hl:x.length≤lim) (ho:w.ownsRow 0 e t.wid v x.length cells)
  (hbs:bs=v.ownBlock.toList++bss.flatten) (h1:dp=true→bss.length=x.length) (h2:dp=false→bss=[])
  (hc:Chk t x cells fun i y ys=>if dp then DpC 0 w t y ys (bss[i]?.getD [])else RdC I w t y ys):OwnV I w dp e t x v bs :=
 ⟨hl,cells,bss,ho,hbs,h1,h2,hc.2⟩
theorem OwnV.chk {dp:Bool} {e:TypeId} {t:Ty} {x:List t.den} {v:Value} {bs:List Nat} (h:OwnV I w dp e t x v bs) :
  x.length≤lim∧∃cells bss,w.ownsRow 0 e t.wid v x.length cells∧bs=v.ownBlock.toList++bss.flatten∧(dp=true→bss.length=x.length)∧(dp=false→bss=[]) ∧
   Chk t x cells fun i y ys=>if dp then DpC 0 w t y ys (bss[i]?.getD [])else RdC I w t y ys:=by
 obtain⟨h1,cells,bss,h2,h3,h4,h5,h6⟩:=h;exact⟨h1,cells,bss,h2,h3,h4,h5,h2.1,h6⟩
end
open Go
set_option linter.all false
section
variable {ρ:Type}{C:Ctx}{E:En}{G:Gh}{σ:Sg}{a:Act}{w:World}
theorem RelG.rowImm (h:RelG E G σ a w){id:Nat}{o:Ob}(ho:σ.ob id=some o)(hr:o.ro=false){b hd:Nat}{rest:List Nat}(hG:(G id).2=hd::rest)(hb:b∈rest):Imm E G σ w b:=by
 have hin:b∈(G id).2:=by rw[hG];exact List.mem_cons_of_mem _ hb
 have hrg:=h.range id o ho hr b hin;have hnd:=h.nodup id o ho hr;refine⟨hrg.1,fun hB=>h.xa.a b (hrg.2 hB),fun j o' ho' hr' hhd=>?_⟩;by_cases hij:j=id
 ·subst hij;rw[hG]at hhd hnd;simp only[List.head?_cons,Option.some.injEq]at hhd;subst hhd;exact(List.nodup_cons.1 hnd).1 hb
 ·exact h.disj j id o' o ho' hr' ho hr hij b (List.mem_of_mem_head? hhd) hin
theorem RelG.ownRows (h:RelG E G σ a w) {id:Nat} {dp:Bool} {e:TypeId} {t:Ty} {x:List t.den} (ho:σ.ob id = some (.own false dp e t x)) {bss:List (List Nat)} {n:Nat} {cells:List Value}
  (hown:w.ownsRow 0 e t.wid (G id).1 n cells) (hG:(G id).2=(G id).1.ownBlock.toList++bss.flatten) (hb:0<n):∀b∈bss.flatten,Imm E G σ w b:=by
 intro b hb';rcases hown.2 with⟨_,h0⟩ | ⟨g,cap,cur,hg,_⟩
 ·omega
 ·rw[hg]at hG;exact h.rowImm ho rfl (hd:=g) (rest:=bss.flatten) (by rw[hG];rfl) hb'
theorem RelG.shallow (h:RelG E G σ a w) {id:Nat} {dp:Bool} {e:TypeId} {t:Ty} {x:List t.den} (ho:σ.ob id = some (.own false dp e t x)) :
  ∃cells,w.ownsRow 0 e t.wid (G id).1 x.length cells∧x.length≤lim∧Chk t x cells fun _ y ys=>RdC (Imm E G σ w) w t y ys:=by
 have hor:=h.obs id _ ho;simp only[OR]at hor;obtain⟨hl,cells,bss,how,hbs,hd1,hd2,hc⟩:=hor.chk;refine⟨cells,how,hl,hc.imp fun i y ys hi hy=>?_⟩;cases dp with
 | false=>simpa using hy
 | true =>
  simp only[if_true]at hy;refine hy.rd t fun b hb=>?_;refine h.ownRows ho how hbs (by have:=(List.getElem?_eq_some_iff.1 hi).1;omega) b ?_
  cases hgi:bss[i]? with
  | none=>simp[hgi]at hb
  | some l =>
   simp only[hgi,Option.getD_some]at hb;exact List.mem_flatten.2 ⟨l,List.mem_of_getElem? hgi,hb⟩
def Src (I:Nat→Prop)(w:World)(t:Ty)(u:Value)(ys:List t.den):Prop :=
 (∃c,u=.slice none 0 c∧ys=[])∨∃ad c news,u=.slice (some ad) ys.length c∧Chk t ys news (fun _ y cs=>RdC I w t y cs)∧∀j v,news[j]? = some v→w.cell? (ad.add j)=some v
theorem Src.ofRd {I:Nat→Prop}{t:Ty}{u:Value}{ys:List t.den}(h:RdV I w (.list t) ys u):ys.length≤lim∧Src I w t u ys:=by
 obtain⟨p,c,rfl,h1,h2,h3,h4⟩:=RdV_list h;refine⟨h3,?_⟩;by_cases hy:ys=[]
 ·cases p with
  | none=>subst hy;exact .inl ⟨c,rfl,rfl⟩
  | some ad=>subst hy;exact .inr ⟨ad,c,[],rfl,⟨by simp,fun i y hi=>by simp at hi⟩,fun j v hj=>by simp at hj⟩
 ·obtain⟨b,o,rfl,hb,hel⟩:=h4 hy;obtain⟨news,hn1,hn2⟩:=rd_chk hel;exact .inr ⟨_,c,news,rfl,hn1,fun j v hj=>by rw[add_none];exact hn2 j v hj⟩
theorem Src.ofOwn {I:Nat→Prop}{t:Ty}{e:TypeId}{u:Value}{ys:List t.den}{cells:List Value}(ho:w.ownsRow 0 e t.wid u ys.length cells)(hc:Chk t ys cells fun _ y cs=>RdC I w t y cs):Src I w t u ys:=by
 rcases ho.2 with⟨rfl,h0⟩ | ⟨g,cap,cur,rfl,_⟩
 ·exact .inl ⟨0,rfl,List.eq_nil_of_length_eq_zero h0⟩
 ·exact .inr ⟨⟨g,0,none⟩,cap,cells,rfl,hc,ho.cells rfl⟩
theorem run_app_full {P:Program} {I:Nat→Prop} (t tyy e:TypeId) (i:TypeInfo) (z:Value) (ty:Ty) (ht:P.underlying t = some (.slice e)) (hi:P.info? e = some i) (hz:i.zero = some z)
  (hsz:i.size=ty.wid) (hzs:z.cells.size=ty.wid) (p:Option Addr) (n:Nat) (xs ys:List ty.den) (hx:RdV I w (.list ty) xs (.slice p n n)) (u:Value) (hu:Src I w ty u ys) (hne:ys≠[])
  (h63:xs.length+ys.length≤lim) (hbytes:(xs.length+ys.length)*i.bytes≤lim) :
  ∃v' w' news,(Builtin.append_ #[t,t] tyy #[.slice p n n,u]).run P w=.ok v' w'∧w'.ownsRow 0 e ty.wid v' (xs++ys).length news∧w.grownBy w' none ∧
   (∀b,v'.ownBlock=some b→w.heap.size≤b∧b<w'.heap.size)∧Chk ty (xs++ys) news (fun _ y cs=>RdC I w ty y cs):=by
 unfold lim at h63 hbytes;rcases hu with⟨c,rfl,rfl⟩ | ⟨ad,c,news,rfl,hn1,hn2⟩
 ·exact absurd rfl hne
 have hyl:0<ys.length:=List.length_pos_iff.2 hne;obtain⟨_,hsx⟩:=Src.ofRd hx;have fin:∀ (olds:List Value) (old:Nat),Chk ty xs olds (fun _ y cs=>RdC I w ty y cs)→old < xs.length + ys.length →
   (Builtin.append_ #[t,t] tyy #[.slice p n n,.slice (some ad) ys.length c]).run P w=.ok (.slice (some ⟨w.heap.size,0,none⟩) (xs.length+ys.length) (grownCap w (xs.length+ys.length) old e)) (w.drew.alloc (.cells (olds.toArray++news.toArray++Builtin.zeroCells z.cells (grownCap w (xs.length+ys.length) old e-(xs.length+ys.length))) e)) →
   ∃v' w' news,(Builtin.append_ #[t,t] tyy #[.slice p n n,.slice (some ad) ys.length c]).run P w=.ok v' w'∧w'.ownsRow 0 e ty.wid v' (xs++ys).length news∧w.grownBy w' none ∧
   (∀b,v'.ownBlock=some b→w.heap.size≤b∧b<w'.heap.size)∧Chk ty (xs++ys) news (fun _ y cs=>RdC I w ty y cs):=fun olds old ho hold hr=>by
  have hge:=grownCap_ge w (xs.length+ys.length) old e;have hcm:grownCap w (xs.length+ys.length) old e≤maxLen:=grownCap_le_maxLen w (xs.length+ys.length) old e (by simp only[maxLen];omega)
  have hlen:(olds++news).length=(xs.length+ys.length)*ty.wid:=by rw[List.length_append,ho.1,hn1.1,Nat.add_mul]
  refine⟨_,_,olds++news,hr,⟨by rw[List.length_append (as:=xs)];exact hlen,.inr ⟨w.heap.size,_,_,by rw[List.length_append],Nat.zero_le _,heap_alloc_new w.drew _,by rw[List.length_append];exact hge,hcm,?_,?_⟩⟩,⟨rfl,rfl,rfl,by simp,fun k hk _=>heap_alloc_old w.drew _ k hk⟩,fun b hb=>?_,?_⟩
  ·simp only[Array.size_append,List.size_toArray,size_zeroCells,hzs,ho.1,hn1.1,←Nat.add_mul];congr 1
   omega
  ·simp only[Array.toList_append,List.append_assoc];rw[←List.append_assoc,List.length_append (as:=xs),←hlen];exact List.take_left
  ·simp only[Value.ownBlock,Option.some.injEq]at hb;subst hb;exact⟨Nat.le_refl _,by simp⟩
  ·exact ho.append hn1 (fun i y cs _ hy=>hy) (fun i y cs _ hy=>hy)
 rcases hsx with⟨c',he,rfl⟩ | ⟨ad',c',olds,he,ho1,ho2⟩
 ·simp only[Value.slice.injEq]at he;obtain⟨rfl,rfl,_⟩:=he;have hr:=run_append_nil (P:=P) w t tyy e i z ht hi hz ad ys.length c news (by rw[hn1.1,hsz]) hn2 hyl (by simp only[List.length_nil,Nat.zero_add]at h63;omega) (by simp only[List.length_nil,Nat.zero_add]at hbytes;omega)
  exact fin [] 0 ⟨by simp,fun i y hi=>by simp at hi⟩ (by omega) (by simpa using hr)
 ·simp only[Value.slice.injEq]at he;obtain⟨rfl,rfl,_⟩:=he;have hr:=run_append_grow (P:=P) w t tyy e i z ht hi hz ad' xs.length xs.length olds (by rw[ho1.1,hsz]) ho2 ad ys.length c news (by rw[hn1.1,hsz]) hn2 (by omega) (by omega) (growslice_fits (by omega) hbytes)
  exact fin olds xs.length ho1 (by omega) hr
theorem run_app_src {P:Program} {I:Nat→Prop} (t tyy e:TypeId) (i:TypeInfo) (z:Value) (ty:Ty) (ht:P.underlying t = some (.slice e)) (hi:P.info? e = some i) (hz:i.zero = some z)
  (hsz:i.size=ty.wid) (hzs:z.cells.size=ty.wid) (v:Value) (xs ys:List ty.den) (cells:List Value) (hown:w.ownsRow 0 e ty.wid v xs.length cells)
  {R:Nat→ty.den→List Value→Prop} (hx:Chk ty xs cells R) (u:Value) (hu:Src I w ty u ys)
  (h63:xs.length+ys.length≤lim) (hbytes:(xs.length+ys.length)*i.bytes≤lim) :
  ∃v' w' news,(Builtin.append_ #[t,t] tyy #[v,u]).run P w=.ok v' w'∧w'.ownsRow 0 e ty.wid v' (xs++ys).length (cells++news)∧w.grownBy w' v.ownBlock ∧
   (∀b,v'.ownBlock=some b→v.ownBlock=some b∨(w.heap.size≤b∧b<w'.heap.size))∧Chk ty ys news (fun _ y cs=>RdC I w ty y cs) ∧
   (∀ad c,u=.slice (some ad) ys.length c→∀j v,news[j]? = some v→w.cell? (ad.add j)=some v):=by
 rcases hu with⟨c,rfl,rfl⟩ | ⟨ad,c,news,rfl,hn1,hn2⟩
 ·refine⟨v,w,[],?_,by simpa using hown,⟨rfl,rfl,rfl,Nat.le_refl _,fun _ _ _=>rfl⟩,fun b hb=>.inl hb,⟨by simp,fun i y hi=>by simp at hi⟩,fun ad c hx=>by simp at hx⟩
  rw[←hsz]at hown;exact run_app_none t tyy e i ht hi v xs.length cells hown c
 ·rw[←hsz]at hown hzs;obtain⟨v',w',h1,h2,h3,h4⟩:=run_app (P:=P) (w:=w) t tyy e i z ht hi hz hzs (by rw[hsz];exact ty.wid_pos) v xs.length cells hown ad ys.length c news (by rw[hn1.1,hsz]) hn2 hn1.one h63 hbytes
  refine⟨v',w',news,h1,by rw[List.length_append,←hsz];exact h2,h3,h4,hn1,fun ad' c' he=>?_⟩
  simp only[Value.slice.injEq,Option.some.injEq]at he;rw[←he.1];exact hn2
theorem srcK_some {σ1:Sg} {dp:Bool} {ty:Ty} {x:A} {k:Bool→List ty.den→Sg→Option ρ} {r:ρ} {u:Value} (h:RelG E G σ a w)
  (hsub:∀i o,σ1.ob i=some o→σ.ob i=some o) (hk:srcK σ1 dp ty x k=some r) (hv:VA (Imm E G σ w) σ.hp.length G w x u) :
  ∃dp' ys σ2,k dp' ys σ2=some r∧ys.length≤lim∧Src (Imm E G σ w) w ty u ys ∧
   ((σ2=σ1∧dp'=ty.flat)∨(∃id2 e2,u=(G id2).1∧σ1.ob id2=some (.own false true e2 ty ys)∧dp'=true∧dp=true∧σ2=setHp σ1 id2 none)):=by
 have plain:∀(x:L),VL (Imm E G σ w) σ.hp.length G w x u→rdL σ1 (.list ty) x (fun y=>k ty.flat y σ1)=some r→∃ys,k ty.flat ys σ1=some r∧ys.length≤lim∧Src (Imm E G σ w) w ty u ys:=by
  intro x hv hk;unfold rdL at hk;split at hk
  ·rename_i nn t' y;cases hc:castT t' (.list ty) y with
   | none=>simp[hc]at hk
   | some z =>
    simp only[hc,Option.bind_some]at hk;obtain⟨e,rfl⟩:=castT_some hc;subst e;obtain⟨h1,h2⟩:=Src.ofRd hv.1;exact⟨_,hk,h1,h2⟩
  ·simp only[VL]at hv;subst hv;exact⟨[],hk,Nat.zero_le _,.inl ⟨0,rfl,rfl⟩⟩
  ·rename_i id;split at hk
   ·rename_i ro dp2 e2 t' y ho;cases hc:castT (.list t') (.list ty) y with
    | none=>simp[hc]at hk
    | some z =>
     simp only[hc,Option.bind_some]at hk;obtain⟨e,rfl⟩:=castT_some hc;simp only[Ty.list.injEq]at e;subst e;have ho:=hsub _ _ ho;obtain⟨_,hv,_⟩:=hv;cases ro with
     | true =>
      have hor:=h.obs id _ ho;simp only[OR]at hor;rw[←hv]at hor;obtain⟨h1,h2⟩:=Src.ofRd hor;exact⟨_,hk,h1,h2⟩
     | false =>
      obtain⟨cells,h1,h2,h3⟩:=h.shallow ho;rw[←hv]at h1;exact⟨_,hk,h2,Src.ofOwn h1 h3⟩
   ·simp at hk
  ·simp at hk
 unfold srcK at hk;split at hk
 ·rename_i id wid l m;split at hk
  ·rename_i dp2 e2 t' y ho;split at hk
   ·rename_i hwid;cases hc:castT (.list t') (.list ty) y with
    | none=>simp[hc]at hk
    | some z =>
     simp only[hc,Option.bind_some]at hk;obtain⟨e,rfl⟩:=castT_some hc;simp only[Ty.list.injEq]at e;subst e;subst hwid;have ho:=hsub _ _ ho;obtain⟨_,p,n,c,hG,rfl,_⟩:=hv;obtain⟨cells,h1,h2,h3⟩:=h.shallow ho;have hk:(subl y ↑l ↑m).bind (fun q=>k t'.flat q σ1)=some r:=hk;unfold subl at hk;split at hk
     ·rename_i hb;simp only[Option.bind_some,Int.toNat_natCast]at hk;have hlm:l≤m∧m≤y.length:=by omega
      have hlen:((y.take m).drop l).length=m-l:=by rw[List.length_drop,List.length_take];omega
      refine⟨_,_,_,hk,by show((y.take m).drop l).length≤lim;omega,?_,.inl ⟨rfl,rfl⟩⟩
      show Src _ _ _ _ ((y.take m).drop l);rcases h1.2 with⟨hv',hn⟩ | ⟨g,cap,cur,hv',hg,hh,hnc,hcm,hcs,htake⟩
      ·rw[hG]at hv';simp only[Value.slice.injEq]at hv';obtain⟨rfl,rfl,rfl⟩:=hv';have hl:l=0:=by omega
       have hm:m=0:=by omega
       subst hl;subst hm;exact .inl ⟨0,rfl,by simp⟩
      ·rw[hG]at hv';simp only[Value.slice.injEq]at hv';obtain⟨rfl,rfl,rfl⟩:=hv';have hcell:∀(j:Nat) (v:Value),cells[j]? = some v→w.cell? ⟨g,j,none⟩=some v:=fun j v hj=>by
        have:=h1.cells (g:=g) (by rw[hG];rfl) j v hj
        rwa [show(⟨g,0,none⟩:Addr).add j=⟨g,j,none⟩from by rw[add_none,Nat.zero_add]]at this
       by_cases hcl:c=l
       ·have:m-l=0:=by omega
        rw[if_pos hcl];have hd0:(y.take m).drop l=[]:=List.eq_nil_of_length_eq_zero (by omega)
        rw[hd0,this];exact .inr ⟨⟨g,0,none⟩,_,[],rfl,⟨by simp,fun i y hi=>by simp at hi⟩,fun j v hj=>by simp at hj⟩
       ·rw[if_neg hcl];refine .inr ⟨⟨g,l*t'.wid,none⟩,c-l,(cells.take (m*t'.wid)).drop (l*t'.wid),?_,⟨?_,fun i q hi=>?_⟩,fun j v hj=>?_⟩
        ·rw[hlen];simp[add_none]
        ·rw[hlen,List.length_drop,List.length_take,h3.1];have h4:=Nat.mul_le_mul_right t'.wid hlm.1;have h5:=Nat.mul_le_mul_right t'.wid hlm.2;rw[Nat.sub_mul];omega
        ·have hi':y[l+i]? = some q∧l+i<m:=by
          rw[List.getElem?_drop,List.getElem?_take]at hi;split at hi
          ·exact⟨hi,by omega⟩
          ·simp at hi
         obtain⟨ys,hy1,hy2,hy3⟩:=h3.2 _ q hi'.1;refine⟨ys,hy1,fun j hj=>?_,hy3⟩;rw[←hy2 j hj,List.getElem?_drop,List.getElem?_take];have h6:(l+i)*t'.wid+j<m*t'.wid:=chunk_lt hi'.2 hj;rw[if_pos (by rw[Nat.add_mul]at h6;omega)]
         congr 1
         rw[Nat.add_mul];omega
        ·rw[List.getElem?_drop,List.getElem?_take]at hj;split at hj
         ·rw[add_none];exact hcell _ v hj
         ·simp at hj
     ·simp at hk
   ·simp at hk
  ·simp at hk
 ·rename_i x _;split at hk
  ·rename_i id hdp _;split at hk
   ·rename_i e2 t' y ho;cases hc:castT (.list t') (.list ty) y with
    | none=>simp[hc]at hk
    | some z =>
     simp only[hc,Option.bind_some]at hk;obtain⟨e,rfl⟩:=castT_some hc;simp only[Ty.list.injEq]at e;subst e;have ho':=hsub _ _ ho;obtain⟨_,hv,_⟩:=hv;obtain⟨cells,h1,h2,h3⟩:=h.shallow ho';rw[←hv]at h1;simp only[Bool.and_eq_true]at hdp;exact⟨_,_,_,hk,h2,Src.ofOwn h1 h3,.inr ⟨id,e2,hv,ho,rfl,hdp.1,rfl⟩⟩
   ·obtain⟨ys,h1,h2,h3⟩:=plain (.ref id) hv hk;exact⟨_,ys,_,h1,h2,h3,.inl ⟨rfl,rfl⟩⟩
  ·obtain⟨ys,h1,h2,h3⟩:=plain _ (show VL _ _ _ _ _ _ from hv) hk
   exact⟨_,ys,_,h1,h2,h3,.inl ⟨rfl,rfl⟩⟩
 ·simp at hk
structure Hold (E:En) (G:Gh) (σ:Sg) (w:World) (e:TypeId) (ty:Ty) (v:Value) (xs:List ty.den) (dp:Bool) (ds:List Nat):Prop where
 obj:(v=.slice none 0 0∧xs=[]∧dp=true∧ds=[])∨∃id,ds=[id]∧v=(G id).1∧σ.ob id=some (.own false dp e ty xs)
theorem append_core0 {e:TypeId} {ty:Ty} {v u:Value} {xs ys:List ty.den} {dp dp':Bool} {ds:List Nat} {σ2:Sg} {ds2:List Nat}
  (h:RelG E G σ a w) (hold:Hold E G σ w e ty v xs dp ds)
  (M:TypeId→Sem Value) (hR:∀cells,w.ownsRow 0 e ty.wid v xs.length cells→Chk ty xs cells (fun _ y ys=>RdC (Imm E G σ w) w ty y ys)→∃v' w' news,(∀tyy,(M tyy).run C.P w=.ok v' w')∧w'.ownsRow 0 e ty.wid v' (xs++ys).length (cells++news)∧w.grownBy w' v.ownBlock ∧
   (∀b,v'.ownBlock=some b→v.ownBlock=some b∨(w.heap.size≤b∧b<w'.heap.size))∧Chk ty ys news (fun _ y cs=>RdC (Imm E G σ w) w ty y cs) ∧
   (∀ad c,u=.slice (some ad) ys.length c→∀j v,news[j]? = some v→w.cell? (ad.add j)=some v))
  (hcase:(dp'=ty.flat∧ds2=[])∨(∃id2 e2,ds2=[id2]∧u=(G id2).1∧σ.ob id2=some (.own false true e2 ty ys)∧dp'=true∧dp=true∧id2∉ds))
  (hσ2:∀i,σ2.ob i=if i∈ds++ds2 then none else σ.ob i) (hσe:σ2.env=σ.env) (hσl:σ2.hp.length=σ.hp.length)
  (h63:xs.length+ys.length≤lim) :
  ∃v' w',(∀tyy,(M tyy).run C.P w=.ok v' w')∧∃G',RelG E G' (addHp σ2 (.own false dp' e ty (xs++ys))) a w'∧GA E σ (addHp σ2 (.own false dp' e ty (xs++ys))) G G' w w' ∧
   VL (Imm E G' (addHp σ2 (.own false dp' e ty (xs++ys))) w') (addHp σ2 (.own false dp' e ty (xs++ys))).hp.length G' w' (.ref σ2.hp.length) v':=by
 obtain ⟨cells,bss,hown,hbss,hchk,hdeep,hval⟩:∃ (cells:List Value) (bss:List (List Nat)),w.ownsRow 0 e ty.wid v xs.length cells∧(bss.length = xs.length∨(dp = false∧bss = [])) ∧
   Chk ty xs cells (fun _ y ys=>RdC (Imm E G σ w) w ty y ys)∧(dp=true→Chk ty xs cells fun i y ys=>DpC 0 w ty y ys (bss[i]?.getD [])) ∧
   (∀id∈ds,v=(G id).1∧σ.ob id=some (.own false dp e ty xs)∧(G id).2=v.ownBlock.toList++bss.flatten):=by
  rcases hold.obj with⟨rfl,rfl,rfl,rfl⟩ | ⟨id,rfl,rfl,ho⟩
  ·exact⟨[],[],World.ownsRow_nil w 0 e ty.wid,.inl rfl,⟨by simp,fun i y hi=>by simp at hi⟩,fun _=>⟨by simp,fun i y hi=>by simp at hi⟩,fun id hid=>by simp at hid⟩
  ·have hor:=h.obs id _ ho;simp only[OR]at hor;obtain⟨hl,cells,bss,how,hbs,hd1,hd2,hc⟩:=hor.chk;refine⟨cells,bss,how,?_,?_,fun hdp=>?_,fun id' hid'=>?_⟩
   ·cases dp with
    | true=>exact .inl (hd1 rfl)
    | false=>exact .inr ⟨rfl,hd2 rfl⟩
   ·refine hc.imp fun i y ys hi hy=>?_;cases dp with
    | false=>simpa using hy
    | true =>
     simp only[if_true]at hy;refine hy.rd ty fun b hb=>h.ownRows ho how hbs (by have:=(List.getElem?_eq_some_iff.1 hi).1;omega) b ?_
     cases hgi:bss[i]? with
     | none=>simp[hgi]at hb
     | some l=>simp only[hgi,Option.getD_some]at hb;exact List.mem_flatten.2 ⟨l,List.mem_of_getElem? hgi,hb⟩
   ·subst hdp;simpa using hc
   ·simp only[List.mem_singleton]at hid';subst hid';exact⟨rfl,ho,hbs⟩
 obtain⟨v',w',news,hrun,hown',hgrow,hblk,hnews,hnadr⟩:=hR cells hown hchk;refine⟨v',w',hrun,?_⟩;obtain ⟨bss2,hb2len,hb2own,hdeep2⟩:∃ bss2:List (List Nat),(dp' = true→bss2.length = ys.length)∧(∀ b∈bss2.flatten,∃ id2∈ds2,∃ e2,σ.ob id2 = some (.own false true e2 ty ys)∧(G id2).2 = u.ownBlock.toList ++ bss2.flatten∧dp = true∧id2∉ds∧0 < ys.length∧u = (G id2).1) ∧
   (dp'=true→Chk ty ys news fun i y cs=>DpC 0 w ty y cs (bss2[i]?.getD [])):=by
  rcases hcase with⟨rfl,rfl⟩ | ⟨id2,e2,rfl,rfl,ho2,rfl,rfl,hnin⟩
  ·refine⟨List.replicate ys.length [],by simp,fun b hb=>by simp at hb,fun hf=>hnews.imp fun i y cs hi hy=>?_⟩
   have:(List.replicate ys.length ([]:List Nat))[i]?.getD []=[]:=by
    rw[List.getElem?_replicate];split<;>rfl
   rw[this];exact flat_Dp ty hf hy
  ·have hor:=h.obs id2 _ ho2;simp only[OR]at hor;obtain⟨hl,cells2,bss2,how2,hbs2,hd1,hd2,hc2⟩:=hor.chk;simp only[if_true]at hc2;refine⟨bss2,fun _=>hd1 rfl,fun b hb=>⟨id2,by simp,e2,ho2,hbs2,rfl,hnin,?_,rfl⟩,fun _=>?_⟩
   ·rcases Nat.eq_zero_or_pos ys.length with h0 | h0
    ·have hb20:bss2=[]:=List.eq_nil_of_length_eq_zero (by rw[hd1 rfl,h0])
     subst hb20;simp at hb
    ·exact h0
   ·
    rcases Nat.eq_zero_or_pos ys.length with h0 | h0
    ·have hy0:ys=[]:=List.eq_nil_of_length_eq_zero h0;subst hy0;exact⟨hnews.1,fun i y hi=>by simp at hi⟩
    ·rcases how2.2 with⟨_,hn⟩ | ⟨g,cap,cur,hg,_⟩
     ·omega
     ·have hcl:=how2.cells (g:=g) (by rw[hg];rfl)
      have heq:news=cells2:=by
       apply List.ext_getElem?
       intro j;by_cases hj:j<ys.length*ty.wid
       ·have h1:news[j]? = some (news[j]'(by rw[hnews.1];exact hj)):=List.getElem?_eq_getElem _
        have h2:cells2[j]? = some (cells2[j]'(by rw[hc2.1];exact hj)):=List.getElem?_eq_getElem _
        have h3:=hnadr _ _ hg _ _ h1;have h4:=hcl _ _ h2;rw[h3]at h4;rw[h1,h2,Option.some.inj h4]
       ·rw[List.getElem?_eq_none (by rw[hnews.1];omega),List.getElem?_eq_none (by rw[hc2.1];omega)]
      rw[heq];exact hc2
 let bssN:List (List Nat):=if dp'=true then(if dp=true then bss else List.replicate xs.length [])++bss2 else []
 have hmemN:∀b∈bssN.flatten,(dp'=true)∧((dp=true∧b∈bss.flatten)∨b∈bss2.flatten):=by
  intro b hb;simp only[bssN]at hb;split at hb
  ·rename_i hd;rw[List.flatten_append,List.mem_append]at hb;rcases hb with hb | hb
   ·split at hb
    ·rename_i hd2;exact⟨hd,.inl ⟨hd2,hb⟩⟩
    ·simp at hb
   ·exact⟨hd,.inr hb⟩
  ·simp at hb
 have hposX:∀b,b∈bss.flatten→∃id∈ds,0<xs.length:=by
  intro b hb;have hx:0<xs.length:=by
   rcases hbss with hbl | ⟨_,hbl⟩
   ·rcases Nat.eq_zero_or_pos xs.length with h0 | h0
    ·have:bss=[]:=List.eq_nil_of_length_eq_zero (by rw[hbl,h0])
     subst this;simp at hb
    ·exact h0
   ·subst hbl;simp at hb
  rcases hold.obj with⟨_,hxs,_,_⟩ | ⟨id,hds,_,_⟩
  ·subst hxs;simp at hx
  ·exact⟨id,by rw[hds];simp,hx⟩
 have hown2:∀b∈bss.flatten,∃id∈ds,∃o',σ.ob id=some o'∧o'.ro=false∧b∈(G id).2:=fun b hb=>by
  obtain⟨id,hid,_⟩:=hposX b hb;obtain⟨_,ho,hG⟩:=hval id hid;exact⟨id,hid,_,ho,rfl,by rw[hG];exact List.mem_append_right _ hb⟩
 have hown3:∀b∈bss2.flatten,∃id∈ds2,∃o',σ.ob id=some o'∧o'.ro=false∧b∈(G id).2:=fun b hb=>by
  obtain⟨id2,hid2,e2,ho2,hG2,_⟩:=hb2own b hb;exact⟨id2,hid2,_,ho2,rfl,by rw[hG2];exact List.mem_append_right _ hb⟩
 have hlt:∀b,(b∈bss.flatten∨b∈bss2.flatten)→b<w.heap.size:=fun b hb=>by
  rcases hb with hb | hb
  ·obtain⟨id,_,o',ho,hr,hm⟩:=hown2 b hb;exact(h.range id o' ho hr b hm).1
  ·obtain⟨id,_,o',ho,hr,hm⟩:=hown3 b hb;exact(h.range id o' ho hr b hm).1
 have hnotv:∀b,(b∈bss.flatten∨b∈bss2.flatten)→some b≠v.ownBlock:=fun b hb he=>by
  rcases hold.obj with⟨hv,_,_,_⟩ | ⟨id,hds,hv,ho⟩
  ·rw[hv]at he;simp[Value.ownBlock]at he
  ·obtain⟨_,_,hG⟩:=hval id (by rw[hds];simp)
   rw[←he]at hG;simp only[Option.toList_some,List.singleton_append]at hG;rcases hb with hb | hb
   ·have:=h.nodup id _ ho rfl;rw[hG]at this;exact(List.nodup_cons.1 this).1 hb
   ·obtain⟨id2,hid2,e2,ho2,hG2,_,hnin,_⟩:=hb2own b hb;exact h.disj id2 id _ _ ho2 rfl ho rfl (fun e=>hnin (by rw[e,hds];simp)) b (by rw[hG2];exact List.mem_append_right _ hb) (by rw[hG];simp)
 have hvhead:∀b,v.ownBlock=some b→∃id∈ds,∃o',σ.ob id=some o'∧o'.ro=false∧(G id).2.head? = some b∧b<w.heap.size:=fun b hb=>by
  rcases hold.obj with⟨hv,_,_,_⟩ | ⟨id,hds,hv,ho⟩
  ·rw[hv]at hb;simp[Value.ownBlock]at hb
  ·obtain⟨_,_,hG⟩:=hval id (by rw[hds];simp)
   have hhd:(G id).2.head? = some b:=by rw[hG,hb];rfl
   exact⟨id,by rw[hds];simp,_,ho,rfl,hhd,(h.range id _ ho rfl b (List.mem_of_mem_head? hhd)).1⟩
 obtain⟨G',hrel,hG',hkeep⟩:=h.chg (σ':=addHp σ2 (.own false dp' e ty (xs++ys))) (ds++ds2) σ.hp.length (.own false dp' e ty (xs++ys)) v' (v'.ownBlock.toList++bssN.flatten)
  (fun j => by rw [ob_addHp, hσl]; split
               ·rfl
               ·exact hσ2 j) hσe (by simp[hσl]) (.inl rfl) rfl hgrow.os hgrow.tape ⟨hgrow.output,fun _=>run_drawn _ (hrun 0)⟩ hgrow.size
  (fun b hb hd=>hgrow.block b hb fun he=>by
   obtain⟨id,hid,o',ho,hr,hh,_⟩:=hvhead b he.symm;exact hd id (List.mem_append_left _ hid) o' ho hr hh)
  (by
   rw[List.nodup_append];refine⟨by cases v'.ownBlock<;>simp,?_,fun b hb c hc hbc=>?_⟩
   ·simp only[bssN];split
    ·rename_i hd';rw[List.flatten_append,List.nodup_append];refine⟨?_,?_,fun b hb c hc hbc=>?_⟩
     ·split
      ·cases hn:bss.flatten with
       | nil=>exact List.nodup_nil
       | cons b l =>
        rw[←hn];obtain⟨id,hid,_⟩:=hposX b (by rw[hn];simp)
        obtain⟨_,ho,hG⟩:=hval id hid;have:=h.nodup id _ ho rfl;rw[hG,List.nodup_append]at this;exact this.2.1
      ·simp
     ·cases hn:bss2.flatten with
      | nil=>exact List.nodup_nil
      | cons b l =>
       rw[←hn];obtain⟨id2,hid2,e2,ho2,hG2,_⟩:=hb2own b (by rw[hn];simp)
       have:=h.nodup id2 _ ho2 rfl;rw[hG2,List.nodup_append]at this;exact this.2.1
     ·subst hbc;split at hb
      ·obtain⟨id,hid,o',ho,hr,hm⟩:=hown2 b hb;obtain⟨id2,hid2,e2,ho2,hG2,_,hnin,_⟩:=hb2own b hc;exact h.disj id id2 _ _ ho hr ho2 rfl (fun e=>hnin (e▸hid)) b hm (by rw[hG2];exact List.mem_append_right _ hc)
      ·simp at hb
    ·simp
   ·subst hbc;simp only[Option.mem_toList]at hb;have hbN:=(hmemN b hc).2;have hbN':b∈bss.flatten∨b∈bss2.flatten:=hbN.imp (·.2) id;rcases hblk b hb with h1 | h1
    ·exact hnotv b hbN' h1.symm
    ·have:=hlt b hbN';omega)
  (fun b hb=>by
   rcases List.mem_append.1 hb with hb | hb
   ·simp only[Option.mem_toList]at hb;rcases hblk b hb with h1 | h1
    ·obtain⟨id,hid,o',ho,hr,hh,hl⟩:=hvhead b h1;exact .inr ⟨hl,id,List.mem_append_left _ hid,o',ho,hr,List.mem_of_mem_head? hh⟩
    ·exact .inl h1
   ·rcases(hmemN b hb).2 with⟨_,h1⟩ | h1
    ·obtain⟨id,hid,o',ho,hr,hm⟩:=hown2 b h1;exact .inr ⟨hlt b (.inl h1),id,List.mem_append_left _ hid,o',ho,hr,hm⟩
    ·obtain⟨id,hid,o',ho,hr,hm⟩:=hown3 b h1;exact .inr ⟨hlt b (.inr h1),id,List.mem_append_right _ hid,o',ho,hr,hm⟩)
  (fun b hb=>by
   cases hv':v'.ownBlock with
   | some g =>
    rw[hv']at hb;simp only[Option.toList_some,List.singleton_append,List.head?_cons,Option.some.injEq]at hb;subst hb;rcases hblk g hv' with h1 | h1
    ·obtain⟨id,hid,o',ho,hr,hh,_⟩:=hvhead g h1;exact .inr ⟨id,List.mem_append_left _ hid,o',ho,hr,hh⟩
    ·exact .inl h1.1
   | none =>
    rcases hown'.2 with⟨_,hn⟩ | ⟨g,cap,cur,hg,_⟩
    ·have hx0:xs.length=0∧ys.length=0:=by rw[List.length_append]at hn;omega
     rw[hv']at hb;simp only[Option.toList_none,List.nil_append]at hb;have hm:=(hmemN b (List.mem_of_mem_head? hb)).2;rcases hm with⟨_,hm⟩ | hm
     ·obtain⟨_,_,hp⟩:=hposX b hm;omega
     ·obtain⟨_,_,_,_,_,_,_,hp,_⟩:=hb2own b hm;omega
    ·rw[hg]at hv';simp[Value.ownBlock]at hv')
  (fun I G' k hG=>by
   simp only[OR,hG];have hkb:∀b,(b∈bss.flatten∨b∈bss2.flatten)→w'.heap[b]? = w.heap[b]?:=fun b hb=>hgrow.block b (hlt b hb) (hnotv b hb);have hmemI:∀(l:List (List Nat)) (i b:Nat),b∈l[i]?.getD []→b∈l.flatten:=fun l i b hb=>by
    cases hgi:l[i]? with
    | none=>simp[hgi]at hb
    | some q=>simp only[hgi,Option.getD_some]at hb;exact List.mem_flatten.2 ⟨q,List.mem_of_getElem? hgi,hb⟩
   refine OwnV.mk (cells:=cells++news) (bss:=bssN) (by rw[List.length_append];exact h63) hown' rfl (fun hd=>?_) (fun hd=>by simp[bssN,hd]) ?_
   ·simp only[bssN,hd,if_true,List.length_append,hb2len hd];congr 1
    split
    ·rename_i hdp;rcases hbss with hbl | ⟨hf,_⟩
     ·exact hbl
     ·rw[hdp]at hf;simp at hf
    ·simp
   ·cases hd:dp' with
    | false =>
     exact hchk.append hnews (fun i y cs _ hy=>by simpa using hy.mono k.imm k.heap ty) (fun i y cs _ hy=>by simpa using hy.mono k.imm k.heap ty)
    | true =>
     have hleft:(if dp=true then bss else List.replicate xs.length []).length=xs.length:=by
      split
      ·rename_i hdp;rcases hbss with hbl | ⟨hf,_⟩
       ·exact hbl
       ·rw[hdp]at hf;simp at hf
      ·simp
     have hfl:dp=false→ty.flat=true:=fun hf=>by
      rcases hcase with⟨h1,_⟩ | ⟨_,_,_,_,_,_,h1,_⟩
      ·rw[←h1,hd]
      ·rw[hf]at h1;simp at h1
     have hx2:Chk ty xs cells fun i y cs=>DpC 0 w' ty y cs (((if dp=true then bss else List.replicate xs.length []))[i]?.getD []):=by
      cases hdp:dp with
      | true =>
       simp only[if_true];exact(hdeep hdp).imp fun i y cs hi hy=>hy.mono (Nat.le_refl _) ty fun b hb=>hkb b (.inl (hmemI _ _ _ hb))
      | false =>
       refine hchk.imp fun i y cs hi hy=>?_;have:(List.replicate xs.length ([]:List Nat))[i]?.getD []=[]:=by
        rw[List.getElem?_replicate];split<;>rfl
       simp only[Bool.false_eq_true,if_false,this];exact flat_Dp ty (hfl hdp) (flat_RdC (I':=I) ty (hfl hdp) hy)
     refine hx2.append (hdeep2 hd) (fun i y cs hlt hy=>?_) (fun i y cs hlt hy=>?_)
     ·simp only[if_true,bssN,hd];rw[List.getElem?_append_left (by rw[hleft];exact hlt)]
      exact hy
     ·simp only[if_true,bssN,hd];rw[List.getElem?_append_right (by rw[hleft];omega),hleft,Nat.add_sub_cancel_left]
      exact hy.mono (Nat.le_refl _) ty fun b hb=>hkb b (.inr (hmemI _ _ _ hb)))
 refine⟨G',hrel,hkeep,by simp[addHp],by rw[hσl];exact hG'.symm,?_⟩
 rcases hown'.2 with⟨hv',_⟩ | ⟨g,cap,cur,hv',_⟩
 ·rw[hv'];rfl
 ·rw[hv'];rfl
theorem append_core {e:TypeId} {ty:Ty} {v u:Value} {xs ys:List ty.den} {dp dp':Bool} {ds:List Nat} {tS:TypeId} {σ2:Sg} {ds2:List Nat}
  (h:RelG E G σ a w) (hold:Hold E G σ w e ty v xs dp ds) (hsrc:Src (Imm E G σ w) w ty u ys)
  (hcase:(dp'=ty.flat∧ds2=[])∨(∃id2 e2,ds2=[id2]∧u=(G id2).1∧σ.ob id2=some (.own false true e2 ty ys)∧dp'=true∧dp=true∧id2∉ds))
  (hσ2:∀i,σ2.ob i=if i∈ds++ds2 then none else σ.ob i) (hσe:σ2.env=σ.env) (hσl:σ2.hp.length=σ.hp.length)
  (ht:elT C tS=some e) (hsz:szT C e=some ty.wid) {by_:Nat} (hby:byT C e=some by_) (hz:(((C.P.info? e).bind (·.zero)).map fun z=>z.cells.size==ty.wid)=some true)
  (h63:xs.length+ys.length≤lim) (hbytes:(xs.length+ys.length)*by_≤lim) :
  ∃v' w',(∀tyy,(Builtin.append_ #[tS,tS] tyy #[v,u]).run C.P w=.ok v' w')∧∃G',RelG E G' (addHp σ2 (.own false dp' e ty (xs++ys))) a w'∧GA E σ (addHp σ2 (.own false dp' e ty (xs++ys))) G G' w w' ∧
   VL (Imm E G' (addHp σ2 (.own false dp' e ty (xs++ys))) w') (addHp σ2 (.own false dp' e ty (xs++ys))).hp.length G' w' (.ref σ2.hp.length) v':=by
 obtain⟨i,hi,hisz⟩:=szT_some hsz;obtain⟨i',hi',hib⟩:=byT_some hby;rw[hi]at hi';obtain rfl:=Option.some.inj hi';obtain⟨z,hiz,hzs⟩:∃z,i.zero=some z∧z.cells.size=ty.wid:=by
  simp only[hi,Option.bind_some]at hz;cases hzz:i.zero with
  | none=>simp[hzz]at hz
  | some z=>simp[hzz]at hz;exact⟨z,rfl,hz⟩
 exact append_core0 h hold (fun tyy=>Builtin.append_ #[tS,tS] tyy #[v,u]) (fun cells hown hchk=>by
  obtain⟨v',w',news,h1,h2⟩:=run_app_src (P:=C.P) tS 0 e i z ty (elT_some ht) hi hiz hisz hzs v xs ys cells hown hchk u hsrc h63 (by rw[hib];exact hbytes)
  exact⟨v',w',news,fun _=>h1,h2⟩) hcase hσ2 hσe hσl h63
end
open Go
set_option linter.all false
section
variable {ρ:Type}{C:Ctx}{E:En}{G:Gh}{σ:Sg}{a:Act}{w:World}
theorem appD_some {α β:Type} {n:Nat} {xs ys:List α} {k:List α→Option β} {r:β} (h:(appD n xs ys).bind k = some r) :
  (xs.length+ys.length)*n≤lim∧xs.length+ys.length≤lim∧k (xs++ys)=some r:=by
 unfold appD at h;split at h
 ·rename_i hc;exact⟨hc.1,hc.2,h⟩
 ·simp at h
theorem appendLK_some {ts:Array TypeId} {s x:A} {k:A→Sg→Option ρ} {r:ρ} {v u:Value} (h:RelG E G σ a w) (hk:appendLK C σ ts s x k = some r)
  (hv:VA (Imm E G σ w) σ.hp.length G w s v) (hu:VA (Imm E G σ w) σ.hp.length G w x u) :
  ∃v' w',(∀tyy,(Builtin.append_ ts tyy #[v,u]).run C.P w=.ok v' w')∧OpOut C E G σ a w k r (.ok (.value v') w'):=by
 unfold appendLK at hk;split at hk
 ·rename_i tS tX hts;obtain⟨rfl⟩:ts=#[tS,tX]:=by
   cases ts with
   | mk l=>simp at hts;rw[hts]
  split at hk
  ·rename_i e he;split at hk
   ·rename_i ty by_ hlook hby;split at hk
    ·rename_i hc;obtain⟨hsz,rfl,hz⟩:=hc;split at hk
     ·
      simp only[VA,VL]at hv;subst hv;obtain⟨dp',ys,σ2,hk,hyl,hsrc,hcase⟩:=srcK_some h (fun i o ho=>ho) hk hu;obtain⟨hb1,hb2,hk⟩:=appD_some hk;rcases hcase with⟨rfl,rfl⟩ | ⟨id2,e2,hu2,ho2,rfl,_,rfl⟩
      ·obtain⟨v',w',hrun,G',hrel,hga,hvl⟩:=append_core (C:=C) (σ2:=σ2) (xs:=[]) (dp:=true) (ds:=[]) (ds2:=[]) h ⟨.inl ⟨rfl,rfl,rfl,rfl⟩⟩ hsrc (.inl ⟨rfl,rfl⟩) (fun i=>by simp) rfl rfl he hsz hby hz hb2 hb1
       exact⟨v',w',hrun,_,_,hk,Kp.add _ _,G',hrel,hga,hvl⟩
      ·obtain⟨v',w',hrun,G',hrel,hga,hvl⟩:=append_core (C:=C) (σ2:=setHp σ id2 none) (xs:=[]) (dp:=true) (ds:=[]) (ds2:=[id2]) h ⟨.inl ⟨rfl,rfl,rfl,rfl⟩⟩ hsrc (.inr ⟨id2,e2,rfl,hu2,ho2,rfl,rfl,by simp⟩)
        (fun i=>by rw[ob_setHp];have:=Sg.ob_lt ho2;by_cases hi:i=id2<;>simp[hi,this]) rfl (by simp) he hsz hby hz hb2 hb1
       exact⟨v',w',hrun,_,_,hk,(Kp.set _ ho2 rfl).trans (Kp.add _ _),G',hrel,hga,hvl⟩
     ·rename_i id;obtain⟨hid,rfl,_⟩:=hv;split at hk
      ·rename_i dp e' ty' xs ho;split at hk
       ·rename_i he';subst he';cases hca:castT (.list ty') (.list ty) xs with
        | none=>simp[hca]at hk
        | some xs2 =>
         simp only[hca,Option.bind_some]at hk;obtain⟨e0,rfl⟩:=castT_some hca;simp only[Ty.list.injEq]at e0;subst e0;have hlt:=Sg.ob_lt ho;have hsub:∀i o,(setHp σ id none).ob i=some o→σ.ob i=some o:=fun i o hi=>by
          rw[ob_setHp]at hi;split at hi
          ·simp at hi
          ·exact hi
         obtain⟨dp',ys,σ2,hk,hyl,hsrc,hcase⟩:=srcK_some h hsub hk hu;obtain⟨hb1,hb2,hk⟩:=appD_some hk;rcases hcase with⟨rfl,rfl⟩ | ⟨id2,e2,hu2,ho2,rfl,rfl,rfl⟩
         ·obtain⟨v',w',hrun,G',hrel,hga,hvl⟩:=append_core (C:=C) (σ2:=setHp σ id none) (ds:=[id]) (ds2:=[]) h ⟨.inr ⟨id,rfl,rfl,ho⟩⟩ hsrc (.inl ⟨rfl,rfl⟩)
           (fun i=>by rw[ob_setHp];by_cases hi:i=id<;>simp[hi,hlt]) rfl (by simp) he hsz hby hz hb2 hb1
          exact⟨v',w',hrun,_,_,hk,(Kp.set _ ho rfl).trans (Kp.add _ _),G',hrel,hga,hvl⟩
         ·have hne:id2≠id:=fun e=>by
           subst e;rw[ob_setHp]at ho2;simp[hlt]at ho2
          obtain⟨v',w',hrun,G',hrel,hga,hvl⟩:=append_core (C:=C) (σ2:=setHp (setHp σ id none) id2 none) (ds:=[id]) (ds2:=[id2]) h ⟨.inr ⟨id,rfl,rfl,ho⟩⟩ hsrc (.inr ⟨id2,e2,rfl,hu2,hsub _ _ ho2,rfl,rfl,by simpa using hne⟩)
           (fun i=>by
            have h2:=Sg.ob_lt ho2;rw[ob_setHp,ob_setHp];by_cases hi:i=id2
            ·simp[hi,h2]at h2 ⊢;omega
            ·by_cases hi':i=id<;>simp[hi,hi',hlt]) rfl (by simp) he hsz hby hz hb2 hb1
          exact⟨v',w',hrun,_,_,hk,((Kp.set _ ho rfl).trans (Kp.set _ ho2 rfl)).trans (Kp.add _ _),G',hrel,hga,hvl⟩
       ·simp at hk
      ·simp at hk
     ·rename_i ty' xs;obtain⟨hv,p,n,rfl⟩:=hv;cases hca:castT (.list ty') (.list ty) xs with
      | none=>simp[hca]at hk
      | some xs2 =>
       simp only[hca,Option.bind_some]at hk;obtain⟨e0,rfl⟩:=castT_some hca;simp only[Ty.list.injEq]at e0;subst e0;obtain⟨dp',ys,σ2,hk,hyl,hsrc,hcase⟩:=srcK_some h (fun i o ho=>ho) hk hu;rcases hcase with⟨rfl,rfl⟩ | ⟨_,_,_,_,_,hf,_⟩
       ·have hne:ys≠[]:=by
         intro h0;subst h0;simp[nneD]at hk
        have hk:(nneD ys).bind (fun _=>(appD by_ xs ys).bind fun zs=>k (.l (.ref σ2.hp.length)) (addHp σ2 (.own false ty'.flat e ty' zs)))=some r:=hk;have hnn:nneD ys=some ():=by unfold nneD;cases ys with
         | nil=>exact absurd rfl hne
         | cons _ _=>rfl
        rw[hnn,Option.bind_some]at hk;obtain⟨hb1,hb2,hk⟩:=appD_some hk;obtain⟨i,hi,hisz⟩:=szT_some hsz;obtain⟨i',hi',hib⟩:=byT_some hby;rw[hi]at hi';obtain rfl:=Option.some.inj hi';obtain⟨z,hiz,hzs⟩:∃z,i.zero=some z∧z.cells.size=ty'.wid:=by
         simp only[hi,Option.bind_some]at hz;cases hzz:i.zero with
         | none=>simp[hzz]at hz
         | some z=>simp[hzz]at hz;exact⟨z,rfl,hz⟩
        obtain⟨v',w',hrun,G',hrel,hga,hvl⟩:=append_core0 (C:=C) (ty:=ty') (v:=.slice none 0 0) (u:=.slice none 0 0) (σ2:=σ2) (xs:=[]) (ys:=xs++ys) (dp:=true) (dp':=ty'.flat) (ds:=[]) (ds2:=[]) h ⟨.inl ⟨rfl,rfl,rfl,rfl⟩⟩
         (fun tyy=>Builtin.append_ #[tS,tS] tyy #[.slice p n n,u])
         (fun cells hown _=>by
          have hc0:cells=[]:=List.eq_nil_of_length_eq_zero (by have:=hown.1;simpa using this)
          subst hc0;obtain⟨v',w',news,h1,h2,h3,h4,h5⟩:=run_app_full (P:=C.P) tS 0 e i z ty' (elT_some he) hi hiz hisz hzs p n xs ys hv u hsrc hne hb2 (by rw[hib];exact hb1)
          exact⟨v',w',news,fun _=>h1,by simpa using h2,h3,fun b hb=>.inr (h4 b hb),h5,fun ad c hx=>by simp at hx⟩)
         (.inl ⟨rfl,rfl⟩) (fun i=>by simp) rfl rfl (by simpa using hb2)
        exact⟨v',w',hrun,_,_,hk,Kp.add _ _,G',hrel,hga,hvl⟩
       ·cases hf
     ·simp at hk
    ·simp at hk
   ·simp at hk
  ·simp at hk
 ·simp at hk
theorem bytesI_cells (q:ByteArray):(bytesI q).length=q.size∧∀(i:Nat) (y:Int),(bytesI q)[i]? = some y→(Lib.strCells q)[i]? = some (.int .u8 y):=by
 refine⟨by unfold bytesI;rw[List.length_map,Array.length_toList];rfl,fun i y hy=>?_⟩
 unfold bytesI at hy;unfold Lib.strCells;rw[List.getElem?_map]at hy ⊢;obtain⟨b,hb,rfl⟩:=Option.map_eq_some_iff.1 hy;rw[hb];rfl
theorem run_app_str {P:Program} {I:Nat→Prop} {tS tX e:TypeId} {i:TypeInfo} (ht:P.underlying tS = some (.slice e)) (hu:P.underlying tX = some .string) (hi:P.info? e = some i) (hz:i.zero = some (.int .u8 0)) (hs:i.size = 1) (hb:i.bytes = 1)
  (v:Value) (xs:List (Ty.int .u8).den) (q:ByteArray) (cells:List Value) (hown:w.ownsRow 0 e (Ty.int .u8).wid v xs.length cells) (h63:xs.length+(bytesI q).length≤lim) :
  ∃v' w' news,(∀tyy,(Builtin.append_ #[tS,tX] tyy #[v,.string q]).run P w=.ok v' w')∧w'.ownsRow 0 e (Ty.int .u8).wid v' (xs++(show List (Ty.int .u8).den from bytesI q)).length (cells++news)∧w.grownBy w' v.ownBlock ∧
   (∀b,v'.ownBlock=some b→v.ownBlock=some b∨(w.heap.size≤b∧b<w'.heap.size))∧Chk (.int .u8) (show List (Ty.int .u8).den from bytesI q) news (fun _ y cs=>RdC I w (.int .u8) y cs) ∧
   (∀ad c,Value.string q=.slice (some ad) (show List (Ty.int .u8).den from bytesI q).length c→∀j v,news[j]? = some v→w.cell? (ad.add j)=some v):=by
 obtain⟨hbl,hbc⟩:=bytesI_cells q;rw[hbl]at h63;unfold lim at h63;have hown:w.ownsRow 0 e 1 v xs.length cells:=hown;have run:∀tyy,∃v' w',(Builtin.append_ #[tS,tX] tyy #[v,.string q]).run P w=.ok v' w'∧w'.ownsRow 0 e 1 v' (xs.length+q.size) (cells++Lib.strCells q)∧w.grownBy w' v.ownBlock∧(v'=.slice none 0 0↔v=.slice none 0 0∧q.size=0):=fun tyy =>
  Lib.run_append_own_string w 0 tS tX tyy e i ht hu hi hz hs hb v xs.length cells hown q (by unfold maxLen;omega) h63 (Nat.zero_le _)
 obtain⟨v',w',hr,h2,h3,h4⟩:=run 0;refine⟨v',w',Lib.strCells q,fun tyy=>?_,by rw[List.length_append];simp only[hbl];exact h2,h3,fun b hb=>?_,⟨by rw[Lib.strCells_length,hbl];simp[Ty.wid],fun i y hi=>?_⟩,fun ad c hx=>by cases hx⟩
 ·exact hr
 ·have hlt:=(h2.lt b hb).2;rcases hown.2 with⟨rfl,h0⟩ | ⟨g,cap,cur,rfl,hbg,hg,hnc,hcm,hcs,htake⟩
  ·by_cases hm:q.size=0
   ·have:=h4.2 ⟨rfl,hm⟩;subst this;simp[Value.ownBlock]at hb
   ·have hn:=run_append_nil_string (P:=P) w tS tX 0 e i (.int .u8 0) ht hu hi hz q (by omega) (by omega) (by rw[‹i.bytes=1›];omega)
    rw[hn]at hr;simp only[Result.ok.injEq]at hr;obtain⟨rfl,_⟩:=hr;simp only[Value.ownBlock,Option.some.injEq]at hb;subst hb;exact .inr ⟨Nat.le_refl _,hlt⟩
  ·by_cases hroom:xs.length+q.size≤cap
   ·have hcs':cur.size=cap:=by simpa using hcs
    have hn:=Lib.run_append_room_string (P:=P) w tS tX 0 e i ht hu hi hs g xs.length cap cur hg q hroom (by omega)
    rw[hn]at hr;simp only[Result.ok.injEq]at hr;obtain⟨rfl,_⟩:=hr;exact .inl (by simpa[Value.ownBlock]using hb)
   ·have holds:∀j u,cells[j]? = some u→w.cell? ((⟨g,0,none⟩:Addr).add j)=some u:=hown.cells (g:=g) rfl;have hn:=Lib.run_append_grow_string (P:=P) w tS tX 0 e i (.int .u8 0) ht hu hi hz ⟨g,0,none⟩ xs.length cap cells (by rw[hs];simpa using hown.1) holds q (by omega) (by omega) (by rw[‹i.bytes=1›];exact growslice_fits (by omega) (by omega))
    rw[hn]at hr;simp only[Result.ok.injEq]at hr;obtain⟨rfl,_⟩:=hr;simp only[Value.ownBlock,Option.some.injEq]at hb;subst hb;exact .inr ⟨Nat.le_refl _,hlt⟩
 ·have:=hbc i y hi;refine⟨[.int .u8 y],rfl,fun j hj=>?_,by simp only[RdC]⟩
  have hj:j=0:=by simp only[Ty.wid]at hj;omega
  subst hj;simpa[Ty.wid]using this
theorem appendSK_some {ts:Array TypeId} {s:A} {q:ByteArray} {k:A→Sg→Option ρ} {r:ρ} {v:Value} (h:RelG E G σ a w) (hk:appendSK C σ ts s q k = some r)
  (hv:VA (Imm E G σ w) σ.hp.length G w s v) :
  ∃v' w',(∀tyy,(Builtin.append_ ts tyy #[v,.string q]).run C.P w=.ok v' w')∧OpOut C E G σ a w k r (.ok (.value v') w'):=by
 unfold appendSK at hk;split at hk
 ·rename_i tS tX hts;obtain⟨rfl⟩:ts=#[tS,tX]:=by
   cases ts with
   | mk l=>simp at hts;rw[hts]
  split at hk
  ·rename_i e he hu;split at hk
   ·rename_i i hlook hi;split at hk
    ·rename_i hc;obtain⟨hs,hb,hz⟩:=hc;have hz:i.zero=some (.int .u8 0):=by
      unfold zero8 at hz;split at hz
      ·assumption
      ·cases hz
     split at hk
     ·simp only[VA,VL]at hv;subst hv;obtain⟨hb1,hb2,hk⟩:=appD_some hk;obtain⟨v',w',hrun,G',hrel,hga,hvl⟩:=append_core0 (C:=C) (ty:=.int .u8) (σ2:=σ) (xs:=[]) (ys:=bytesI q) (u:=.string q) (dp:=true) (dp':=true) (ds:=[]) (ds2:=[]) h ⟨.inl ⟨rfl,rfl,rfl,rfl⟩⟩ (fun tyy=>Builtin.append_ #[tS,tX] tyy #[.slice none 0 0,.string q])
       (fun cells ho _=>run_app_str (elT_some he) hu hi hz hs hb _ [] q cells ho hb2) (.inl ⟨rfl,rfl⟩) (fun i=>by simp) rfl rfl hb2
      exact⟨v',w',hrun,_,_,hk,Kp.add _ _,G',hrel,hga,hvl⟩
     ·rename_i id;obtain⟨hid,rfl,_⟩:=hv;split at hk
      ·rename_i dp e' ty' xs ho;split at hk
       ·rename_i he';subst he';cases hca:castT (.list ty') (.list (.int .u8)) xs with
        | none=>simp[hca]at hk
        | some xs2 =>
         simp only[hca,Option.bind_some]at hk;obtain⟨e0,rfl⟩:=castT_some hca;simp only[Ty.list.injEq]at e0;subst e0;have hlt:=Sg.ob_lt ho;obtain⟨hb1,hb2,hk⟩:=appD_some hk;obtain⟨v',w',hrun,G',hrel,hga,hvl⟩:=append_core0 (C:=C) (ty:=.int .u8) (σ2:=setHp σ id none) (ys:=bytesI q) (u:=.string q) (dp':=true) (ds:=[id]) (ds2:=[]) h ⟨.inr ⟨id,rfl,rfl,ho⟩⟩ (fun tyy=>Builtin.append_ #[tS,tX] tyy #[(G id).1,.string q])
          (fun cells ho _=>run_app_str (elT_some he) hu hi hz hs hb _ _ q cells ho hb2) (.inl ⟨rfl,rfl⟩) (fun i=>by rw[ob_setHp];by_cases hi:i=id<;>simp[hi,hlt]) rfl (by simp) hb2
         exact⟨v',w',hrun,_,_,hk,(Kp.set _ ho rfl).trans (Kp.add _ _),G',hrel,hga,hvl⟩
       ·simp at hk
      ·simp at hk
     ·simp at hk
    ·simp at hk
   ·simp at hk
  ·simp at hk
 ·simp at hk
theorem appendK_some {ts:Array TypeId} {s x:A} {k:A→Sg→Option ρ} {r:ρ} {v u:Value} (h:RelG E G σ a w) (hk:appendK C σ ts s x k = some r)
  (hv:VA (Imm E G σ w) σ.hp.length G w s v) (hu:VA (Imm E G σ w) σ.hp.length G w x u) :
  ∃v' w',(∀tyy,(Builtin.append_ ts tyy #[v,u]).run C.P w=.ok v' w')∧OpOut C E G σ a w k r (.ok (.value v') w'):=by
 unfold appendK at hk;split at hk
 ·simp only[VA,VL]at hu;obtain⟨rfl,_⟩:=RdV_str.1 hu.1;exact appendSK_some h hk hv
 ·exact appendLK_some h hk hv hu
end
open Go
set_option linter.all false
section
variable {ρ:Type}{C:Ctx}{E:En}{G:Gh}{σ:Sg}{a:Act}{w:World}
theorem Imm.freezeL {x:L}{b:Nat}(h:Imm E G σ w b):Imm E G (freezeL σ x) w b:=by
 refine⟨h.1,h.2.1,fun i o ho hr=>?_⟩;unfold Eng.freezeL at ho;split at ho
 ·split at ho
  ·rename_i id o' ho';rw[ob_setHp]at ho;split at ho
   ·obtain rfl:=Option.some.inj ho;cases o'<;>simp[Ob.freeze,Ob.ro]at hr
   ·exact h.2.2 i o ho hr
  ·exact h.2.2 i o ho hr
 ·exact h.2.2 i o ho hr
theorem keepFreeze (x:L):Keep (Imm E G σ w) (Imm E G (freezeL σ x) w) σ.hp.length (freezeL σ x).hp.length G G w w :=
 ⟨fun b hb=>hb.freezeL,fun _ _=>rfl,by rw[freezeL_len];exact Nat.le_refl _,fun _ _=>rfl⟩
theorem rdL_freeze {t:Ty} {x:L} {k:t.den→Option ρ} {r:ρ} {v:Value} (h:RelG E G σ a w) (hk:rdL σ t x k = some r)
  (hv:VL (Imm E G σ w) σ.hp.length G w x v):∃y,k y=some r∧RdV (Imm E G (freezeL σ x) w) w t y v:=by
 obtain⟨y,h1,h2,h3,h4⟩:=rdL_some h hk hv;refine⟨y,h1,?_⟩;by_cases hx:∃id,x=.ref id
 ·obtain⟨id,rfl⟩:=hx;obtain⟨ro,dp,e,t',z,ho,rfl,hz⟩:=h4 id rfl;have hz:=eq_of_heq hz;subst hz;have hf:=h.freeze id _ ho;have hor:=hf.obs id (.own true dp e t' z) (by rw[ob_setHp,if_pos ⟨rfl,Sg.ob_lt ho⟩];rfl)
  simp only[OR]at hor;have e1:freezeL σ (.ref id)=setHp σ id (some (Ob.own ro dp e t' z).freeze):=by simp[Eng.freezeL,ho]
  rw[e1,hv.2.1];exact hor
 ·exact(h3 fun id he=>hx ⟨id,he⟩).mono (fun b hb=>hb.freezeL) fun _ _=>rfl
theorem cells_one {v:Value}(h:v.oneCell'=true):v.cells.toList=[v]:=by
 cases v<;>first | rfl | (simp[Value.oneCell']at h)
theorem tkF_some:(t:Ty)→{σ:Sg}→{ls:List L}→{vs:List Value}→{k:t.den→List L→Sg→Option ρ}→{r:ρ}→(h:RelG E G σ a w)→(hk:tkLs false t σ ls k = some r) →
  (hv:VLs (Imm E G σ w) σ.hp.length G w ls vs)→∃y ls' σ' cs vs',k y ls' σ'=some r∧vs=cs++vs'∧RelG E G σ' a w∧Kp σ σ' ∧
   Keep (Imm E G σ w) (Imm E G σ' w) σ.hp.length σ'.hp.length G G w w∧VLs (Imm E G σ' w) σ'.hp.length G w ls' vs'∧RdC (Imm E G σ' w) w t y cs
 | .prod p q,σ,ls,vs,k,r,h,hk,hv=>by
  simp only[tkLs]at hk;obtain⟨y1,l1,σ1,c1,v1,hk1,rfl,r1,kp1,ke1,hv1,rd1⟩:=tkF_some p h hk hv;obtain⟨y2,l2,σ2,c2,v2,hk2,rfl,r2,kp2,ke2,hv2,rd2⟩:=tkF_some q r1 hk1 hv1;refine⟨(y1,y2),l2,σ2,c1++c2,v2,hk2,by simp,r2,kp1.trans kp2,⟨fun b hb=>ke2.imm b (ke1.imm b hb),fun _ _=>rfl,Nat.le_trans ke1.n ke2.n,fun _ _=>rfl⟩,hv2,?_⟩
  simp only[RdC];exact⟨c1,c2,rfl,rd1.mono ke2.imm (fun _ _=>rfl) p,rd2⟩
 | .list t,σ,x::ls,v::vs,k,r,h,hk,hv=>by
  simp only[tkLs,Bool.false_eq_true,if_false]at hk;obtain⟨y,hk,hrd⟩:=rdL_freeze h hk hv.1.1;refine⟨y,ls,_,[v],vs,hk,rfl,h.freezeL x,Kp.freezeL σ x,keepFreeze x,hv.2.keep (keepFreeze x) _,?_⟩;have:=hrd.cells
  rwa [cells_one hv.1.2]at this
 | .int kd,σ,x::ls,v::vs,k,r,h,hk,hv=>by
  simp only[tkLs]at hk;obtain⟨y,hk,hrd,h3,h4⟩:=rdL_some h hk hv.1.1;refine⟨y,ls,σ,[v],vs,hk,rfl,h,Kp.refl _,⟨fun _ hb=>hb,fun _ _=>rfl,Nat.le_refl _,fun _ _=>rfl⟩,hv.2,?_⟩;rw[RdV_int]at hrd;subst hrd;rfl
 | .bool,σ,x::ls,v::vs,k,r,h,hk,hv=>by
  simp only[tkLs]at hk;obtain⟨y,hk,hrd,h3,h4⟩:=rdL_some h hk hv.1.1;refine⟨y,ls,σ,[v],vs,hk,rfl,h,Kp.refl _,⟨fun _ hb=>hb,fun _ _=>rfl,Nat.le_refl _,fun _ _=>rfl⟩,hv.2,?_⟩;rw[RdV_bool]at hrd;subst hrd;rfl
 | .str,σ,x::ls,v::vs,k,r,h,hk,hv=>by
  simp only[tkLs]at hk;obtain⟨y,hk,hrd,h3,h4⟩:=rdL_some h hk hv.1.1;refine⟨y,ls,σ,[v],vs,hk,rfl,h,Kp.refl _,⟨fun _ hb=>hb,fun _ _=>rfl,Nat.le_refl _,fun _ _=>rfl⟩,hv.2,?_⟩;rw[RdV_str]at hrd;obtain⟨hrd,hs⟩:=hrd;subst hrd;exact⟨rfl,hs⟩
 | .list t,σ,[],vs,k,r,h,hk,hv=>by simp[tkLs]at hk
 | .int kd,σ,[],vs,k,r,h,hk,hv=>by simp[tkLs]at hk
 | .bool,σ,[],vs,k,r,h,hk,hv=>by simp[tkLs]at hk
 | .str,σ,[],vs,k,r,h,hk,hv=>by simp[tkLs]at hk
 | .list t,σ,_::_,[],k,r,h,hk,hv=>hv.elim
 | .int kd,σ,_::_,[],k,r,h,hk,hv=>hv.elim
 | .bool,σ,_::_,[],k,r,h,hk,hv=>hv.elim
 | .str,σ,_::_,[],k,r,h,hk,hv=>hv.elim
structure Gone (σ σ':Sg) (ids:List Nat):Prop where
 ob:∀i,σ'.ob i=if i∈ids then none else σ.ob i
 env:σ'.env=σ.env
 len:σ'.hp.length=σ.hp.length
theorem Gone.sub {σ σ':Sg}{ids:List Nat}(h:Gone σ σ' ids){i:Nat}{o:Ob}(ho:σ'.ob i=some o):i∉ids∧σ.ob i=some o:=by
 rw[h.ob i]at ho;split at ho
 ·simp at ho
 ·exact⟨‹_›,ho⟩
theorem Gone.refl (σ:Sg):Gone σ σ []:=⟨fun i=>by simp,rfl,rfl⟩
theorem Gone.step {σ σ':Sg}{ids:List Nat}(h:Gone σ σ' ids){id:Nat}{o:Ob}(ho:σ'.ob id=some o):Gone σ (setHp σ' id none) (ids++[id]) :=
 ⟨fun i=>by
  have:=Sg.ob_lt ho;rw[ob_setHp,h.ob i];by_cases hi:i=id
  ·simp[hi,this]
  ·simp[hi],h.env,by simp[h.len]⟩
theorem OwnV.dpC {I:Nat→Prop}{dp:Bool}{e:TypeId}{t:Ty}{x:List t.den}{v:Value}{bs:List Nat}(h:OwnV I w dp e t x v bs)(hd:dp=true∨t.flat=true)(heo:eOk t e=true):DpC 0 w (.list t) x [v] bs:=by
 obtain⟨hl,cells,bss,ho,hbs,h1,h2,hc⟩:=h.chk;simp only[DpC];rcases ho.2 with⟨rfl,hn⟩ | ⟨g,cap,cur,rfl,hg,hh,hnc,hcm,hcs,htake⟩
 ·have hx:x=[]:=List.eq_nil_of_length_eq_zero hn;refine⟨none,0,0,rfl,by simp[hx],Nat.le_refl _,Nat.zero_le _,Nat.zero_le _,.inl ⟨hx,?_,rfl,rfl⟩⟩
  have hb0:bss=[]:=by
   cases dp with
   | true=>exact List.eq_nil_of_length_eq_zero (by rw[h1 rfl,hn])
   | false=>exact h2 rfl
  rw[hbs,hb0];rfl
 ·refine⟨_,_,_,rfl,rfl,hnc,hcm,hl,.inr ⟨g,0,cur,e,if dp=true then bss else List.replicate x.length [],rfl,?_,?_,Nat.zero_le _,⟨hh,rfl,hcs,heo⟩,fun i y hi=>?_⟩⟩
  ·rw[hbs];cases dp with
   | true=>simp[Value.ownBlock]
   | false=>simp[Value.ownBlock,h2 rfl]
  ·cases dp with
   | true=>simpa using h1 rfl
   | false=>simp
  ·obtain⟨ys,hy1,hy2,hy3⟩:=hc.2 i y hi;have hil:=(List.getElem?_eq_some_iff.1 hi).1;refine⟨ys,hy1,fun j hj=>?_,?_⟩
   ·rw[←hy2 j hj,Nat.zero_add,←htake,List.getElem?_take,if_pos (chunk_lt hil hj),Array.getElem?_toList]
   ·cases dp with
    | true=>simpa using hy3
    | false =>
     have hf : t.flat = true := by rcases hd with hd | hd
                                   ·simp at hd
                                   ·exact hd
     simp only[Bool.false_eq_true,if_false]at hy3 ⊢;have:(List.replicate x.length ([]:List Nat))[i]?.getD []=[]:=by
      rw[List.getElem?_replicate];split<;>rfl
     rw[this];exact flat_Dp t hf hy3
theorem tkT_some:(t:Ty)→{σ':Sg}→{ids:List Nat}→{ls:List L}→{vs:List Value}→{k:t.den→List L→Sg→Option ρ}→{r:ρ}→(h:RelG E G σ a w)→(hg:Gone σ σ' ids) →
  (hk:tkLs true t σ' ls k=some r)→(hv:VLs (Imm E G σ w) σ.hp.length G w ls vs) →
  ∃y ls' σ2 cs vs' new,k y ls' σ2=some r∧vs=cs++vs'∧Gone σ σ2 (ids++new)∧VLs (Imm E G σ w) σ.hp.length G w ls' vs' ∧
   (∀i∈new,i∉ids∧∃o,σ.ob i=some o∧o.ro=false)∧new.Nodup∧DpC 0 w t y cs (new.flatMap fun i=>(G i).2)
 | .prod p q,σ',ids,ls,vs,k,r,h,hg,hk,hv=>by
  simp only[tkLs]at hk;obtain⟨y1,l1,σ1,c1,v1,n1,hk1,rfl,g1,hv1,ho1,nd1,d1⟩:=tkT_some p h hg hk hv;obtain⟨y2,l2,σ2,c2,v2,n2,hk2,rfl,g2,hv2,ho2,nd2,d2⟩:=tkT_some q h g1 hk1 hv1;refine⟨(y1,y2),l2,σ2,c1++c2,v2,n1++n2,hk2,by simp,by rw[←List.append_assoc];exact g2,hv2,fun i hi=>?_,?_,?_⟩
  ·rcases List.mem_append.1 hi with hi | hi
   ·exact ho1 i hi
   ·have:=ho2 i hi;exact⟨fun hm=>this.1 (List.mem_append_left _ hm),this.2⟩
  ·rw[List.nodup_append];exact⟨nd1,nd2,fun b hb c hc hbc=>(ho2 c hc).1 (List.mem_append_right _ (hbc▸hb))⟩
  ·simp only[DpC,List.flatMap_append];exact⟨c1,c2,_,_,rfl,rfl,d1,d2⟩
 | .list t,σ',ids,x::ls,v::vs,k,r,h,hg,hk,hv=>by
  simp only[tkLs,if_true]at hk;split at hk
  ·have hv1:=hv.1.1;simp only[VL]at hv1;subst hv1;refine⟨[],ls,σ',[.slice none 0 0],vs,[],hk,rfl,by simpa using hg,hv.2,by simp,by simp,?_⟩
   exact⟨none,0,0,rfl,rfl,Nat.le_refl _,Nat.zero_le _,Nat.zero_le _,.inl ⟨rfl,rfl,rfl,rfl⟩⟩
  ·rename_i id;split at hk
   ·rename_i dp' e t' y ho;split at hk
    ·rename_i hok;cases hc:castT (.list t') (.list t) y with
     | none=>simp[hc]at hk
     | some z =>
      simp only[hc,Option.bind_some]at hk;obtain⟨e0,rfl⟩:=castT_some hc;simp only[Ty.list.injEq]at e0;subst e0;obtain⟨hni,ho'⟩:=hg.sub ho;have hor:=h.obs id _ ho';simp only[OR]at hor;obtain⟨_,rfl,_⟩:=hv.1.1;refine⟨_,ls,_,[(G id).1],vs,[id],hk,rfl,hg.step ho,hv.2,fun i hi=>?_,by simp,?_⟩
      ·simp only[List.mem_singleton]at hi;subst hi;exact⟨hni,_,ho',rfl⟩
      ·have hok:=Bool.and_eq_true_iff.1 hok;have:=hor.dpC (by unfold okDp at hok;simpa using hok.1) hok.2
       simpa using this
    ·simp at hk
   ·simp at hk
  ·simp at hk
 | .int kd,σ',ids,x::ls,v::vs,k,r,h,hg,hk,hv=>by
  simp only[tkLs]at hk;unfold rdL at hk;split at hk
  ·rename_i nn t' y;cases hc:castT t' (.int kd) y with
   | none=>simp[hc]at hk
   | some z =>
    simp only[hc,Option.bind_some]at hk;obtain⟨e0,rfl⟩:=castT_some hc;subst e0;have:=RdV_int.1 hv.1.1.1;subst this;exact⟨_,ls,σ',[.int kd y],vs,[],hk,rfl,by simpa using hg,hv.2,by simp,by simp,rfl,rfl⟩
  ·simp at hk
  ·split at hk
   ·rename_i t' y _;cases hc:castT (.list t') (.int kd) y with
    | none=>simp[hc]at hk
    | some z=>obtain⟨e0,_⟩:=castT_some hc;simp at e0
   ·simp at hk
  ·simp at hk
 | .bool,σ',ids,x::ls,v::vs,k,r,h,hg,hk,hv=>by
  simp only[tkLs]at hk;unfold rdL at hk;split at hk
  ·rename_i nn t' y;cases hc:castT t' .bool y with
   | none=>simp[hc]at hk
   | some z =>
    simp only[hc,Option.bind_some]at hk;obtain⟨e0,rfl⟩:=castT_some hc;subst e0;have:=RdV_bool.1 hv.1.1.1;subst this;exact⟨_,ls,σ',[.bool y],vs,[],hk,rfl,by simpa using hg,hv.2,by simp,by simp,rfl,rfl⟩
  ·simp at hk
  ·split at hk
   ·rename_i t' y _;cases hc:castT (.list t') .bool y with
    | none=>simp[hc]at hk
    | some z=>obtain⟨e0,_⟩:=castT_some hc;simp at e0
   ·simp at hk
  ·simp at hk
 | .str,σ',ids,x::ls,v::vs,k,r,h,hg,hk,hv=>by
  simp only[tkLs]at hk;unfold rdL at hk;split at hk
  ·rename_i nn t' y;cases hc:castT t' .str y with
   | none=>simp[hc]at hk
   | some z =>
    simp only[hc,Option.bind_some]at hk;obtain⟨e0,rfl⟩:=castT_some hc;subst e0;obtain⟨this,hs⟩:=RdV_str.1 hv.1.1.1;subst this;exact⟨_,ls,σ',[.string y],vs,[],hk,rfl,by simpa using hg,hv.2,by simp,by simp,rfl,hs,rfl⟩
  ·simp at hk
  ·split at hk
   ·rename_i t' y _;cases hc:castT (.list t') .str y with
    | none=>simp[hc]at hk
    | some z=>obtain⟨e0,_⟩:=castT_some hc;simp at e0
   ·simp at hk
  ·simp at hk
 | .list t,σ',ids,[],vs,k,r,h,hg,hk,hv=>by simp[tkLs]at hk
 | .int kd,σ',ids,[],vs,k,r,h,hg,hk,hv=>by simp[tkLs]at hk
 | .bool,σ',ids,[],vs,k,r,h,hg,hk,hv=>by simp[tkLs]at hk
 | .str,σ',ids,[],vs,k,r,h,hg,hk,hv=>by simp[tkLs]at hk
 | .list t,σ',ids,_::_,[],k,r,h,hg,hk,hv=>hv.elim
 | .int kd,σ',ids,_::_,[],k,r,h,hg,hk,hv=>hv.elim
 | .bool,σ',ids,_::_,[],k,r,h,hg,hk,hv=>hv.elim
 | .str,σ',ids,_::_,[],k,r,h,hg,hk,hv=>hv.elim
end
open Go
set_option linter.all false
section
variable {ρ:Type}{C:Ctx}{E:En}{G:Gh}{σ:Sg}{a:Act}{w:World}
def VAs (I:Nat→Prop)(N:Nat)(G:Gh)(w:World):List A→List Value→Prop
 | [],[]=>True
 | x::xs,v::vs=>VA I N G w x v∧VAs I N G w xs vs
 | _,_=>False
theorem VAs.keep {I I':Nat→Prop}{N N':Nat}{G G':Gh}{w w':World}(k:Keep I I' N N' G G' w w'):(l:List A)→{v:List Value}→VAs I N G w l v→VAs I' N' G' w' l v
 | [],[],_=>trivial
 | l::ls,v::vs,h=>⟨h.1.keep k l,VAs.keep k ls h.2⟩
 | [],_::_,h=>h.elim
 | _::_,[],h=>h.elim
theorem VAs.length {I:Nat→Prop}{N:Nat}:(l:List A)→{v:List Value}→VAs I N G w l v→l.length=v.length
 | [],[],_=>rfl
 | _::ls,_::vs,h=>by simp[VAs.length ls h.2]
 | [],_::_,h=>h.elim
 | _::_,[],h=>h.elim
theorem Chk.cons {t:Ty} {y:t.den} {ys:List t.den} {c cs:List Value} {R R':Nat→t.den→List Value→Prop} (h1:c.length = t.wid) (hr:R' 0 y c) (h2:Chk t ys cs R)
  (hR:∀i y d,ys[i]? = some y→R i y d→R' (i+1) y d):Chk t (y::ys) (c++cs) R':=by
 refine⟨by rw[List.length_append,h1,h2.1,List.length_cons,Nat.add_mul];omega,fun i z hi=>?_⟩
 cases i with
 | zero =>
  simp at hi;subst hi;exact⟨c,h1,fun j hj=>by rw[Nat.zero_mul,Nat.zero_add,List.getElem?_append_left (by omega)],hr⟩
 | succ i =>
  simp at hi;obtain⟨d,hd1,hd2,hd3⟩:=h2.2 i z hi;refine⟨d,hd1,fun j hj=>?_,hR i z d hi hd3⟩;rw[←hd2 j hj,List.getElem?_append_right (by rw[h1,Nat.add_mul];omega)]
  congr 1
  rw[h1,Nat.add_mul];omega
theorem cellsA_of_tk {dp:Bool}{t:Ty}{x:A}{k:t.den→List L→Sg→Option ρ}{r:ρ}(hk:tkLs dp t σ (cellsA x) k=some r):cellsA x≠[]:=by
 intro h0;rw[h0]at hk;have:∀(t:Ty) (k:t.den→List L→Sg→Option ρ),tkLs dp t σ [] k=none:=by
  intro t;induction t with
  | prod p q ih1 ih2=>intro k;simp only[tkLs];exact ih1 _
  | _=>intro k;simp[tkLs]
 rw[this]at hk;simp at hk
theorem elemsF_some (ty:Ty):(xs:List A)→{σ:Sg}→{us:List Value}→{k:List ty.den→Sg→Option ρ}→{r:ρ}→RelG E G σ a w→elemsK false ty σ xs k = some r →
  VAs (Imm E G σ w) σ.hp.length G w xs us→∃ys σ',k ys σ'=some r∧ys.length=xs.length∧RelG E G σ' a w∧Kp σ σ' ∧
   Keep (Imm E G σ w) (Imm E G σ' w) σ.hp.length σ'.hp.length G G w w∧(∀u∈us,u.cells.size=ty.wid)∧Chk ty ys (us.flatMap fun u=>u.cells.toList) fun _ y cs=>RdC (Imm E G σ' w) w ty y cs
 | [],σ,[],k,r,h,hk,hv=>⟨[],σ,hk,rfl,h,Kp.refl _,⟨fun _ hb=>hb,fun _ _=>rfl,Nat.le_refl _,fun _ _=>rfl⟩,by simp,⟨by simp,fun i y hi=>by simp at hi⟩⟩
 | x::xs,σ,u::us,k,r,h,hk,hv=>by
  simp only[elemsK]at hk;have hne:=cellsA_of_tk hk;obtain⟨y,ls',σ1,cs,vs',hk1,hvs,h1,kp1,ke1,hv1,hrd⟩:=tkF_some ty h hk (cellsA_VLs hv.1 hne);cases ls' with
  | cons _ _=>simp at hk1
  | nil =>
   have hvs0:vs'=[]:=by cases vs' with
    | nil=>rfl
    | cons _ _=>exact hv1.elim
   subst hvs0;simp only[List.append_nil]at hvs;obtain⟨ys,σ2,hk2,hl,h2,kp2,ke2,hus,hchk⟩:=elemsF_some ty xs h1 hk1 (hv.2.keep ke1 xs);have hlen:=hrd.length;refine⟨y::ys,σ2,hk2,by simp[hl],h2,kp1.trans kp2,⟨fun b hb=>ke2.imm b (ke1.imm b hb),fun _ _=>rfl,Nat.le_trans ke1.n ke2.n,fun _ _=>rfl⟩,?_,?_⟩
   ·intro u' hu';rcases List.mem_cons.1 hu' with rfl | hu'
    ·have:u'.cells.toList.length=ty.wid:=by rw[hvs];exact hlen
     simpa using this
    ·exact hus u' hu'
   ·rw[List.flatMap_cons,hvs];exact hchk.cons hlen (hrd.mono ke2.imm (fun _ _=>rfl) ty) fun i y d _ hd=>hd
 | [],_,_::_,_,_,_,_,hv=>hv.elim
 | _::_,_,[],_,_,_,_,hv=>hv.elim
theorem elemsT_some (ty:Ty) (h:RelG E G σ a w):(xs:List A)→{σ':Sg}→{ids:List Nat}→{us:List Value}→{k:List ty.den→Sg→Option ρ}→{r:ρ}→Gone σ σ' ids→elemsK true ty σ' xs k = some r →
  VAs (Imm E G σ w) σ.hp.length G w xs us→∃(ys:List ty.den) (σ2:Sg) (news:List (List Nat)),k ys σ2=some r∧ys.length=xs.length∧news.length=xs.length∧Gone σ σ2 (ids++news.flatten) ∧
   (∀i∈news.flatten,i∉ids∧∃o,σ.ob i=some o∧o.ro=false)∧news.flatten.Nodup∧(∀u∈us,u.cells.size=ty.wid) ∧
   Chk ty ys (us.flatMap fun u=>u.cells.toList) fun i y cs=>DpC 0 w ty y cs ((news[i]?.getD []).flatMap fun i=>(G i).2)
 | [],σ',ids,[],k,r,hg,hk,hv=>⟨[],σ',[],hk,rfl,rfl,by simpa using hg,by simp,by simp,by simp,⟨by simp,fun i y hi=>by simp at hi⟩⟩
 | x::xs,σ',ids,u::us,k,r,hg,hk,hv=>by
  simp only[elemsK]at hk;have hne:=cellsA_of_tk hk;obtain⟨y,ls',σ1,cs,vs',new,hk1,hvs,g1,hv1,ho1,nd1,hrd⟩:=tkT_some ty h hg hk (cellsA_VLs hv.1 hne);cases ls' with
  | cons _ _=>simp at hk1
  | nil =>
   have hvs0:vs'=[]:=by cases vs' with
    | nil=>rfl
    | cons _ _=>exact hv1.elim
   subst hvs0;simp only[List.append_nil]at hvs;obtain⟨ys,σ2,news,hk2,hl,hnl,g2,ho2,nd2,hus,hchk⟩:=elemsT_some ty h xs g1 hk1 hv.2;have hlen:=hrd.length;refine⟨y::ys,σ2,new::news,hk2,by simp[hl],by simp[hnl],by rw[List.flatten_cons,←List.append_assoc];exact g2,fun i hi=>?_,?_,?_,?_⟩
   ·rw[List.flatten_cons]at hi;rcases List.mem_append.1 hi with hi | hi
    ·exact ho1 i hi
    ·have:=ho2 i hi;exact⟨fun hm=>this.1 (List.mem_append_left _ hm),this.2⟩
   ·rw[List.flatten_cons,List.nodup_append];exact⟨nd1,nd2,fun b hb c hc hbc=>(ho2 c hc).1 (List.mem_append_right _ (hbc▸hb))⟩
   ·intro u' hu';rcases List.mem_cons.1 hu' with rfl | hu'
    ·have:u'.cells.toList.length=ty.wid:=by rw[hvs];exact hlen
     simpa using this
    ·exact hus u' hu'
   ·rw[List.flatMap_cons,hvs];exact hchk.cons hlen (by simpa using hrd) fun i y d _ hd=>by simpa using hd
 | [],_,_,_::_,_,_,_,_,hv=>hv.elim
 | _::_,_,_,[],_,_,_,_,hv=>hv.elim
theorem fill_full (size:Nat):(ps:List (Nat × Value))→(n:Nat)→(cells:Array Value)→(∀ i p,ps[i]? = some p→p.1 = n + i∧p.2.cells.size = size)→(n + ps.length) * size≤cells.size →
  ∃arr,Instr.fill (fun i=>some (i*size,size)) cells ps=some arr∧arr.toList=cells.toList.take (n*size)++(ps.flatMap fun p=>p.2.cells.toList)++cells.toList.drop ((n+ps.length)*size)
 | [],n,cells,_,_=>⟨cells,rfl,by simp⟩
 | (i,v)::ps,n,cells,hp,hc=>by
  obtain⟨hi,hv⟩:=hp 0 _ rfl;simp only[Nat.add_zero]at hi hv;subst hi;have hc':i*size+size≤cells.size:=by
   refine Nat.le_trans ?_ hc;rw[List.length_cons];calc i*size+size=(i+1)*size:=by rw[Nat.add_mul,Nat.one_mul]
    _≤(i+(ps.length+1))*size:=Nat.mul_le_mul_right _ (by omega)
  have hset:=foldl_set (i*size) v.cells.toList 0 cells (by simp[hv];exact hc')
  have e:(v.cells.zipIdx.foldl (fun cs p=>cs.setIfInBounds (i*size+p.2) p.1) cells).toList=cells.toList.take (i*size)++v.cells.toList++cells.toList.drop (i*size+size):=by
   rw[←Array.foldl_toList,Array.toList_zipIdx,hset];simp[hv]
  have hsz:(v.cells.zipIdx.foldl (fun cs p=>cs.setIfInBounds (i*size+p.2) p.1) cells).size=cells.size:=by
   rw[←Array.length_toList,e];simp[hv];omega
  obtain⟨arr,h1,h2⟩:=fill_full size ps (i+1) (v.cells.zipIdx.foldl (fun cs p=>cs.setIfInBounds (i*size+p.2) p.1) cells)
   (fun j p hj=>by have:=hp (j+1) p (by simpa using hj);exact⟨by omega,this.2⟩) (by rw[hsz];rw[List.length_cons]at hc;rwa [show i+1+ps.length=i+(ps.length+1)from by omega])
  refine⟨arr,?_,?_⟩
  ·simp only[Instr.fill];rw[if_neg (by simp[hv];omega)]
   exact h1
  ·rw[h2,e];have l1:(cells.toList.take (i*size)).length=i*size:=by simp;omega
   have l2:v.cells.toList.length=size:=by simp[hv]
   have e1:(i+1)*size=i*size+size:=by rw[Nat.add_mul,Nat.one_mul]
   rw[List.flatMap_cons,List.length_cons];have t1:(cells.toList.take (i*size)++v.cells.toList++cells.toList.drop (i*size+size)).take ((i+1)*size)=cells.toList.take (i*size)++v.cells.toList:=by
    rw[List.take_append_of_le_length (by simp[hv];omega),List.take_of_length_le (by simp[hv];omega)]
   have t2:(cells.toList.take (i*size)++v.cells.toList++cells.toList.drop (i*size+size)).drop ((i+1+ps.length)*size)=cells.toList.drop ((i+(ps.length+1))*size):=by
    rw[List.drop_append,List.drop_of_length_le (by simp[hv];rw[Nat.add_mul (i+1)];omega),List.nil_append,List.drop_drop]
    congr 1
    simp[hv];have:(i+1+ps.length)*size=i*size+size+ps.length*size:=by rw[Nat.add_mul,Nat.add_mul,Nat.one_mul]
    have:(i+(ps.length+1))*size=i*size+(ps.length*size+size):=by rw[Nat.add_mul,Nat.add_mul,Nat.one_mul]
    omega
   rw[t1,t2];simp
theorem inOrder_at:(n:Nat)→(ps:List (Nat×Operand))→inOrder n ps=true→∀i p,ps[i]? = some p→p.1=n+i
 | _,[],_,i,p,hi=>by simp at hi
 | n,(j,x)::ps,h,i,p,hi=>by
  simp only[inOrder,Bool.and_eq_true,beq_iff_eq]at h;cases i with
  | zero=>simp at hi;subst hi;exact h.1
  | succ i=>simp at hi;have:=inOrder_at (n+1) ps h.2 i p hi;omega
theorem run_buildSlice {t e:TypeId} {size:Nat} {parts:Array (Nat × Value)} {P:Program} (ht:P.underlying t = some (.slice e)) {i:TypeInfo} (hi:P.info? e = some i) (hs:i.size = size)
  {z:Value} (hz:i.zero=some z) (hp:∀(j:Nat) (p:Nat×Value),parts.toList[j]? = some p→p.1=j∧p.2.cells.size=size) (hl:parts.size*size≤16777216) :
  ∃arr:Array Value,arr.toList=(parts.toList.flatMap fun p=>p.2.cells.toList) ∧
   (Instr.buildSlice t parts.size parts).run P w=.ok (.slice (some ⟨w.heap.size,0,none⟩) parts.size parts.size) (w.alloc (.cells arr e)):=by
 subst hs;have key:∀(base:Array Value),base.size=parts.size*i.size→∃arr:Array Value,Instr.fill (fun j=>some (j*i.size,i.size)) base parts.toList=some arr∧arr.toList=(parts.toList.flatMap fun p=>p.2.cells.toList):=fun base hb=>by
  obtain⟨arr,h1,h2⟩:=fill_full i.size parts.toList 0 base (fun j p hj=>by have:=hp j p hj;exact⟨by omega,this.2⟩) (by simp[hb])
  refine⟨arr,h1,?_⟩;rw[h2];simp[hb]
 by_cases h0:parts.size*i.size=0
 ·obtain⟨arr,h1,h2⟩:=key ((Array.range (parts.size*i.size)).map ((#[]:Array Value)[· % (#[]:Array Value).size]!)) (by simp)
  refine⟨arr,h2,?_⟩;simp only[Instr.buildSlice,Sem.run_bind,run_underlying ht,sizeOf,typeInfo,hi,Result.andThen_ok,Sem.run_pure,run_program];rw[if_neg (by omega)]
  simp only[h0,if_true,Sem.run_bind,Sem.run_pure,Result.andThen_ok]at h1 ⊢;simp only[h1];simp[newRow]
 ·obtain⟨arr,h1,h2⟩:=key ((Array.range (parts.size*i.size)).map (z.cells[· % z.cells.size]!)) (by simp)
  refine⟨arr,h2,?_⟩;simp only[Instr.buildSlice,Sem.run_bind,run_underlying ht,sizeOf,typeInfo,hi,Result.andThen_ok,Sem.run_pure,run_program];rw[if_neg (by omega)]
  simp only[h0,if_false,Sem.run_bind,Sem.run_pure,Result.andThen_ok,zeroValue,typeInfo,run_program,hi,hz];simp only[h1];simp[newRow]
end
end Go.Proofs.YtfknaeamhcpfgaaGreat.Eng
