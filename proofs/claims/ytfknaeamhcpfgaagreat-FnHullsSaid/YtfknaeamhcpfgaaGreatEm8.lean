/-
  The engine: code that picks one element out of a slice of its own. No condition.
-/
import Derived.Test.YtfknaeamhcpfgaaGreatEm7
namespace Go.Proofs.YtfknaeamhcpfgaaGreat.Eng
open Go
set_option linter.all false
inductive UV where
 | unk
 | sl
 | dat (t:Ty) (x:t.den)
 | fp (i:Nat)
 | es (i:Nat)
 | ip (t:Ty) (x:t.den)
 | out
 | und
def uget (env:List UV)(x:Operand):UV :=
 match x with
 | .tmp t=>env.getD t .unk
 | .const v=>match v with
  | .int .i64 n=>.dat (.int .i64) n
  | .bool b=>.dat .bool b
  | _=>.unk
 | _=>.unk
def UV.stale:UV→UV
 | .out=>.unk
 | x=>x
abbrev UL:=TL
def uPut (d:Option Tmp)(x:UV)(env:List UV):List UV :=
 match d with
 | some d=>env.set d x
 | none=>env
def keepU (W:List Nat):Nat→List UV→List UV
 | _,[]=>[]
 | n,x::r=>(if W.contains n then .unk else x.stale)::keepU W (n+1) r
def layU (W:List Nat)(ix ou:Nat)(env:List UV)(i:Int):List UV:=((keepU W 0 env).set ix (.dat (.int .i64) i)).set ou .out
def uDat (y:List (List Int))(is:List Nat)(x:UV)(t:Ty):Option t.den :=
 match x with
 | .dat t' x=>castT t' t x
 | .es i=>(y[i]?).bind fun q=>castT (.list (.int .i64)) t q
 | .out=>match is with
  | [i]=>(y[i]?).bind fun q=>castT (.list (.int .i64)) t q
  | _=>none
 | _=>none
def uArgs (y:List (List Int))(is:List Nat):(ps:List PM)→List UV→Option (PMs.den ps)
 | [],[]=>some ()
 | [.d false t],[x]=>uDat y is x t
 | .d false t::p::r,x::xs=>(uDat y is x t).bind fun a=>(uArgs y is (p::r) xs).bind fun b=>some (a,b)
 | _,_=>none
section
variable {ρ:Type}(C:Ctx)(y:List (List Int))
def uCall {ρ:Type}(y:List (List Int))(is:List Nat)(e:CallE)(xs:List UV)(k:UV→Option ρ):Option ρ :=
 match e with
 | ⟨_,ps,[.l (.d _ t)],F⟩=>if t.flat then(uArgs y is ps xs).bind fun a=>(F a).bind fun r=>k (.dat t (resB (hasIo ps) r).1)else none
 | _=>none
def uOp (env:List UV)(is:List Nat)(o:Op)(k:UV→List UV→List Nat→Option ρ):Option ρ :=
 match o with
 | .move x=>k (uget env x) env is
 | .assign x=>k (uget env x) env is
 | .binOp op ty x z q=>match uget env x,uget env z with
  | .dat (.int .i64) (a:Int),.dat (.int .i64) (b:Int)=>match op with
   | .add=>k (.dat (.int .i64) (IntKind.i64.wrap (a+b))) env is
   | .lss=>k (.dat .bool (decide (a<b))) env is
   | .eql=>k (.dat .bool (a==b)) env is
   | .gtr=>k (.dat .bool (decide (a>b))) env is
   | _=>none
  | _,_=>none
 | .pick c a b=>match uget env c with
  | .dat .bool (cb:Bool)=>cond cb (k (uget env a) env is) (k (uget env b) env is)
  | _=>none
 | .call c=>match c.callee with
  | .value (.func f)=>(findE f C.O).bind fun e=>uCall y is e (c.args.toList.map (uget env)) fun v=>k v env is
  | .builtin .len=>match c.args.toList.map (uget env),c.argTypes.toList with
   | [.sl],[tS]=>(elT C tS).bind fun _=>k (.dat (.int .i64) (y.length:Int)) env is
   | _,_=>none
  | _=>none
 | .indexAddr ty x i=>match elT C ty,uget env x,uget env i with
  | some e,.sl,.dat (.int .i64) (i:Int)=>if szT C e=some 1 then(inIdx y.length i).bind fun _=>k (.fp i.toNat) env is else none
  | some e,.dat (.list t) xs,.dat (.int .i64) (i:Int)=>if szT C e=some t.wid then(idx (show List t.den from xs) i).bind fun x=>k (.ip t x) env is else none
  | some e,.es j,.dat (.int .i64) (i:Int)=>if szT C e=some 1 then(y[j]?).bind fun q=>(idx q i).bind fun x=>k (.ip (.int .i64) x) env is else none
  | _,_,_=>none
 | .load ty p=>match uget env p with
  | .fp i=>match isAggT C ty with
   | some false=>if i<y.length then k (.es i) env is else none
   | _=>none
  | .ip t x=>match isAggT C ty with
   | some false=>if fitT C ty t then k (.dat t x) env is else none
   | _=>none
  | _=>none
 | _=>none
def pickPut (ou:Nat)(d:Option Tmp)(x:UV)(env:List UV)(is:List Nat)(k:List UV→List Nat→Option ρ):Option ρ :=
 if d=some ou then(match x with
  | .es i=>k ((env.map UV.stale).set ou .out) [i]
  | _=>none)else k (uPut d x env) is
def opsU (ou:Nat)(ops:Array Oper):List Oper→List UV→List Nat→(List UV→List Nat→Option ρ)→Option ρ
 | [],env,is,k=>k env is
 | o::r,env,is,k=>match o.guard with
  | none=>uOp C y env is o.op fun x env is=>pickPut ou o.dst x env is fun env is=>opsU ou ops r env is k
  | some (j,want)=>if o.dst=some ou then none else match (ops[j]?).bind (·.dst)with
   | some d=>if d=ou then none else match uget env (.tmp d)with
    | .dat .bool (b:Bool)=>cond b
     (cond want (uOp C y (env.set d (.dat .bool true)) is o.op fun x env is=>opsU ou ops r (uPut o.dst x env) is k) (opsU ou ops r (uPut o.dst .und (env.set d (.dat .bool true))) is k))
     (cond want (opsU ou ops r (uPut o.dst .und (env.set d (.dat .bool false))) is k) (uOp C y (env.set d (.dat .bool false)) is o.op fun x env is=>opsU ou ops r (uPut o.dst x env) is k))
    | .und=>opsU ou ops r (uPut o.dst .und env) is k
    | _=>none
   | none=>none
noncomputable def codeU (Ls:List UL)(ou:Nat):Code→(ρ:Type)→List UV→List Nat→(AEx→List UV→List Nat→Option ρ)→Option ρ
 | .skip,_,env,is,k=>k .normal env is
 | .region _ ops false,_,env,is,k=>opsU C y ou ops ops.toList env is fun env is=>k .normal env is
 | .seq a b,ρ,env,is,k=>codeU Ls ou a ρ env is fun e env is=>match e with
  | .normal=>codeU Ls ou b ρ env is k
  | e=>k e env is
 | .cond c a b,ρ,env,is,k=>match uget env c with
  | .dat .bool (cb:Bool)=>cond cb (codeU Ls ou a ρ env is k) (codeU Ls ou b ρ env is k)
  | _=>none
 | .block id c,ρ,env,is,k=>codeU Ls ou c ρ env is fun e env is=>match e with
  | .exit id'=>if id'=id then k .normal env is else k (.exit id') env is
  | e=>k e env is
 | .exit id,_,env,is,k=>k (.exit id) env is
 | .ret,_,env,is,k=>k .ret env is
 | .loop c,ρ,env,is,k=>match findT (firstReg c) Ls with
  | some L=>if(wrC c).contains L.ix=false then none else match env[L.ix]?,env[ou]? with
   | some (.dat (.int .i64) (i:Int)),some .out=>(iter (fun s:Int × List Nat=>codeU Ls ou c ((Int × List Nat) ⊕ List Nat) (layU (wrC c) L.ix ou env s.1) s.2 fun e env' is'=>match e with
     | .normal=>match env'[L.ix]?,env'[ou]? with
      | some (.dat (.int .i64) (i':Int)),some .out=>some (.inl (i',is'))
      | _,_=>none
     | .exit id=>if id=L.ex then(match env'[ou]? with
      | some .out=>some (.inr is')
      | _=>none)else none
     | .ret=>none) (i,is)).bind fun is'=>k (.exit L.ex) ((keepU (wrC c) 0 env).set ou .out) is'
   | _,_=>none
  | none=>none
 | _,_,_,_,_=>none
def uvOf (σ:Sg)(id:Nat)(x:A):UV :=
 match x with
 | .l (.ref i)=>if i=id then .sl else match σ.ob i with
  | some (.own _ _ _ t x)=>.dat (.list t) x
  | _=>.unk
 | .l (.dat _ t x)=>.dat t x
 | _=>.unk
end
def UVOk (w0 w:World)(v vo:Value):UV→Value→Prop
 | .unk,_=>True
 | .sl,u=>u=v
 | .dat t x,u=>RdV (fun b=>b<w0.heap.size) w0 t x u
 | .fp i,u=>∃b n c,v=.slice (some ⟨b,0,none⟩) n c∧u=.pointer (some ⟨b,i,none⟩)
 | .es i,u=>∃b n c,v=.slice (some ⟨b,0,none⟩) n c∧w0.cell? ⟨b,i,none⟩=some u∧i<n∧u.oneCell'=true
 | .ip t x,u=>∃b o cs,u=.pointer (some ⟨b,o,none⟩)∧b<w0.heap.size∧(∀j,j<t.wid→w0.cell? ⟨b,o+j,none⟩=cs[j]?)∧RdC (fun b=>b<w0.heap.size) w0 t x cs
 | .out,u=>u=vo
 | .und,u=>u=undef
def UOut (w0:World)(v:Value)(is:List Nat)(vo:Value):Prop:=∀i,is=[i]→∃b n c,v=.slice (some ⟨b,0,none⟩) n c∧w0.cell? ⟨b,i,none⟩=some vo∧i<n∧vo.oneCell'=true
structure UI (W:List Nat) (a0:Act) (w0:World) (v:Value) (bs:List Nat) (e:TypeId) (y:List (List Int)) (env:List UV) (is:List Nat) (vo:Value) (a:Act) (w:World):Prop where
 defers:a.defers=[]
 len:a.tmps.size=env.length
 env:∀(i:Nat) (x:UV),env[i]? = some x→UVOk w0 w v vo x (a.tmps.getD i undef)
 size:a.tmps.size=a0.tmps.size
 fix:∀t,t∉W→a.tmps.getD t undef=a0.tmps.getD t undef
 ext:Ext w0 w
 own:OwnV (fun _=>False) w0 true e LL y v bs
 out:UOut w0 v is vo
 gl:Gl w0
section
variable {ρ:Type}{C:Ctx}{W:List Nat}{a0:Act}{w0 w:World}{v vo:Value}{bs:List Nat}{e:TypeId}{env:List UV}{is:List Nat}{y:List (List Int)}{a:Act}
theorem UI.get (h:UI W a0 w0 v bs e y env is vo a w)(x:Operand):UVOk w0 w v vo (uget env x) (a.eval x):=by
 unfold uget;split
 ·rename_i i;simp only[List.getD_eq_getElem?_getD,Act.eval];cases hx:env[i]? with
  | none=>trivial
  | some x=>exact h.env i x hx
 ·split
  ·exact⟨[.int .i64 _],by simp only[RdC],rfl⟩
  ·exact⟨[.bool _],by simp only[RdC],rfl⟩
  ·trivial
 ·trivial
theorem UI.put (h:UI W a0 w0 v bs e y env is vo a w)(d:Option Tmp)(hd:∀t,d=some t→t∈W){x:UV}{u:Value}(hu:UVOk w0 w v vo x u):UI W a0 w0 v bs e y (uPut d x env) is vo (a.put d u) w:=by
 cases d with
 | none=>exact h
 | some d =>
  refine{ h with len:=by simp[Act.put,uPut,h.len],env:=fun i z hz=>?_,defers:=h.defers,size:=by rw[←h.size];simp[Act.put],fix:=fun t ht=>?_ }
  ·simp only[uPut,List.getElem?_set]at hz;by_cases hi:d=i
   ·subst hi;simp only[if_true]at hz;split at hz
    ·rename_i hlt;obtain rfl:=Option.some.inj hz;have:(a.put (some d) u).tmps.getD d undef=u:=by simp[Act.put,Array.getElem?_setIfInBounds,h.len,hlt]
     rw[this];exact hu
    ·simp at hz
   ·rw[if_neg hi]at hz;have:(a.put (some d) u).tmps.getD i undef=a.tmps.getD i undef:=by simp[Act.put,Array.getElem?_setIfInBounds,hi]
    rw[this];exact h.env i z hz
  ·have hne:d≠t:=fun hx=>ht (hx▸hd d rfl);rw[←h.fix t ht];simp[Act.put,Array.getElem?_setIfInBounds,hne]
theorem UI.cell (h:UI W a0 w0 v bs e y env is vo a w) (hn:bs.Nodup) {i:Nat} {q:List Int} (hq:y[i]? = some q) {u:Value} {b n c:Nat} (hv:v = .slice (some ⟨b,0,none⟩) n c) (hc:w0.cell? ⟨b,i,none⟩ = some u) :
  ∃bi,DpC 0 w0 LL q [u] bi∧bi.Nodup∧∀x∈bi,x∈bs:=by
 obtain⟨b1,c1,cur,ys,bi,e1,e2,e3,e4,e5,e6,e7,e8,_⟩:=h.own.elem2 hn hq;rw[hv]at e1;simp only[Value.slice.injEq,Option.some.injEq,Addr.mk.injEq,and_true]at e1;obtain⟨rfl,_,_⟩:=e1;have hw:(LL).wid=1:=rfl;have h3:=e3 0 (by rw[hw];omega)
 rw[hw]at h3 e4;rw[cellEq e2]at hc;have hys:ys=[u]:=by
  match ys,e4 with
  | [z],_ =>
   have:cur[i*1+0]? = some z:=h3;rw[show i*1+0=i from by omega,hc]at this
   rw[Option.some.inj this]
 subst hys;exact⟨bi,e5,e6,e8⟩
theorem UI.dat (h:UI W a0 w0 v bs e y env is vo a w)(hn:bs.Nodup){x:UV}{u:Value}(hx:UVOk w0 w v vo x u){t:Ty}{d:t.den}(hd:uDat y is x t=some d):RdV (fun b=>b<w0.heap.size) w0 t d u:=by
 unfold uDat at hd;split at hd
 ·obtain⟨rfl,rfl⟩:=castT_some hd;exact hx
 ·rename_i i;obtain⟨q,hq,hd⟩:=Option.bind_eq_some_iff.1 hd;obtain⟨rfl,rfl⟩:=castT_some hd;obtain⟨b,n,c,hv,hc,_⟩:=hx;obtain⟨bi,h1,_,_⟩:=h.cell hn hq hv hc;exact⟨[u],h1.rd LL fun b hb=>(DpC.range LL h1 b hb).2,rfl⟩
 ·split at hd
  ·rename_i i;obtain⟨q,hq,hd⟩:=Option.bind_eq_some_iff.1 hd;obtain⟨rfl,rfl⟩:=castT_some hd;obtain⟨b,n,c,hv,hc,_⟩:=h.out i rfl;have hx:u=vo:=hx;subst hx;obtain⟨bi,h1,_,_⟩:=h.cell hn hq hv hc;exact⟨[u],h1.rd LL fun b hb=>(DpC.range LL h1 b hb).2,rfl⟩
  ·cases hd
 ·cases hd
theorem UI.args (h:UI W a0 w0 v bs e y env is vo a w) (hn:bs.Nodup):(ps:List PM)→(os:List Operand)→{d:PMs.den ps}→uArgs y is ps (os.map (uget env)) = some d →
  ArgsV (fun b=>b<w0.heap.size) w ps d (os.map a.eval) (ps.map fun _=>[])∧ps.all isD=true
 | [],[],d,_=>⟨by simp only[List.map_nil,ArgsV],rfl⟩
 | [.d false t],[o],d,hd=>by
  simp only[List.map_cons,List.map_nil,uArgs]at hd;exact⟨⟨[],rfl,(h.dat hn (h.get o) hd).mono (fun _ hb=>hb) (fun b hb=>h.ext.block b hb),(fun hf=>by cases hf),rfl⟩,rfl⟩
 | .d false t::p::r,o::os,d,hd=>by
  simp only[List.map_cons,uArgs]at hd;obtain⟨d1,h1,hd⟩:=Option.bind_eq_some_iff.1 hd;obtain⟨d2,h2,hd⟩:=Option.bind_eq_some_iff.1 hd;obtain rfl:=Option.some.inj hd;obtain⟨k1,k2⟩:=UI.args h hn (p::r) os h2;exact⟨⟨[],_,rfl,⟨(h.dat hn (h.get o) h1).mono (fun _ hb=>hb) (fun b hb=>h.ext.block b hb),(fun hf=>by cases hf),rfl⟩,k1⟩,by simpa[isD]using k2⟩
theorem UVOk.ext {w':World}(he:Ext w w'):(x:UV)→{u:Value}→UVOk w0 w v vo x u→UVOk w0 w' v vo x u
 | .unk,_,_=>trivial
 | .sl,_,h=>h
 | .dat _ _,_,h=>h
 | .fp _,_,h=>h
 | .es _,_,h=>h
 | .ip _ _,_,h=>h
 | .out,_,h=>h
 | .und,_,h=>h
theorem UVOk.stale {w':World}{vo':Value}:(x:UV)→{u:Value}→UVOk w0 w v vo x u→UVOk w0 w' v vo' x.stale u
 | .unk,_,_=>trivial
 | .sl,_,h=>h
 | .dat _ _,_,h=>h
 | .fp _,_,h=>h
 | .es _,_,h=>h
 | .ip _ _,_,h=>h
 | .out,_,_=>trivial
 | .und,_,h=>h
theorem UI.grow {w':World}(he:Ext w w')(h:UI W a0 w0 v bs e y env is vo a w):UI W a0 w0 v bs e y env is vo a w' :=
 {h with env:=fun i x hx=>(h.env i x hx).ext he,ext:=h.ext.trans he }
def St (W:List Nat)(env env':List UV):Prop:=env'.length=env.length∧∀t,t∉W→env'[t]? = env[t]?∨env'[t]? = (env[t]?).map UV.stale
theorem stale_stale (x:UV):x.stale.stale=x.stale:=by cases x<;>rfl
theorem St.refl (W:List Nat)(env:List UV):St W env env:=⟨rfl,fun _ _=>.inl rfl⟩
theorem St.trans {e1 e2 e3:List UV}(h:St W e1 e2)(k:St W e2 e3):St W e1 e3:=by
 refine⟨k.1.trans h.1,fun t ht=>?_⟩;rcases k.2 t ht with k1 | k1<;>rcases h.2 t ht with h1 | h1
 ·exact .inl (k1.trans h1)
 ·exact .inr (k1.trans h1)
 ·exact .inr (by rw[k1,h1])
 ·refine .inr ?_;rw[k1,h1,Option.map_map];congr 1
  funext x
  exact stale_stale x
theorem St.mono {W':List Nat}{e1 e2:List UV}(h:St W e1 e2)(hs:∀t∈W,t∈W'):St W' e1 e2:=⟨h.1,fun t ht=>h.2 t fun hx=>ht (hs t hx)⟩
theorem uPut_st (d:Option Tmp)(x:UV)(env:List UV)(hd:∀t,d=some t→t∈W):St W env (uPut d x env):=by
 unfold uPut;split
 ·rename_i d;refine⟨by simp,fun t ht=>.inl ?_⟩
  rw[List.getElem?_set,if_neg fun hx=>ht (by rw[←hx];exact hd d rfl)]
 ·exact .refl _ _
theorem uCall_some {ce:CallE} (hc:Ctr True C.P ce) (hn:bs.Nodup) (h:UI W a0 w0 v bs e y env is vo a w) (os:List Operand) {k:UV→Option ρ} {r:ρ} (hk:uCall y is ce (os.map (uget env)) k = some r) :
  ∃x,k x=some r∧Calls C.P ce.f (os.map a.eval).toArray w fun ex w'=>∃u,ex=.returned u∧Ext w w'∧UVOk w0 w' v vo x u:=by
 unfold uCall at hk;split at hk
 ·rename_i f ps nn t F;split at hk
  ·rename_i hfl;obtain⟨d,hd,hk⟩:=Option.bind_eq_some_iff.1 hk;obtain⟨res,hres,hk⟩:=Option.bind_eq_some_iff.1 hk;obtain⟨hargs,hall⟩:=h.args hn _ os hd;refine⟨_,hk,?_⟩;have hemp:(ps.map fun _=>([]:List Nat)).flatten=[]:=by
    clear hargs;induction ps with
    | nil=>rfl
    | cons _ _ ih=>simp
   have hno:∀q∈(ps.map fun _=>([]:List Nat)),q=[]:=fun q hq=>by
    obtain⟨_,_,rfl⟩:=List.mem_map.1 hq;rfl
   have hin:CallIn (fun b=>b<w0.heap.size) w (ps.map fun _=>([]:List Nat)) :=
    ⟨h.gl.frame h.ext.size fun b hb=>h.ext.block b (Nat.lt_of_lt_of_le hb h.gl.1),fun b hb=>(by rw[hemp]at hb;cases hb),by rw[hemp];exact List.nodup_nil,fun b hb=>(by rw[hemp]at hb;cases hb),fun b hb=>Nat.lt_of_lt_of_le hb h.ext.size,fun q hq b hb=>(by rw[hno q hq]at hb;cases hb)⟩
   refine Calls.mono (hc d res hres _ w _ _ hin hargs) fun ex w' hpost=>?_;obtain⟨I',rvs,rbss,ibss,hex,co,hsv,_,_⟩:=hpost;match rvs,hsv with
   | [u],hsv =>
    obtain⟨b,_,hlv⟩:=hsv;refine⟨u,hex,⟨co.os,co.tape,co.output,co.size,fun b hb=>co.frame b hb fun q hq hx=>(by rw[hno q hq]at hx;cases hx)⟩,?_⟩
    obtain⟨⟨cs,hcs,hv⟩,_,_⟩:=hlv;exact⟨cs,flat_RdC t hfl hcs,hv⟩
  ·simp at hk
 ·simp at hk
theorem getD_map {α β:Type}{f:α→β}{l:List α}{i:Nat}{x:β}(h:(l.map f)[i]? = some x):∃z,l[i]? = some z∧f z=x:=by
 rw[List.getElem?_map]at h;obtain⟨z,hz,hx⟩:=Option.map_eq_some_iff.1 h;exact⟨z,hz,hx⟩
theorem St.stales (W:List Nat)(env:List UV):St W env (env.map UV.stale):=⟨by simp,fun t _=>.inr (by simp)⟩
theorem UI.pick (h:UI W a0 w0 v bs e y env is vo a w){ou i:Nat}(hW:ou∈W){u:Value}(hu:UVOk w0 w v vo (.es i) u):UI W a0 w0 v bs e y ((env.map UV.stale).set ou .out) [i] u (a.put (some ou) u) w:=by
 refine{ h with len:=by simp[Act.put,h.len],env:=fun j z hz=>?_,defers:=h.defers,size:=by rw[←h.size];simp[Act.put],fix:=fun t ht=>?_,out:=fun i' hi'=>?_ }
 ·rw[List.getElem?_set]at hz;by_cases hi:ou=j
  ·subst hi;simp only[if_true]at hz;split at hz
   ·rename_i hlt;obtain rfl:=Option.some.inj hz;have hlt:ou<env.length:=by simpa using hlt
    have:(a.put (some ou) u).tmps.getD ou undef=u:=by simp[Act.put,Array.getElem?_setIfInBounds,h.len,hlt]
    rw[this];exact rfl
   ·simp at hz
  ·rw[if_neg hi]at hz;have:(a.put (some ou) u).tmps.getD j undef=a.tmps.getD j undef:=by simp[Act.put,Array.getElem?_setIfInBounds,hi]
   rw[this];obtain⟨x0,hx0,rfl⟩:=getD_map hz;exact(h.env j x0 hx0).stale x0
 ·have hne:ou≠t:=fun hx=>ht (hx▸hW);rw[←h.fix t ht];simp[Act.put,Array.getElem?_setIfInBounds,hne]
 ·obtain rfl:i=i':=by simpa using hi'
  exact hu
theorem index_u {ty e':TypeId} {t:Ty} {xs:List t.den} {q:t.den} {iv:Int} {u:Value} (hext:Ext w0 w) (he:elT C ty = some e') (hsz:szT C e' = some t.wid) (h0:0≤iv) (h1:iv < xs.length) (hq:xs[iv.toNat]? = some q)
  (hx:RdV (fun b=>b<w0.heap.size) w0 (.list t) xs u):∃s,(Instr.indexAt ty u (.int .i64 iv)).run C.P w=.ok s w∧UVOk w0 w v vo (.ip t q) s:=by
 have hx2:RdV (fun b=>b<w0.heap.size) w (.list t) xs u:=RdV.mono (fun _ hb=>hb) (fun b hb=>hext.block b hb) hx;obtain⟨s,hs1,hs2⟩:=index_dat (C:=C) (G:=fun _=>(undef,[])) (N:=0) (kd:=.i64) (elT_some he) hsz h0 h1 hq hx2;obtain⟨b,o,cs,hs,hb,hcs,hrd⟩:=hs2;refine⟨s,hs1,b,o,cs,hs,hb,fun j hj=>?_,hrd.mono (fun _ hb=>hb) (fun b hb=>(hext.block b hb).symm) t⟩;rw[←hcs j hj];exact(World.cell?_of_block (hext.block b hb)).symm
theorem uOp_some {o:Oper} {k:UV→List UV→List Nat→Option ρ} {r:ρ} (hC:Ctrs True C) (hn:bs.Nodup) (h:UI W a0 w0 v bs e y env is vo a w) (hk:uOp C y env is o.op k = some r)
  (next:Act→World→Prop) (Q:Exit→Act→World→Prop) (hnx:∀x env' is' vo' u w',k x env' is'=some r→UI W a0 w0 v bs e y env' is' vo' a w'→UVOk w0 w' v vo' x u→(∀W',St W' env env')→next (a.put o.dst u) w'):o.wp C.P a w next Q:=by
 obtain⟨dst,op,type,pos,after,guard⟩:=o;simp only at hk hnx;have val:∀{x:UV} {u:Value},k x env is=some r→(execOp a.eval ⟨dst,op,type,pos,after,guard⟩).run C.P w=.ok (.value u) w→UVOk w0 w v vo x u→Oper.wp C.P ⟨dst,op,type,pos,after,guard⟩ a w next Q:=fun h1 h2 h3=>by
  unfold Oper.wp;rw[h2];exact hnx _ _ _ _ _ _ h1 h h3 fun _=>.refl _ _
 unfold uOp at hk;split at hk
 ·exact val hk (by simp[execOp]) (h.get _)
 ·exact val hk (by simp[execOp]) (h.get _)
 ·rename_i op ty x z q;have hx:=h.get x;have hz:=h.get z;split at hk
  ·rename_i p q' h1 h2;rw[h1]at hx;rw[h2]at hz;have hx:a.eval x=.int .i64 p:=RdV_int.1 hx;have hz:a.eval z=.int .i64 q':=RdV_int.1 hz;split at hk
   ·exact val hk (by simp[execOp,hx,hz,eqGuard,binOp,Op.intArith]) (RdV_int.2 rfl)
   ·exact val hk (by simp[execOp,hx,hz,eqGuard,binOp,Op.intCmp]) (RdV_bool.2 rfl)
   ·exact val hk (u:=.bool (p==q')) (by simp[execOp,hx,hz,eqGuard,binOp,Op.intCmp]) (RdV_bool.2 rfl)
   ·exact val hk (by simp[execOp,hx,hz,eqGuard,binOp,Op.intCmp]) (RdV_bool.2 rfl)
   ·simp at hk
  ·simp at hk
 ·rename_i c x z;split at hk
  ·rename_i cb hc;have hv:=h.get c;rw[hc]at hv;have hv:a.eval c=.bool cb:=RdV_bool.1 hv;cases cb with
   | true=>exact val hk (by simp[execOp,hv,asBool]) (h.get x)
   | false=>exact val hk (by simp[execOp,hv,asBool]) (h.get z)
  ·simp at hk
 ·rename_i c;obtain⟨callee,args,argTypes⟩:=c;simp only at hk;split at hk
  ·rename_i f;obtain⟨ce,hfe,hk2⟩:=Option.bind_eq_some_iff.1 hk;obtain⟨hmem,rfl⟩:=findE_some hfe;obtain⟨hfn,hctr⟩:=hC.ok ce hmem;obtain⟨x,hk3,hcalls⟩:=uCall_some hctr hn h args.toList hk2;unfold Oper.wp;have hrun:(execOp a.eval ⟨dst,.call ⟨.value (.func ce.f),args,argTypes⟩,type,pos,after,guard⟩).run C.P w=.ok (.enter ce.f (args.toList.map a.eval).toArray) w:=by
    simp[execOp,resolve,invoke,Act.eval,Deferred.ofValue,run_callFunc hfn,mapL]
   rw[hrun,Oper.upon_enter];refine Calls.mono hcalls fun ex w' hp=>?_;obtain⟨u,rfl,hext,hu⟩:=hp;exact hnx _ _ _ _ _ _ hk3 (h.grow hext) hu fun _=>.refl _ _
  ·split at hk
   ·rename_i tS hal htl;cases het:elT C tS with
    | none=>simp[het]at hk
    | some e' =>
     simp only[het,Option.bind_some]at hk;cases hl:args.toList with
     | nil=>rw[hl]at hal;simp at hal
     | cons p q =>
      cases q with
      | cons _ _=>rw[hl]at hal;simp at hal
      | nil =>
       rw[hl]at hal;simp only[List.map_cons,List.map_nil,List.cons.injEq,and_true]at hal;have hx:=h.get p;rw[hal]at hx;have hx:a.eval p=v:=hx;have hv:∃q c,v=.slice q y.length c:=by
        obtain⟨_,cells,bss,how,_⟩:=h.own;rcases how.2 with⟨h1,h2⟩ | ⟨g,c,cur,h1,_⟩
        ·exact⟨none,0,by rw[h1,h2]⟩
        ·exact⟨_,c,h1⟩
       obtain⟨q,c,hv⟩:=hv;refine val hk (u:=.int .i64 y.length) ?_ (RdV_int.2 rfl);have hargs:args.map a.eval=#[.slice q y.length c]:=by rw[mapL,hl];simp[hx,hv]
       obtain⟨tl⟩:=argTypes;simp only at htl;subst htl;simp[execOp,resolve,invoke,builtin,hargs,Builtin.len_,run_underlying (elT_some het)];rfl
   ·simp at hk
  ·simp at hk
 ·rename_i ty x i;have hx:=h.get x;have hi:=h.get i;split at hk
  ·rename_i e' iv he h1 h2;rw[h1]at hx;rw[h2]at hi;have hx:a.eval x=v:=hx;have hi:a.eval i=.int .i64 iv:=RdV_int.1 hi;split at hk
   ·rename_i hsz;unfold inIdx at hk;split at hk
    ·rename_i hin;simp only[Option.bind_some]at hk;have hv:∃b c,v=.slice (some ⟨b,0,none⟩) y.length c:=by
      obtain⟨_,cells,bss,how,_⟩:=h.own;rcases how.2 with⟨h1,h2⟩ | ⟨g,c,cur,h1,_⟩
      ·omega
      ·exact⟨g,c,h1⟩
     obtain⟨b,c,hv⟩:=hv;refine val hk (u:=.pointer (some ⟨b,iv.toNat,none⟩)) ?_ ⟨b,_,c,hv,rfl⟩;simp[execOp,hx,hi,hv,Instr.indexAt,run_underlying (elT_some he),asIntOf,hin.1,hin.2,run_sizeOf hsz,add_none]
    ·simp at hk
   ·simp at hk
  ·rename_i e' t xs iv he h1 h2;rw[h1]at hx;rw[h2]at hi;have hi:a.eval i=.int .i64 iv:=RdV_int.1 hi;split at hk
   ·rename_i hsz;obtain⟨q,h0,h1',hq,hk2⟩:=idx_some hk;obtain⟨s,hs1,hs2⟩:=index_u (C:=C) (v:=v) (vo:=vo) h.ext he hsz h0 h1' hq hx;refine val hk2 (u:=s) ?_ hs2;simp only[execOp,hi];simp[hs1]
   ·simp at hk
  ·rename_i e' j iv he h1 h2;rw[h1]at hx;rw[h2]at hi;have hi:a.eval i=.int .i64 iv:=RdV_int.1 hi;split at hk
   ·rename_i hsz;obtain⟨l,hl,hk⟩:=Option.bind_eq_some_iff.1 hk;obtain⟨q,h0,h1',hq,hk2⟩:=idx_some hk;have hx0:RdV (fun b=>b<w0.heap.size) w0 (.list (.int .i64)) l (a.eval x):=h.dat hn (x:=.es j) hx (by simp only[uDat,hl];rfl)
    obtain⟨s,hs1,hs2⟩:=index_u (C:=C) (v:=v) (vo:=vo) (t:=.int .i64) h.ext he hsz h0 h1' hq hx0;refine val hk2 (u:=s) ?_ hs2;simp only[execOp,hi];simp[hs1]
   ·simp at hk
  ·simp at hk
 ·rename_i ty p;have hx:=h.get p;split at hk
  ·rename_i i h1;rw[h1]at hx;split at hk
   ·rename_i hag;split at hk
    ·rename_i hij;obtain⟨q,hq⟩:∃q,y[i]? = some q:=⟨_,List.getElem?_eq_getElem hij⟩;obtain⟨b,c,cur,ys,bi,e1,e2,e3,e4,e5,_⟩:=h.own.elem2 hn hq;obtain⟨b',n2,c',hv',hp⟩:=hx;rw[e1]at hv';simp only[Value.slice.injEq,Option.some.injEq,Addr.mk.injEq,and_true]at hv';obtain⟨rfl,_,_⟩:=hv';have hw:(LL).wid=1:=rfl;rw[hw]at e4;have h3:=e3 0 (by rw[hw];omega)
     rw[hw,show i*1+0=i from by omega]at h3
     have hcell:w0.cell? ⟨b,i,none⟩=some (ys[0]'(by omega)):=by
      rw[cellEq e2,h3];exact List.getElem?_eq_getElem (by omega)
     have hcell2:w.cell? ⟨b,i,none⟩=some (ys[0]'(by omega)):=by
      rw[←hcell];exact World.cell?_of_block (h.ext.block b (Array.getElem?_eq_some_iff.1 e2).1)
     have hone:(ys[0]'(by omega)).oneCell'=true:=RdC.one LL (DpC.rd (S:=fun _=>True) LL e5 fun _ _=>trivial) _ (List.getElem_mem _)
     refine val hk (u:=ys[0]'(by omega)) ?_ ⟨b,_,c,e1,hcell,hij,hone⟩
     simp[execOp,hp,Instr.loadAt,Instr.sureAddr,loadVar,isAggT_run hag w,load,Sem.run,hcell2]
    ·simp at hk
   ·simp at hk
  ·rename_i t x h1;rw[h1]at hx;split at hk
   ·split at hk
    ·rename_i hft;obtain⟨b,o,cs,hp,hb,hcs,hrd⟩:=hx;have hrun:=run_load_data (C:=C) (w:=w) (t:=ty) (ty:=t) (y:=x) (b:=b) (o:=o) (cs:=cs) (S:=fun b=>b<w0.heap.size) hft (fun j hj=>by
      rw[←hcs j hj];exact World.cell?_of_block (h.ext.block b hb)) (hrd.mono (fun _ hb=>hb) (fun b hb=>h.ext.block b hb) t)
     refine val hk (u:=mkV t cs) ?_ ⟨cs,hrd,rfl⟩;simp only[execOp,hp];simp[hrun]
    ·simp at hk
   ·simp at hk
  ·simp at hk
 ·simp at hk
theorem UI.know (h:UI W a0 w0 v bs e y env is vo a w){d:Nat}{x:UV}(hx:UVOk w0 w v vo x (a.tmps.getD d undef)):UI W a0 w0 v bs e y (env.set d x) is vo a w:=by
 refine{ h with len:=by rw[h.len];simp,env:=fun i z hz=>?_ }
 rw[List.getElem?_set]at hz;by_cases hi:d=i
 ·subst hi;simp only[if_true]at hz;split at hz
  ·obtain rfl:=Option.some.inj hz;exact hx
  ·cases hz
 ·rw[if_neg hi]at hz;exact h.env i z hz
theorem opsU_some {r:ρ} {ou:Nat} {ops:Array Oper} (hC:Ctrs True C) (hn:bs.Nodup) (W':List Nat) (hW':∀ o∈ops.toList,∀ t,o.dst = some t→t∈W') (hW:∀ o∈ops.toList,∀ t,o.dst = some t→t∈W):(os:List Oper)→(i:Nat)→{env:List UV}→{is:List Nat}→{vo:Value}→{a:Act}→{w:World}→{k:List UV→List Nat→Option ρ} →
  (∀j o,os[j]? = some o→ops[i+j]? = some o)→UI W a0 w0 v bs e y env is vo a w→opsU C y ou ops os env is k=some r→(Q:Exit→Act→World→Prop) →
  (∀env' is' vo' a' w',k env' is'=some r→UI W a0 w0 v bs e y env' is' vo' a' w'→St W' env env'→Q .normal a' w')→wpOps C.P ops Q (List.range' i os.length) a w
 | [],i,env,is,vo,a,w,k,ho,h,hk,Q,hQ=>by
  simp only[opsU]at hk;simp only[List.length_nil,List.range'_zero,wpOps];exact hQ env is vo a w hk h (.refl _ _)
 | o::os,i,env,is,vo,a,w,k,ho,h,hk,Q,hQ=>by
  have hoi:ops[i]? = some o:=by have:=ho 0 o rfl;simpa using this
  have hmem:o∈ops.toList:=by rw[←Array.getElem?_toList]at hoi;exact List.mem_of_getElem? hoi
  have ho':∀j o',os[j]? = some o'→ops[i+1+j]? = some o':=fun j o' hj=>by have:=ho (j+1) o' (by simpa using hj);rwa [show i+(j+1)=i+1+j from by omega]at this
  simp only[opsU]at hk;simp only[List.length_cons,List.range'_succ,wpOps];rw[hoi];simp only;have run:∀{env1:List UV},UI W a0 w0 v bs e y env1 is vo a w→St W' env env1→(uOp C y env1 is o.op fun x env is=>opsU C y ou ops os (uPut o.dst x env) is k)=some r→o.wp C.P a w (wpOps C.P ops Q (List.range' (i+1) os.length)) Q:=fun{env1} h1 hs hk =>
   uOp_some hC hn h1 hk _ Q fun x env2 is1 vo1 u w' k1 h2 h3 h4 =>
    opsU_some hC hn W' hW' hW os (i+1) ho' (h2.put o.dst (hW o hmem) h3) k1 Q
     fun env3 is2 vo2 a2 w2 k1 k2 k3=>hQ env3 is2 vo2 a2 w2 k1 k2 (((hs.trans (h4 W')).trans (uPut_st _ _ _ (hW' o hmem))).trans k3)
  have skip:∀{env1:List UV},UI W a0 w0 v bs e y env1 is vo a w→St W' env env1→opsU C y ou ops os (uPut o.dst .und env1) is k=some r→wpOps C.P ops Q (List.range' (i+1) os.length) (a.put o.dst undef) w:=fun{env1} h1 hs hk =>
   opsU_some hC hn W' hW' hW os (i+1) ho' (h1.put o.dst (hW o hmem) (x:=.und) (u:=undef) rfl) hk Q
    fun env3 is2 vo2 a2 w2 k1 k2 k3=>hQ env3 is2 vo2 a2 w2 k1 k2 ((hs.trans (uPut_st _ _ _ (hW' o hmem))).trans k3)
  split at hk
  ·rename_i hg;have hw:Region.wanted o (yielded ops a.tmps)=true:=by simp[Region.wanted,hg]
   rw[if_pos hw];refine .inl (uOp_some hC hn h hk _ Q fun x env2 is1 vo1 u w' k1 h2 h3 h4=>?_);unfold pickPut at k1;split at k1
   ·rename_i hdst;split at k1
    ·have hou:=hW' o hmem ou hdst;have hp:=h2.pick (hW o hmem ou hdst) h3;rw[←hdst]at hp;exact opsU_some hC hn W' hW' hW os (i+1) ho' hp k1 Q
      fun env3 is2 vo2 a2 w2 k1 k2 k3=>hQ env3 is2 vo2 a2 w2 k1 k2 (((h4 W').trans ((St.stales W' env2).trans ⟨by simp,fun t ht=>.inl (by rw[List.getElem?_set,if_neg fun hx=>ht (by rw[←hx];exact hou)])⟩)).trans k3)
    ·simp at k1
   ·exact opsU_some hC hn W' hW' hW os (i+1) ho' (h2.put o.dst (hW o hmem) h3) k1 Q
     fun env3 is2 vo2 a2 w2 k1 k2 k3=>hQ env3 is2 vo2 a2 w2 k1 k2 (((h4 W').trans (uPut_st _ _ _ (hW' o hmem))).trans k3)
  ·rename_i j want hg;split at hk
   ·simp at hk
   split at hk
   ·rename_i d hd;split at hk
    ·simp at hk
    split at hk
    ·rename_i b hb;have hv:=h.get (.tmp d);rw[hb]at hv;have hv:a.tmps.getD d undef=.bool b:=by have:=RdV_bool.1 hv;simpa only[Act.eval]using this
     have hyl:yielded ops a.tmps j=some b:=by
      unfold yielded;rw[hd];simp only[Option.bind_some];cases ht:a.tmps[d]? with
      | none=>rw[Array.getD_eq_getD_getElem?,ht]at hv;simp[undef]at hv
      | some u =>
       rw[Array.getD_eq_getD_getElem?,ht]at hv;simp only[Option.getD_some]at hv;subst hv;rfl
     have hw:Region.wanted o (yielded ops a.tmps)=(b==want):=by
      simp only[Region.wanted,hg,hyl];cases b<;>cases want<;>rfl
     have hdW:d∈W':=by
      obtain⟨oj,hoj,hd'⟩:=Option.bind_eq_some_iff.1 hd;rw[←Array.getElem?_toList]at hoj;exact hW' oj (List.mem_of_getElem? hoj) d hd'
     have hst:∀x,St W' env (env.set d x):=fun x=>⟨by simp,fun t ht=>.inl (by rw[List.getElem?_set,if_neg fun hx=>ht (by rw[←hx];exact hdW)])⟩
     cases b with
     | true =>
      have h1:=h.know (d:=d) (x:=.dat .bool true) (by rw[hv];exact RdV_bool.2 rfl)
      cases want with
      | true =>
       rw[if_pos (by rw[hw];rfl)]
       exact .inl (run h1 (hst _) hk)
      | false =>
       rw[if_neg (by rw[hw];simp)]
       exact skip h1 (hst _) hk
     | false =>
      have h1:=h.know (d:=d) (x:=.dat .bool false) (by rw[hv];exact RdV_bool.2 rfl)
      cases want with
      | false =>
       rw[if_pos (by rw[hw];rfl)]
       exact .inl (run h1 (hst _) hk)
      | true =>
       rw[if_neg (by rw[hw];simp)]
       exact skip h1 (hst _) hk
    ·rename_i hu;have hv:a.tmps.getD d undef=undef:=by
      have:=h.get (.tmp d);rw[hu]at this;simpa only[UVOk,Act.eval]using this
     have hyl:yielded ops a.tmps j=none:=by
      unfold yielded;rw[hd];simp only[Option.bind_some];cases ht:a.tmps[d]? with
      | none=>rfl
      | some u =>
       rw[Array.getD_eq_getD_getElem?,ht]at hv;simp only[Option.getD_some]at hv;subst hv;rfl
     have hw:Region.wanted o (yielded ops a.tmps)=false:=by
      simp only[Region.wanted,hg,hyl];cases want<;>rfl
     rw[if_neg (by rw[hw];simp)]
     exact skip h (.refl _ _) hk
    ·simp at hk
   ·simp at hk
theorem keepU_len (W:List Nat):(n:Nat)→(env:List UV)→(keepU W n env).length=env.length
 | _,[]=>rfl
 | n,x::r=>by simp only[keepU,List.length_cons,keepU_len W (n+1) r]
theorem keepU_get (W:List Nat):(n:Nat)→(env:List UV)→(t:Nat)→(keepU W n env)[t]? = (env[t]?).map fun x=>if W.contains (n+t)then .unk else x.stale
 | _,[],t=>by simp[keepU]
 | n,x::r,0=>by simp[keepU]
 | n,x::r,t+1=>by
  simp only[keepU,List.getElem?_cons_succ];rw[keepU_get W (n+1) r t,show n+1+t=n+(t+1)from by omega]
theorem UI.at_ (h:UI W a0 w0 v bs e y env is vo a w) {W':List Nat} {env1:List UV} {is1:List Nat} {vo1:Value} {a1:Act} {w1:World} (h1:UI W a0 w0 v bs e y env1 is1 vo1 a1 w1) (hl:env1.length = env.length) {ou:Nat}
  (hs:∀t,t∉W'→t≠ou→env1[t]? = env[t]?∨env1[t]? = (env[t]?).map UV.stale) (ho:env1[ou]? = some .out):UI W a0 w0 v bs e y ((keepU W' 0 env).set ou .out) is1 vo1 a1 w1:=by
 refine{ h1 with len:=by rw[h1.len,hl];simp[keepU_len],env:=fun j z hz=>?_ }
 rw[List.getElem?_set]at hz;by_cases hj:ou=j
 ·subst hj;simp only[if_true]at hz;split at hz
  ·obtain rfl:=Option.some.inj hz;exact h1.env _ _ ho
  ·cases hz
 ·rw[if_neg hj,keepU_get,Nat.zero_add]at hz;obtain⟨x,hx,rfl⟩:=Option.map_eq_some_iff.1 hz;split
  ·trivial
  ·rename_i hw;have hw:j∉W':=by simpa using hw
   rcases hs j hw (fun h=>hj h.symm)with q | q
   ·rw[hx]at q;exact(h1.env j x q).stale x
   ·rw[hx]at q;exact h1.env j _ q
theorem layU_eq (W':List Nat)(ix ou:Nat)(env:List UV)(i:Int)(hne:ix≠ou):layU W' ix ou env i=((keepU W' 0 env).set ou .out).set ix (.dat (.int .i64) i):=by
 unfold layU;rw[List.set_comm _ _ hne]
theorem UI.lay (h:UI W a0 w0 v bs e y env is vo a w) {W':List Nat} {env1:List UV} {is1:List Nat} {vo1:Value} {a1:Act} {w1:World} (h1:UI W a0 w0 v bs e y env1 is1 vo1 a1 w1) (hl:env1.length = env.length) {ix ou:Nat} {i:Int} (hne:ix≠ou)
  (hs:∀t,t∉W'→t≠ou→env1[t]? = env[t]?∨env1[t]? = (env[t]?).map UV.stale) (ho:env1[ou]? = some .out) (hi:env1[ix]? = some (.dat (.int .i64) i)):UI W a0 w0 v bs e y (layU W' ix ou env i) is1 vo1 a1 w1:=by
 have h2:=h.at_ (W':=W') h1 hl hs ho;rw[layU_eq _ _ _ _ _ hne];refine{ h2 with len:=by rw[h2.len];simp,env:=fun j z hz=>?_ }
 rw[List.getElem?_set]at hz;by_cases hj:ix=j
 ·subst hj;simp only[if_true]at hz;split at hz
  ·obtain rfl:=Option.some.inj hz;exact h1.env _ _ hi
  ·cases hz
 ·rw[if_neg hj]at hz;exact h2.env j z hz
theorem codeU_some {Ls:List UL} {ou:Nat} (hC:Ctrs True C) (hn:bs.Nodup) (c:Code):(∀ t∈wrC c,t∈W)→∀ {ρ:Type} {env:List UV} {is:List Nat} {vo:Value} {a:Act} {w:World} {k:AEx→List UV→List Nat→Option ρ} {r:ρ},UI W a0 w0 v bs e y env is vo a w→codeU C y Ls ou c ρ env is k = some r→∀ (Q:Exit→Act→World→Prop),
  (∀e' env' is' vo' a' w',k e' env' is'=some r→UI W a0 w0 v bs e y env' is' vo' a' w'→St (wrC c) env env'→Q e'.ex a' w')→c.wp C.P Q a w:=by
 induction c with
 | skip =>
  intro hW ρ env is vo a w k r h hk Q hQ;simp only[codeU]at hk;exact wp_skip (hQ .normal env is vo a w hk h (.refl _ _))
 | region id ops draw =>
  intro hW ρ env is vo a w k r h hk Q hQ;cases draw with
  | true=>simp[codeU]at hk
  | false =>
   simp only[codeU]at hk;refine wp_region ?_;have:=opsU_some (ops:=ops) hC hn (wrC (.region id ops false)) (fun o ho t ht=>(by simp only[wrC,List.mem_filterMap];exact⟨o,ho,ht⟩)) (fun o ho t ht=>hW t (by simp only[wrC,List.mem_filterMap];exact⟨o,ho,ht⟩)) ops.toList 0 (fun j o hj=>by rw[Nat.zero_add,←Array.getElem?_toList];exact hj) h hk Q
    fun env' is' vo' a' w' h1 h2 h3=>hQ .normal env' is' vo' a' w' h1 h2 h3
   rw[List.range_eq_range'];simpa using this
 | seq x z ihx ihy =>
  intro hW;replace ihx:=@ihx fun t ht=>hW t (by simp only[wrC];exact List.mem_append_left _ ht)
  replace ihy:=@ihy fun t ht=>hW t (by simp only[wrC];exact List.mem_append_right _ ht)
  intro ρ env is vo a w k r h hk Q hQ;simp only[codeU]at hk;have m1:∀{e1 e2},St (wrC x) e1 e2→St (wrC (.seq x z)) e1 e2:=fun hs=>hs.mono fun t ht=>by simp only[wrC];exact List.mem_append_left _ ht
  have m2:∀{e1 e2},St (wrC z) e1 e2→St (wrC (.seq x z)) e1 e2:=fun hs=>hs.mono fun t ht=>by simp only[wrC];exact List.mem_append_right _ ht
  refine wp_seq (ihx h hk _ fun e' env' is' vo' a' w' h1 h2 h3=>?_);cases e' with
  | normal=>exact ihy h2 h1 Q fun e2 env2 is2 vo2 a2 w2 k1 k2 k3=>hQ e2 env2 is2 vo2 a2 w2 k1 k2 ((m1 h3).trans (m2 k3))
  | exit id=>exact hQ _ env' is' vo' a' w' h1 h2 (m1 h3)
  | ret=>exact hQ _ env' is' vo' a' w' h1 h2 (m1 h3)
 | cond cc x z ihx ihy =>
  intro hW;replace ihx:=@ihx fun t ht=>hW t (by simp only[wrC];exact List.mem_append_left _ ht)
  replace ihy:=@ihy fun t ht=>hW t (by simp only[wrC];exact List.mem_append_right _ ht)
  intro ρ env is vo a w k r h hk Q hQ;simp only[codeU]at hk;have m1:∀{e1 e2},St (wrC x) e1 e2→St (wrC (.cond cc x z)) e1 e2:=fun hs=>hs.mono fun t ht=>by simp only[wrC];exact List.mem_append_left _ ht
  have m2:∀{e1 e2},St (wrC z) e1 e2→St (wrC (.cond cc x z)) e1 e2:=fun hs=>hs.mono fun t ht=>by simp only[wrC];exact List.mem_append_right _ ht
  split at hk
  ·rename_i cb hc;have hv:=h.get cc;rw[hc]at hv;have hv:a.eval cc=.bool cb:=RdV_bool.1 hv;cases cb with
   | true=>exact wp_cond_true hv (ihx h hk Q fun e' env' is' vo' a' w' h1 h2 h3=>hQ e' env' is' vo' a' w' h1 h2 (m1 h3))
   | false=>exact wp_cond_false hv (ihy h hk Q fun e' env' is' vo' a' w' h1 h2 h3=>hQ e' env' is' vo' a' w' h1 h2 (m2 h3))
  ·simp at hk
 | block id c ih =>
  intro hW;replace ih:=@ih fun t ht=>hW t (by simp only[wrC];exact ht)
  intro ρ env is vo a w k r h hk Q hQ;simp only[codeU]at hk;have m1:∀{e1 e2},St (wrC c) e1 e2→St (wrC (.block id c)) e1 e2:=fun hs=>hs.mono fun t ht=>by simp only[wrC];exact ht
  refine wp_block (ih h hk _ fun e' env' is' vo' a' w' h1 h2 h3=>?_);cases e' with
  | normal=>exact hQ .normal env' is' vo' a' w' h1 h2 (m1 h3)
  | ret=>exact hQ .ret env' is' vo' a' w' h1 h2 (m1 h3)
  | exit id' =>
   simp only at h1;by_cases hid:id'=id
   ·simp only[hid,if_true]at h1;simp only[AEx.ex,Exit.inBlock,hid,if_true];exact hQ .normal env' is' vo' a' w' h1 h2 (m1 h3)
   ·simp only[hid,if_false]at h1;simp only[AEx.ex,Exit.inBlock,hid,if_false];exact hQ (.exit id') env' is' vo' a' w' h1 h2 (m1 h3)
 | exit id =>
  intro hW ρ env is vo a w k r h hk Q hQ;simp only[codeU]at hk;exact wp_exit (hQ (.exit id) env is vo a w hk h (.refl _ _))
 | ret =>
  intro hW ρ env is vo a w k r h hk Q hQ;simp only[codeU]at hk;exact wp_ret (hQ .ret env is vo a w hk h (.refl _ _))
 | loop c ih =>
  intro hW;replace ih:=@ih fun t ht=>hW t (by simp only[wrC];exact ht)
  intro ρ env is vo a w k r h hk Q hQ;simp only[codeU]at hk;split at hk
  ·rename_i L hL;split at hk
   ·cases hk
   rename_i hix;have hix:L.ix∈wrC c:=by simpa using hix
   split at hk
   ·rename_i i0 hi0 hou;have hne:L.ix≠ou:=fun hx=>by rw[hx,hou]at hi0;cases hi0
    obtain⟨res,hit,hk⟩:=Option.bind_eq_some_iff.1 hk;refine wp_mono (loop_iter (Inv:=fun s aa ww=>∃vo',UI W a0 w0 v bs e y (layU (wrC c) L.ix ou env s.1) s.2 vo' aa ww) (Out:=fun q e' aa ww=>e'=.exit L.ex∧∃vo',UI W a0 w0 v bs e y ((keepU (wrC c) 0 env).set ou .out) q vo' aa ww) (fun y a w hf=>by simp at hf) (fun s a w res hi hs=>?_) hit ⟨vo,h.lay h rfl hne (fun t _ _=>.inl rfl) hou hi0⟩) fun e' a' w' ho=>?_
    ·obtain⟨vo1,hi⟩:=hi;refine ih hi hs _ fun e' env' is' vo' a' w' h1 h2 h3=>?_;have h4:env'.length=env.length:=by rw[h3.1];simp[layU,keepU_len]
     have h5:∀t,t∉wrC c→t≠ou→env'[t]? = env[t]?∨env'[t]? = (env[t]?).map UV.stale:=fun t ht hx=>by
      have hlay:(layU (wrC c) L.ix ou env s.1)[t]? = (env[t]?).map UV.stale:=by
       unfold layU;rw[List.getElem?_set,if_neg fun hx'=>hx hx'.symm,List.getElem?_set,if_neg fun hx'=>ht (by rw[←hx'];exact hix),keepU_get,Nat.zero_add]
       cases env[t]? with
       | none=>rfl
       | some x=>simp[ht]
      right;rcases h3.2 t ht with q | q
      ·rw[q,hlay]
      ·rw[q,hlay,Option.map_map];congr 1
       funext x
       exact stale_stale x
     cases e' with
     | normal =>
      simp only at h1;split at h1
      ·rename_i i' q3 q4;obtain rfl:=Option.some.inj h1;exact⟨rfl,vo',h.lay h2 h4 hne h5 q4 q3⟩
      ·simp at h1
     | exit id' =>
      simp only at h1;split at h1
      ·rename_i hid;subst hid;split at h1
       ·rename_i q4;obtain rfl:=Option.some.inj h1;exact⟨rfl,vo',h.at_ h2 h4 h5 q4⟩
       ·cases h1
      ·simp at h1
     | ret=>simp at h1
    ·obtain⟨rfl,vo',ho⟩:=ho;refine hQ (.exit L.ex) _ _ vo' a' w' hk ho ⟨by simp[keepU_len],fun t ht=>?_⟩
     have ht:t∉wrC c:=fun hx=>ht (by simp only[wrC];exact hx)
     by_cases htu:ou=t
     ·subst htu;left;have:=(List.getElem?_eq_some_iff.1 hou).1;rw[List.getElem?_set_self (by rw[keepU_len];exact this),hou]
     ·right;rw[List.getElem?_set,if_neg htu,keepU_get,Nat.zero_add];cases env[t]? with
      | none=>rfl
      | some x=>simp[ht]
   ·simp at hk
  ·simp at hk
 | _ =>
  intro hW ρ env is vo a w k r h hk Q hQ;simp[codeU]at hk
end
section
variable {ρ:Type}(C:Ctx)
def ioU:(ps:List PM)→Option (PMo.den ps)
 | []=>some ()
 | .d _ _::r=>ioU r
 | _=>none
noncomputable def hookU (Ls:List UL)(ou sl:Nat)(b:Code)(ρ:Type)(σ:Sg)(ku:List (List Int)→AEx→List UV→List Nat→Option ρ):Option ρ :=
 match σ.env[sl]? with
 | some (.l (.ref ob))=>match σ.ob ob with
  | some (.own false true _ t y)=>(castT (.list t) (.list LL) y).bind fun y=>codeU C y Ls ou b ρ (σ.env.map (uvOf σ ob)) [] (ku y)
  | _=>none
 | _=>none
noncomputable def topU (Ls:List UL)(ou sl hk:Nat):Code→(ρ:Type)→Sg→(AEx→Sg→Option ρ)→(List (List Int)→AEx→List UV→List Nat→Option ρ)→Option ρ
 | .seq a b,ρ,σ,k,ku=>topU Ls ou sl hk a ρ σ (fun e σ=>match e with
  | .normal=>if firstReg b=hk then hookU C Ls ou sl b ρ σ ku else topU Ls ou sl hk b ρ σ k ku
  | e=>k e σ) fun y e env is=>match e with
  | .normal=>codeU C y Ls ou b ρ env is (ku y)
  | e=>ku y e env is
 | c,ρ,σ,k,_=>codeK C c ρ σ k
def endU (ps:List PM)(rl r2:Nat)(y:List (List Int))(e:AEx)(env:List UV)(is:List Nat):Option (ResB (hasIo ps) (List Int×Bool) (PMo.den ps)) :=
 match e with
 | .exit _=>none
 | _=>match env[rl]?,env[r2]?,is with
  | some .out,some (.dat .bool (b:Bool)),[i]=>(y[i]?).bind fun q=>(ioU ps).bind fun o=>some (resJ (hasIo ps) (q,b) o)
  | _,_,_=>none
abbrev rsU (eo:TypeId):List SK:=[.l (.o true eo (.int .i64)),.l (.d false .bool)]
noncomputable def funU (Ls:List UL)(eo ou sl hk:Nat)(fn:Func)(ps:List PM)(x:PMs.den ps):Option (ResB (hasIo ps) (List Int×Bool) (PMo.den ps)) :=
 match fn.body,fn.results.toList with
 | some c,[.tmp rl,.tmp r2] =>
  let (as,σ):=encPs ⟨List.replicate fn.ntmps (.l .unk),[]⟩ ps x
  topU C Ls ou sl hk c _ { σ with env:=as++σ.env.drop as.length } (fun e σ=>match e with
   | .exit _=>none
   | _=>resK C σ fn.results.toList fun vs=>ioK ps 0 (frzSs (rsU eo) vs σ) fun o σ=>decSs (rsU eo) vs σ fun r _=>some (resJ (hasIo ps) r o)) (endU ps rl r2)
 | _,_=>none
end
section
variable {w:World}
theorem ioU_some {I:Nat→Prop}:(ps:List PM)→{o:PMo.den ps}→{vs:List Value}→ioU ps=some o→vs.length=ps.length→IoV I w ps o vs []
 | [],o,[],h,_=>rfl
 | .d _ _::r,o,v::vs,h,hl=>by
  simp only[ioU]at h;simp only[IoV];exact ioU_some r h (by simpa using hl)
 | .f _::r,o,v::vs,h,hl=>by simp[ioU]at h
 | .mv _ _ _::r,o,v::vs,h,hl=>by simp[ioU]at h
 | .io _ _ _::r,o,v::vs,h,hl=>by simp[ioU]at h
 | .cur _::r,o,v::vs,h,hl=>by simp[ioU]at h
 | [],o,_::_,h,hl=>by simp at hl
 | _::_,o,[],h,hl=>by simp at hl
end
section
variable {ρ:Type}{C:Ctx}{W:List Nat}{a0:Act}{w0 w:World}{v vo:Value}{bs:List Nat}{e eo:TypeId}{env:List UV}{is:List Nat}{y:List (List Int)}{a:Act}
theorem DpC.ints {x:List Int}{u:Value}{bs:List Nat}(h:DpC 0 w (.list (.int .i64)) x [u] bs)(he:eInt=some eo):OwnV (fun _=>False) w true eo (.int .i64) x u bs:=by
 obtain⟨e',ho,hk⟩:=h.own;unfold eOk at hk;rw[he]at hk;have:e'=eo:=by simpa using hk
 rw[←this];exact ho
theorem UI.own_out (h:UI W a0 w0 v bs e y env is vo a w)(hn:bs.Nodup)(he:eInt=some eo){i:Nat}(hi:is=[i]){q:List Int}(hq:y[i]? = some q):∃bi,OwnV (fun _=>False) w true eo (.int .i64) q vo bi∧bi.Nodup∧∀b∈bi,b∈bs∧b<w0.heap.size:=by
 obtain⟨b,n,c,hv,hc,_,_⟩:=h.out i hi;obtain⟨bi,h1,h2,h3⟩:=h.cell hn hq hv hc;exact⟨bi,DpC.ints (h1.mono (Nat.le_refl _) LL fun b hb=>h.ext.block b (DpC.range LL h1 b hb).2) he,h2,fun b hb=>⟨h3 b hb,(DpC.range LL h1 b hb).2⟩⟩
end
section
variable {ρ:Type}{C:Ctx}{E:En}{G:Gh}{σ:Sg}{a:Act}{w:World}
theorem uvOf_ok (h:RelG E G σ a w){id:Nat}{t:Nat}{x:A}(hx:σ.env[t]? = some x):UVOk w w (G id).1 (.slice none 0 0) (uvOf σ id x) (a.tmps.getD t undef):=by
 have hv:=h.env t x hx;have himm:∀b,Imm E G σ w b→b<w.heap.size:=fun b hb=>hb.1;unfold uvOf;split
 ·rename_i i;split
  ·rename_i hi;subst hi;exact hv.2.1
  ·split
   ·rename_i ro dp e t x ho;obtain⟨_,hv,_⟩:=hv;rw[hv];have hor:=h.obs i _ ho;cases ro with
    | true =>
     simp only[OR]at hor;exact RdV.mono himm (fun _ _=>rfl) hor
    | false =>
     simp only[OR]at hor;exact OwnV.rd hor himm fun b hb=>(h.range i _ ho rfl b hb).1
   ·trivial
 ·exact RdV.mono himm (fun _ _=>rfl) hv.1
 ·trivial
theorem topU_some {Ls:List UL} {ou sl hk:Nat} (hC:Ctrs E.d C) (hT:Ctrs True C) {W:List Nat} (hF:∀ t∈W,¬ E.F t) (c:Code):(∀ t∈wrC c,t∈W)→∀ {ρ:Type} {σ:Sg} {G:Gh} {a:Act} {w:World} {k:AEx→Sg→Option ρ} {ku:List (List Int)→AEx→List UV→List Nat→Option ρ} {r:ρ},RelG E G σ a w→topU C Ls ou sl hk c ρ σ k ku = some r→∀ (Q:Exit→Act→World→Prop),
  (∀e σ' a' w' G',k e σ'=some r→RelG E G' σ' a' w'→Q e.ex a' w') →
  (∀(y:List (List Int)) (e:AEx) (env:List UV) (is:List Nat) (v vo:Value) (bs:List Nat) (ee:TypeId) (a':Act) (w' w0:World) (σ0:Sg) (G0:Gh) (a0:Act),ku y e env is=some r→RelG E G0 σ0 a0 w0→UI W a0 w0 v bs ee y env is vo a' w'→bs.Nodup →
   (∀b∈bs,b<E.B→E.X b)→(∀b,bs.head? = some b→b<E.B→E.H b)→Q e.ex a' w')→c.wp C.P Q a w:=by
 have base:∀ c:Code,(∀ t∈wrC c,¬ E.F t)→∀ {ρ:Type} {σ:Sg} {G:Gh} {a:Act} {w:World} {k:AEx→Sg→Option ρ} {r:ρ},RelG E G σ a w→codeK C c ρ σ k = some r→∀ (Q:Exit→Act→World→Prop),
   (∀e σ' a' w' G',k e σ'=some r→RelG E G' σ' a' w'→Q e.ex a' w')→c.wp C.P Q a w:=fun c hF ρ σ G a w k r h hk Q hQ =>
  codeK_some hC c rfl hF h hk Q fun e σ' a' w' G' h1 h2 _ _=>hQ e σ' a' w' G' h1 h2
 induction c with
 | seq x z ihx ihy =>
  intro hW;have hWx:∀t∈wrC x,t∈W:=fun t ht=>hW t (by simp only[wrC];exact List.mem_append_left _ ht)
  have hWz:∀t∈wrC z,t∈W:=fun t ht=>hW t (by simp only[wrC];exact List.mem_append_right _ ht)
  replace ihx:=@ihx hWx;replace ihy:=@ihy hWz;intro ρ σ G a w k ku r h hk Q hQ hU;simp only[topU]at hk;refine wp_seq (ihx h hk _ (fun e σ' a' w' G' h1 h2=>?_) fun y e env is v vo bs ee a' w' w0 σ0 G0 a0 h1 h2 h3 h4 h5 h6=>?_)
  ·cases e with
   | normal =>
    simp only at h1;split at h1
    ·unfold hookU at h1;split at h1
     ·rename_i ob hob;split at h1
      ·rename_i ee t y ho;obtain⟨y1,hc,h1⟩:=Option.bind_eq_some_iff.1 h1;obtain⟨e1,hy⟩:=castT_some hc;have e3:t=LL:=by simpa using e1
       subst e3;have hy:y=y1:=hy;subst hy;have hoo:=h2.obs ob _ ho;have hown:OwnV (fun _=>False) w' true ee LL y (G' ob).1 (G' ob).2:=OwnV.alone (by simpa only[OR]using hoo) (.inl rfl)
       have hn:=h2.nodup ob _ ho rfl;have hui:UI W a' w' (G' ob).1 (G' ob).2 ee y (σ'.env.map (uvOf σ' ob)) [] (.slice none 0 0) a' w' :=
        ⟨h2.defers,by rw[h2.len];simp,fun i x hx=>by
         obtain⟨z,hz,rfl⟩:=getD_map hx;exact uvOf_ok h2 hz,rfl,fun _ _=>rfl,.refl _,hown,(fun i hi=>absurd hi (by simp)),h2.gl⟩
       exact codeU_some (W:=W) hT hn z hWz hui h1 Q fun ex env' is' vo' a2 w2 k1 k2 _ =>
        hU y ex env' is' _ vo' _ ee a2 w2 w' σ' G' a' k1 h2 k2 hn (fun b hb=>(h2.range ob _ ho rfl b hb).2) (h2.hrange ob _ ho rfl)
      ·simp at h1
     ·simp at h1
    ·exact ihy h2 h1 Q hQ hU
   | exit id=>exact hQ _ σ' a' w' G' h1 h2
   | ret=>exact hQ _ σ' a' w' G' h1 h2
  ·cases e with
   | normal =>
    exact codeU_some (W:=W) hT h4 z hWz h3 h1 Q fun ex env' is' vo' a2 w2 k1 k2 _ =>
     hU y ex env' is' _ vo' _ ee a2 w2 w0 σ0 G0 a0 k1 h2 k2 h4 h5 h6
   | exit id=>exact hU y _ env is v vo bs ee a' w' w0 σ0 G0 a0 h1 h2 h3 h4 h5 h6
   | ret=>exact hU y _ env is v vo bs ee a' w' w0 σ0 G0 a0 h1 h2 h3 h4 h5 h6
 | _ =>
  intro hW ρ σ G a w k ku r h hk Q hQ hU;simp only[topU]at hk;exact base _ (fun t ht=>hF t (hW t ht)) h hk Q hQ
theorem funU_ctr {Ls:List UL} {eo ou sl hk rl r2:Nat} {D:Prop} (he:eInt = some eo) (hC:Ctrs D C) (hT:Ctrs True C) {f:FuncId} {ps:List PM} {F:PMs.den ps→Option (ResB (hasIo ps) (SKs.den (rsU eo)) (PMo.den ps))} {fn:Func} {c:Code} (hf:C.P.funcs[f]? = some fn) (hname:(fn.name == "runtime.NumGoroutine") = false) (hbody:fn.body = some c) (hres:fn.results.toList = [.tmp rl,.tmp r2]) (hn:ps.length≤fn.ntmps)
  (hio:∀(i:Nat) (p:PM),ps[i]? = some p→isIo p=true→i∉wrC c) (hd:ps.all isD=true) (hF:∀x r,F x=some r→funU C Ls eo ou sl hk fn ps x=some r):FnOk C.P f∧Ctr D C.P ⟨f,ps,rsU eo,F⟩:=by
 refine⟨⟨fn,c,hf,hname,hbody⟩,fun x r hx I w vs bss hin hargs=>?_⟩;have hk:=hF x r hx;have hargs:ArgsV I w ps x vs bss:=hargs;have hvl:vs.length=ps.length:=by
  have:∀(ps:List PM) (y:PMs.den ps) (vs:List Value) (bss:List (List Nat)),ArgsV I w ps y vs bss→vs.length=ps.length:=by
   intro ps;induction ps with
   | nil=>intro y vs bss h;cases vs with
    | nil=>rfl
    | cons _ _=>exact h.elim
   | cons p ps ih =>
    intro y vs bss h;cases ps with
    | nil=>match vs,h with
     | [v],_=>rfl
    | cons p' r=>match vs,h with
     | v::vs,⟨b1,b2,_,_,h⟩=>simp only[List.length_cons];rw[ih _ _ _ h];rfl
  exact this _ _ _ _ hargs
 let a:Act:={ tmps:=vs.toArray++Array.replicate (fn.ntmps-vs.toArray.size) undef,defers:=[] }
 let E:En:=⟨w,fun b=>I b∨b∈bss.flatten,fun b=>b∈bss.flatten,fun b=>∃bs∈bss,bs.head? = some b,fun t=>t∉wrC c,fun t=>a.tmps.getD t undef,D⟩
 have hsz:a.tmps.size=fn.ntmps:=by simp[a];omega
 have h0:Pre E I (fun _=>False) (fun _=>(undef,[])) ⟨List.replicate fn.ntmps (.l .unk),[]⟩ a w :=
  {defers:=rfl
   len:=by rw[hsz];simp
   env:=fun t x hx=>by
    rw[List.getElem?_replicate]at hx;split at hx
    ·obtain rfl:=Option.some.inj hx;trivial
    ·simp at hx
   obs:=fun id o ho=>by simp[Sg.ob]at ho
   nodup:=fun id o ho=>by simp[Sg.ob]at ho
   range:=fun id o ho=>by simp[Sg.ob]at ho
   hrange:=fun id o ho=>by simp[Sg.ob]at ho
   disj:=fun id id' o o' ho=>by simp[Sg.ob]at ho
   os:=rfl
   tape:=rfl
   output:=.refl _
   size:=Nat.le_refl _
   frame:=fun _ _ _=>rfl
   xa:=⟨fun b hb=>.inr hb,hin.gl,hin.gx,fun b ⟨bs,hbs,hb⟩=>hin.gx b (List.mem_flatten.2 ⟨bs,hbs,List.mem_of_mem_head? hb⟩)⟩
   fixd:=fun _ _=>rfl
   acc:=fun b hb=>⟨hin.acc b hb,fun _=>.inl hb⟩ }
 have hadm:Adm E I (fun _=>False) w bss:=⟨hin.nodup,fun b hb=>⟨hin.range b hb,fun _=>hb,fun hf=>hf⟩,fun bs hbs b hb=>⟨fun _=>⟨bs,hbs,hb⟩,hin.head bs hbs b hb⟩⟩;obtain⟨G1,h1,h2,h3⟩:=encPs_some ps h0 hargs hadm;unfold funU at hk;rw[hbody,hres]at hk;simp only at hk;have hfl:=argsD_nil ps hd hargs;have hal:=encPs_len ps ⟨List.replicate fn.ntmps (.l .unk),[]⟩ x;generalize encPs ⟨List.replicate fn.ntmps (.l .unk),[]⟩ ps x=q at hk h1 h2 h3 hal;obtain⟨as,σ1⟩:=q;simp only at hk h1 h2 h3 hal;have hstart:RelG E G1 { σ1 with env:=as++σ1.env.drop as.length } a w:=by
  have hr:=h1.rel;have h2':=h2.keep h1.keep as;refine{ hr with len:=?_,env:=fun t y hy=>?_ }
  ·show a.tmps.size=(as++σ1.env.drop as.length).length;rw[hsz,h3.env];simp;omega
  ·show VA (Imm E G1 σ1 w) σ1.hp.length G1 w y _;have hy:(as++σ1.env.drop as.length)[t]? = some y:=hy;by_cases ht:t<as.length
   ·rw[List.getElem?_append_left ht]at hy;have:∀(as:List A) (vs:List Value) (t:Nat) (y:A),VAs (Imm E G1 σ1 w) σ1.hp.length G1 w as vs→as[t]? = some y→∃v,vs[t]? = some v∧VA (Imm E G1 σ1 w) σ1.hp.length G1 w y v:=by
     intro as;induction as with
     | nil=>intro vs t y _ hy;simp at hy
     | cons a as ih =>
      intro vs t y hv hy;cases vs with
      | nil=>exact hv.elim
      | cons v vs =>
       cases t with
       | zero=>simp at hy;subst hy;exact⟨v,rfl,hv.1⟩
       | succ t=>simpa using ih vs t y hv.2 (by simpa using hy)
    obtain⟨v,hv1,hv2⟩:=this as vs t y h2' hy;have hlt:=(List.getElem?_eq_some_iff.1 hv1).1;have:a.tmps.getD t undef=v:=by
     simp only[a,Array.getD_eq_getD_getElem?];rw[Array.getElem?_append_left (by simpa using hlt)]
     simp[hv1]
    rw[this];exact hv2
   ·rw[List.getElem?_append_right (by omega),List.getElem?_drop,h3.env,List.getElem?_replicate]at hy
    split at hy
    ·obtain rfl:=Option.some.inj hy;trivial
    ·simp at hy
 refine calls_of_wp hf hbody ?_;have hX:∀b,¬E.X b:=fun b hb=>by
  have hb:b∈bss.flatten:=hb;rw[hfl]at hb;simp at hb
 have hH:∀b,¬E.H b:=fun b hb=>by
  obtain⟨bs,h1,h2⟩:∃bs∈bss,bs.head? = some b:=hb;exact hX b (List.mem_flatten.2 ⟨bs,h1,List.mem_of_mem_head? h2⟩)
 refine topU_some (E:=E) hC hT (W:=wrC c) (fun t ht hf=>hf ht) c (fun t ht=>ht) hstart hk _ (fun ex σ' a' w' G' hk2 hr=>?_) fun y ex env is v0 vo bsy ee a' w' w0 σ0 G0 a0 hk2 hr hu hnb hbr hbh=>?_
 ·have fin : (resK C σ' [ResultVar.tmp rl, ResultVar.tmp r2] fun vs => ioK ps 0 (frzSs (rsU eo) vs σ') fun o σ => decSs (rsU eo) vs σ fun r _ => some (resJ (hasIo ps) r o)) = some r → a'.defers = [] ∧ ∃ v, (results fn a'.tmps).run C.P w' = .ok v w' ∧
    ∃(I':Nat→Prop) (rvs:List Value) (rbss ibss:List (List Nat)),Ending.returned v=.returned (retV rvs)∧CallOut D I w w' bss (ibss++rbss) I' ∧
    SVs I' w' (rsU eo) (resB (hasIo ps) r).1 rvs rbss∧((resB (hasIo ps) r).2=none→ibss=[])∧∀o,(resB (hasIo ps) r).2=some o→IoV I' w' ps o vs ibss:=fun hk3=>by
   refine⟨hr.defers,?_⟩;obtain⟨xs,rvs,k1,k2,k3,k4⟩:=resK_some hr _ hk3;have f:=frzSs_frz (rsU eo) xs σ';have hr2:=f.rel hr;generalize frzSs (rsU eo) xs σ'=σ2 at k1 f hr2;obtain⟨o,σ3,new1,ibss,q1,q2,q3⟩:=ioK_some hr2 ps 0 (vs:=vs) (Gone.refl _) (by simp[Mine]) hvl (fun j p v hp hi hv=>by
    have hfx:=hr2.fixd (0+j) (by show 0+j∉wrC c;rw[Nat.zero_add];exact hio j p hp hi)
    rw[hfx];show a.tmps.getD (0+j) undef=v;have hlt:=(List.getElem?_eq_some_iff.1 hv).1;simp only[a,Array.getD_eq_getD_getElem?,Nat.zero_add];rw[Array.getElem?_append_left (by simpa using hlt)]
    simp[hv]) k1
   obtain⟨y,σ4,new2,rbss,q4,q5,hsv⟩:=decSs_some (rsU eo) hr2 q2.gone (by simpa using q2.mine) q1 (k2.keep f.keep _)
   obtain rfl:=Option.some.inj q4;have tk:=Took.trans hr2 q2 q5;obtain⟨z1,z2,z3⟩:=resB_resJ (hasIo ps) y o;refine⟨_,run_results (by rw[hres];exact k3) (by rw[hres];exact k4),Imm E G' σ2 w',rvs,rbss,ibss,rfl,?_,?_,fun hno=>IoV.noIo ps (z2 hno) q3,fun o' ho=>?_⟩
   ·have had:=tk.cls.adm hr2 tk.mine (U:=fun _=>False) (fun _ _ _ _ hf=>hf);exact⟨hr2.os,hr2.tape,hr2.output,hr2.size,fun b hb hh=>hr2.frame b hb fun⟨bs,hbs,hx⟩=>hh bs hbs hx,fun b hb=>⟨hb.1,hb.2.1⟩,had.nodup,
     fun b hb=>⟨(had.range b hb).1,(had.range b hb).2.1⟩,fun bs hbs b hb=>⟨(had.head bs hbs b hb).2,(had.head bs hbs b hb).1⟩⟩
   ·rw[z1];exact hsv
   ·rw[z3 o' ho];exact q3
  cases ex with
  | normal=>exact fin hk2
  | ret=>exact fin hk2
  | exit id=>simp at hk2
 ·have fin : ∀ (b : Bool) (i : Nat) (q : List Int) (o : PMo.den ps), env[rl]? = some .out → env[r2]? = some (.dat .bool b) → is = [i] → y[i]? = some q → ioU ps = some o → r = resJ (hasIo ps) (q, b) o → a'.defers = [] ∧ ∃ v, (results fn a'.tmps).run C.P w' = .ok v w' ∧
    ∃(I':Nat→Prop) (rvs:List Value) (rbss ibss:List (List Nat)),Ending.returned v=.returned (retV rvs)∧CallOut D I w w' bss (ibss++rbss) I' ∧
    SVs I' w' (rsU eo) (resB (hasIo ps) r).1 rvs rbss∧((resB (hasIo ps) r).2=none→ibss=[])∧∀o,(resB (hasIo ps) r).2=some o→IoV I' w' ps o vs ibss:=fun b i q o hrl hr2 his hq ho hreq=>by
   refine⟨hu.defers,?_⟩;obtain⟨bs',p1,p2,p3⟩:=hu.own_out hnb he his hq;obtain⟨z1,z2,z3⟩:=resB_resJ (hasIo ps) (q,b) o;have hv:a'.tmps.getD rl undef=vo:=hu.env rl _ hrl;have hv2:a'.tmps.getD r2 undef=.bool b:=RdV_bool.1 (hu.env r2 _ hr2);have hsz0:w.heap.size≤w0.heap.size:=hr.size;refine⟨_,run_results (vs:=[vo,.bool b]) (by rw[hres];rfl) (by
    rw[hres];intro i x v hi hvv;match i,hi,hvv with
    | 0,hi,hvv =>
     obtain rfl:=Option.some.inj hi;obtain rfl:=Option.some.inj hvv;simp[resM,hv]
    | 1,hi,hvv =>
     obtain rfl:=Option.some.inj hi;obtain rfl:=Option.some.inj hvv;simp[resM,hv2]),fun _=>False,[vo,.bool b],[bs',[]],[],rfl,?_,?_,fun _=>rfl,fun o' ho'=>?_⟩
   ·refine⟨hu.ext.os.trans hr.os,hu.ext.tape.trans hr.tape,hu.ext.output.to.trans hr.output,Nat.le_trans hsz0 hu.ext.size,fun b hb hh=>?_,fun b hb=>hb.elim,by simpa using p2,fun b hb=>?_,fun q hq b hb=>⟨fun hf=>hf,fun hlt=>?_⟩⟩
    ·rw[hu.ext.block b (Nat.lt_of_lt_of_le hb hsz0)];exact hr.frame b hb fun⟨q,hq,hx⟩=>hh q hq hx
    ·simp only[List.nil_append,List.flatten_cons,List.flatten_nil,List.append_nil]at hb;obtain⟨q1,q2⟩:=p3 b hb;exact⟨Nat.lt_of_lt_of_le q2 hu.ext.size,fun hlt=>hbr b q1 hlt⟩
    ·simp only[List.nil_append,List.mem_cons,List.not_mem_nil,or_false]at hq;rcases hq with rfl | rfl
     ·exact(hX b (hbr b (p3 b (List.mem_of_mem_head? hb)).1 hlt)).elim
     ·cases hb
   ·rw[hreq,z1];exact⟨[bs'],[[]],rfl,⟨bs',rfl,p1⟩,⟨[],rfl,RdV_bool.2 rfl,(fun hf=>absurd hf (by simp)),rfl⟩⟩
   ·rw[hreq]at ho';rw[z3 o' ho'];exact ioU_some ps ho hvl
  cases ex with
  | normal =>
   simp only[endU]at hk2;split at hk2
   ·rename_i b i h1 h2;obtain⟨q,hq,hk2⟩:=Option.bind_eq_some_iff.1 hk2;obtain⟨o,ho,hreq⟩:=Option.bind_eq_some_iff.1 hk2;exact fin b i q o h1 h2 rfl hq ho (Option.some.inj hreq).symm
   ·simp at hk2
  | ret =>
   simp only[endU]at hk2;split at hk2
   ·rename_i b i h1 h2;obtain⟨q,hq,hk2⟩:=Option.bind_eq_some_iff.1 hk2;obtain⟨o,ho,hreq⟩:=Option.bind_eq_some_iff.1 hk2;exact fin b i q o h1 h2 rfl hq ho (Option.some.inj hreq).symm
   ·simp at hk2
  | exit id=>simp[endU]at hk2
end
theorem Ctr.to {D:Prop}{P:Program}{e:CallE}(h:Ctr True P e):Ctr D P e:=fun x r hx I w vs bss hin hargs=>(h x r hx I w vs bss hin hargs).mono fun ex w' hp=>by
 obtain⟨I',rvs,rbss,ibss,h1,h2,h3⟩:=hp;exact⟨I',rvs,rbss,ibss,h1,⟨h2.os,h2.tape,h2.output.to,h2.size,h2.frame,h2.imm,h2.nodup,h2.range,h2.head⟩,h3⟩
theorem AllC.to {D:Prop}{P:Program}:{l:List CallE}→AllC True P l→AllC D P l
 | [],_=>trivial
 | _::_,h=>⟨⟨h.1.1,h.1.2.to⟩,AllC.to h.2⟩
theorem mkCtrU {D:Prop} {C:Ctx} {Ls:List UL} {eo ou sl hk:Nat} {f:FuncId} {ps:List PM} {F:PMs.den ps→Option (ResB (hasIo ps) (SKs.den (rsU eo)) (PMo.den ps))} {fn:Func} (rl r2:Nat) (he:eInt = some eo) (hm:C.P.follows .mixedOrders = true) (h:AllC True C.P C.O) (hf:C.P.funcs[f]? = some fn) (hok:okFn fn ps = true) (hres:fn.results.toList = [.tmp rl,.tmp r2]) (hlw:ps.all isD = true)
  (hF:∀x,funU C Ls eo ou sl hk fn ps x=F x) (hi:AllI D C.P C.I:=by trivial) (hi2:AllI True C.P C.I:=by trivial):FnOk C.P f∧Ctr D C.P ⟨f,ps,rsU eo,F⟩:=by
 unfold okFn at hok;simp only[Bool.and_eq_true,Bool.not_eq_true',decide_eq_true_eq]at hok;obtain⟨⟨h1,h2⟩,h3⟩:=hok;split at h2
 ·rename_i c hc;exact funU_ctr he (ctrs_of hm h.to hi) (ctrs_of hm h hi2) hf h1 hc hres h3 (fun i p hp hi=>by
   have:=ioOk_some ps 0 h2 i p hp hi
   rwa [Nat.zero_add]at this) hlw fun x r hx=>(hF x).trans hx
 ·simp at h2
end Go.Proofs.YtfknaeamhcpfgaaGreat.Eng
