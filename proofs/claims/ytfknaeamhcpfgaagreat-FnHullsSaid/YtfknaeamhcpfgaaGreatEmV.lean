/-
  The engine, part V. A function literal that calls itself: it reads two variables that it captures and adds to a third. No condition.
-/
import Derived.Test.YtfknaeamhcpfgaaGreatEm5
namespace Go.Proofs.YtfknaeamhcpfgaaGreat.Eng
open Go
set_option linter.all false
abbrev PT:Ty:=.prod (.list (.int .i64)) (.int .i64)
abbrev LitF:Type:=Int×List PT.den→Int→List PT.den→List PT.den→Option (List PT.den)
structure LitE where
 f:FuncId
 eG:TypeId
 eP:TypeId
 eO:TypeId
 eR:TypeId
abbrev LitE.sk (m:LitE):SK:=.b m.eO [.o false m.eR PT]
def recK (m:LitE)(F:LitF)(ρ:Type)(xs:List A)(σ:Sg)(k:A→Sg→Option ρ):Option ρ :=
 match xs with
 | [x0,x1,.l (.bptr rI 0),.l (.bptr oI 0),.l (.bptr pI 0)] =>
  let σ:=freezeL (freezeL ((cellsA x1).foldl freezeL σ) (.ref rI)) (.ref pI)
  match σ.ob rI,σ.ob pI with
  | some (.box true e0 [l0,l1]),some (.box true e1 [.clo g [i1,i2,i3]]) =>
   if e0=m.eG∧e1=m.eP∧g=m.f∧i1=rI∧i2=oI∧i3=pI∧okL σ l1=true∧okA σ x1=true then
    rdL σ (.int .i64) l0 fun dim=>rdL σ (.list PT) l1 fun hs=>rdA σ (.int .i64) x0 fun i=>rdA σ (.list PT) x1 fun c =>
     decS m.sk (.l (.bptr oI 0)) σ fun out σ2=>(F (dim,hs) i c out).bind fun out'=>match σ2.ob oI with
      | none=>k (.t []) (setHp (addHp σ2 (.own false false m.eR PT out')) oI (some (.box false m.eO [.ref σ2.hp.length])))
      | some _=>none
   else none
  | _,_=>none
 | _=>none
def LitIn (m:LitE)(I:Nat→Prop)(w:World)(x:Int×List PT.den)(vR vO vP:Value):Prop :=
 (∃b arr vH,vR=.pointer (some ⟨b,0,none⟩)∧I b∧w.heap[b]? = some (.cells arr m.eG (0,0))∧arr.toList=[.int .i64 x.1,vH]∧vH.oneCell'=true∧RdV I w (.list PT) x.2 vH) ∧
 ∃b,vP=.pointer (some ⟨b,0,none⟩)∧I b∧w.heap[b]? = some (.cells #[.func (.func m.f) #[] #[vR,vO,vP]] m.eP (0,0))
def LitOk (D:Prop)(P:Program)(m:LitE)(F:LitF):Prop :=
 ∀x i c out out',F x i c out=some out'→∀(I:Nat→Prop) (w:World) (v1 vR vO vP:Value) (bss:List (List Nat)),CallIn I w bss→RdV I w (.list PT) c v1→LitIn m I w x vR vO vP→SV I w m.sk out vO bss →
  Calls P m.f #[.int .i64 i,v1,vR,vO,vP] w fun ex w'=>ex=.returned (.tuple #[])∧∃(I':Nat→Prop) (rbss:List (List Nat)),CallOut D I w w' bss rbss I'∧SV I' w' m.sk out' vO rbss
section
variable {ρ:Type}{C:Ctx}{E:En}{G G':Gh}{σ σ':Sg}{a:Act}{w:World}
theorem recK_nat (m:LitE)(F:LitF)(xs:List A)(σ:Sg)(k:A→Sg→Option ρ):recK m F ρ xs σ k=(recK m F (A×Sg) xs σ fun v s=>some (v,s)).bind fun p=>k p.1 p.2:=by
 unfold recK;split
 ·simp only;split
  ·split
   ·rw[rdL_nat (ρ:=ρ),rdL_nat (ρ:=A×Sg),Option.bind_assoc];congr 1;funext y1;rw[rdL_nat (ρ:=ρ),rdL_nat (ρ:=A×Sg),Option.bind_assoc];congr 1;funext y2;rw[rdA_nat (ρ:=ρ),rdA_nat (ρ:=A×Sg),Option.bind_assoc];congr 1;funext y3;rw[rdA_nat (ρ:=ρ),rdA_nat (ρ:=A×Sg),Option.bind_assoc];congr 1;funext y4;rw[decS_nat (ρ:=ρ),decS_nat (ρ:=A×Sg),Option.bind_assoc];congr 1;funext p;rw[Option.bind_assoc];congr 1;funext q;split<;>rfl
   ·rfl
  ·rfl
 ·rfl
theorem VLs2 {I:Nat→Prop}{N:Nat}{l0 l1:L}{vs:List Value}(h:VLs I N G w [l0,l1] vs):∃u0 u1,vs=[u0,u1]∧(VL I N G w l0 u0∧u0.oneCell'=true)∧VL I N G w l1 u1∧u1.oneCell'=true:=by
 match vs,h with
 | [u0,u1],h=>exact⟨u0,u1,rfl,h.1,h.2.1⟩
 | [],h=>exact h.elim
 | [_],h=>exact h.2.elim
 | _::_::_::_,h=>exact h.2.2.elim
theorem VLs1 {I:Nat→Prop}{N:Nat}{l0:L}{vs:List Value}(h:VLs I N G w [l0] vs):∃u0,vs=[u0]∧VL I N G w l0 u0∧u0.oneCell'=true:=by
 match vs,h with
 | [u0],h=>exact⟨u0,rfl,h.1⟩
 | [],h=>exact h.elim
 | _::_::_,h=>exact h.2.elim
theorem put_lit {I U:Nat→Prop} {m:LitE} {out:List PT.den} {vO:Value} {bss:List (List Nat)} {n:Nat} (hp:Pre E I U G σ a w) (hs:SV I w m.sk out vO bss) (ha:Adm E I U w bss) (hn:n < σ.hp.length) (ho:σ.ob n = none) (hg:(G n).1 = vO) :
  ∃G2,Pre E I (fun b=>U b∨b∈bss.flatten) G2 (setHp (addHp σ (.own false false m.eR PT out)) n (some (.box false m.eO [.ref σ.hp.length]))) a w∧∀i,i<σ.hp.length→(G2 i).1=(G i).1:=by
 obtain⟨b,arr,rest,rfl,hh,hv,rfl⟩:=hs;obtain⟨u,bs,hau,rfl,hown,hone⟩:∃u bs,arr.toList=[u]∧rest=[bs]∧OwnV I w false m.eR PT out u bs∧u.oneCell'=true:=by
  generalize arr.toList=l at hv;match l,hv with
  | [u],hv=>obtain⟨bs,h1,h2,h3⟩:=hv;exact⟨u,bs,rfl,h1,h2,h3⟩
 obtain⟨G1,h1,h2,h3⟩:=hp.add (.own false false m.eR PT out) u bs rfl ha.single (fun G' _ hn=>by simp only[OR,hn];exact hown)
 have hat:=ha.tail;have hlen:(addHp σ (.own false false m.eR PT out)).hp.length=σ.hp.length+1:=by simp
 obtain⟨G2,k1,k2,k3,k4⟩:=h1.put (σ':=setHp (addHp σ (.own false false m.eR PT out)) n (some (.box false m.eO [.ref σ.hp.length]))) n (.box false m.eO [.ref σ.hp.length]) (.pointer (some ⟨b,0,none⟩)) [b] rfl
  (by simpa using hat) (.inr ⟨by rw[hlen];omega,by rw[ob_addHp,if_neg (by omega)];exact ho,by rw[h3.g n hn];exact hg⟩) rfl (by simp)
  (fun i=>by rw[ob_setHp,hlen];by_cases hi:i=n<;>simp[hi,show n<σ.hp.length+1 by omega])
  (fun G' hG hG'=>by
   simp only[OR,hG',Bool.false_eq_true,if_false];refine⟨b,arr,rfl,hh,?_,rfl⟩;rw[hau];exact⟨⟨⟨by simp,by rw[hG _ (by rw[hlen];omega),h2],hone⟩,hone⟩,trivial⟩)
 refine⟨G2,k1.wide fun c hc=>?_,fun i hi=>by rw[k4 i (by rw[hlen];omega),h3.g i hi]⟩
 simp only[List.flatten_append,List.flatten_cons,List.flatten_nil,List.append_nil,List.mem_append];rcases hc with(hc | hc) | hc
 ·exact .inl hc
 ·exact .inr (.inl hc)
 ·exact .inr (.inr hc)
theorem lit_in {D:Prop}{P:Program}{m:LitE}{F:LitF}(hF:LitOk D P m F):InOk D P ⟨m.f,false,recK m F⟩:=by
 refine⟨fun hd=>by simp at hd,fun ρ xs σ k=>recK_nat m F xs σ k,@fun E G σ σ' a w xs vs x hd h hv hk=>?_⟩
 subst hd;simp only at hk;unfold recK at hk;split at hk
 ·rename_i x0 x1 rI oI pI;simp only at hk;match vs,hv with
  | [v0,v1,v2,v3,v4],hv =>
  have f:Frz σ (freezeL (freezeL ((cellsA x1).foldl freezeL σ) (.ref rI)) (.ref pI)):=.step _ (.step _ (Frz.foldl _ (.refl _)));generalize freezeL (freezeL ((cellsA x1).foldl freezeL σ) (.ref rI)) (.ref pI)=σ1 at hk f;have h1:=f.rel h;have hv1:=hv.keep (f.keep (E:=E) (G:=G) (w:=w)) _;obtain⟨w0,w1,w2,w3,w4,_⟩:=hv1;split at hk
  ·rename_i e0 l0 l1 e1 g i1 i2 i3 ho1 ho2;split at hk
   ·rename_i hc;obtain⟨rfl,rfl,rfl,rfl,rfl,rfl,hok1,hok2⟩:=hc;have g1:=h1.obs _ _ ho1;have g2:=h1.obs _ _ ho2;simp only[OR,if_true]at g1 g2;obtain⟨b1,arr1,g11,g12,g13,g14⟩:=g1;obtain⟨b2,arr2,g21,g22,g23,g24⟩:=g2;obtain⟨u0,u1,hu,⟨hl0,_⟩,hl1,hl1'⟩:=VLs2 g13;obtain⟨u2,hu2,hl2,_⟩:=VLs1 g23;obtain⟨dim,hk,hq0,_,_⟩:=rdL_gone h1 (Gone.refl _) (by simp[Mine]) hk hl0
    obtain⟨hs,hk,_,hq1,_⟩:=rdL_gone h1 (Gone.refl _) (by simp[Mine]) hk hl1
    obtain⟨i,hk,hq2',_,_⟩:=rdA_gone h1 (Gone.refl _) (by simp[Mine]) hk w0
    obtain⟨c,hk,_,hq3,_⟩:=rdA_gone h1 (Gone.refl _) (by simp[Mine]) hk w1
    obtain⟨out,σ2,new,bss,hk,tk,hsv⟩:=decS_some h1 (Gone.refl _) (by simp[Mine]) hk w3
    obtain⟨out',hf,hk⟩:=Option.bind_eq_some_iff.1 hk;split at hk
    ·rename_i hno;obtain rfl:v0=.int .i64 i:=RdV_int.1 hq2';obtain rfl:u0=.int .i64 dim:=RdV_int.1 hq0;have hq1:=hq1 hok1;have hq3:=hq3 hok2;have hSb:Sb E G σ1 w true new=Imm E G σ1 w:=by funext b;simp[Sb]
     have hin:CallIn (Sb E G σ1 w true new) w bss:=by
      refine⟨h1.gl,fun b hb=>?_,tk.cls.nodup,fun b hb=>?_,fun b hb=>?_,fun bs hbs b hb hS=>?_⟩
      ·obtain⟨q,hq,hbq⟩:=List.mem_flatten.1 hb;obtain⟨i,hi,hbi⟩:=tk.cls.mem q hq b hbq;obtain⟨o,ho,hr⟩:=tk.mine i hi;exact h1.gb ho hr b hbi
      ·obtain⟨q,hq,hbq⟩:=List.mem_flatten.1 hb;obtain⟨i,hi,hbi⟩:=tk.cls.mem q hq b hbq;obtain⟨o,ho,hr⟩:=tk.mine i hi;exact(h1.range i o ho hr b hbi).1
      ·rw[hSb]at hb;exact hb.1
      ·rw[hSb]at hS;obtain⟨i,hi,hx⟩:=tk.cls.head bs hbs b hb;obtain⟨o,ho,hr⟩:=tk.mine i hi;exact hS.2.2 i o ho hr hx
     obtain⟨p21,b3,p22,rfl⟩:=w2;obtain⟨p31,b4,p32,rfl⟩:=w3;obtain⟨p41,b5,p42,rfl⟩:=w4;rw[p22]at g11;rw[p42]at g21;simp only[Value.pointer.injEq,Option.some.injEq,Addr.mk.injEq,and_true]at g11 g21;subst g11 g21;have hlit:LitIn m (Sb E G σ1 w true new) w (dim,hs) (.pointer (some ⟨b3,0,none⟩)) (.pointer (some ⟨b4,0,none⟩)) (.pointer (some ⟨b5,0,none⟩)):=by
      rw[hSb];refine⟨⟨b3,arr1,u1,rfl,g14,g12,hu,hl1',hq1⟩,b5,rfl,g24,?_⟩;have e1:arr2=#[.func (.func m.f) #[] #[.pointer (some ⟨b3,0,none⟩),.pointer (some ⟨b4,0,none⟩),.pointer (some ⟨b5,0,none⟩)]]:=by
       have:arr2=arr2.toList.toArray:=by simp
       rw[this,hu2,hl2.1];simp[p22,p32,p42]
      rw[g22,e1]
     have hcall:=hF (dim,hs) i c out out' hf (Sb E G σ1 w true new) w v1 _ _ _ bss hin (by rw[hSb];exact hq3) hlit (by rw[hSb];exact hsv)
     simp only[Option.some.injEq,Prod.mk.injEq]at hk;obtain⟨rfl,rfl⟩:=hk;have hno1:σ2.ob i2=none:=hno;have hlen2:σ2.hp.length=σ1.hp.length:=by have:=tk.gone.len;simpa using this
     refine⟨?_,Calls.mono hcall fun ex w' hpost=>?_⟩
     ·refine(f.kp.trans tk.kp).trans ⟨rfl,by simp,fun id o ho hr=>?_⟩
      rw[ob_setHp,addHp_len];have hlt:=Sg.ob_lt ho;have hne:id≠i2:=fun e=>by subst e;rw[hno1]at ho;cases ho
      rw[if_neg (fun h=>hne h.1),ob_addHp,if_neg (by omega)];exact ho
     ·obtain⟨rfl,I',rbss,co,hsv'⟩:=hpost;obtain⟨hp,ha,hsm⟩:=h1.called tk co;have hsv2:=SV.cast m.sk (I':=fun b=>Imm E G σ1 w b∨(true=true∧I' b)) (fun _ b hb=>.inr ⟨rfl,hb⟩) hsv';obtain⟨G2,hp2,hg2⟩:=put_lit hp hsv2 ha (by rw[hlen2];exact p31) hno1 p32
      refine⟨_,rfl,G2,hp2.rel,⟨fun b hb=>hp2.imm b (.inl (f.keep.imm b hb)),fun b hb=>hsm b (f.keep.imm b hb),by simp[hlen2,f.len],fun id hi=>hg2 id (by rw[hlen2,f.len];exact hi)⟩,[],rfl,trivial⟩
    ·cases hk
   ·cases hk
  ·cases hk
 ·cases hk
def litF (m:LitE)(n:Nat)(x:Int×List PT.den)(i:Int)(c:List PT.den):Sg :=
 {env:=[.l (.dat true (.int .i64) i),.l (.dat false (.list PT) c),.l (.bptr 0 0),.l (.bptr 1 0),.l (.bptr 2 0)]++List.replicate (n-5) (.l .unk)
  hp:=[some (.box true m.eG [.dat true (.int .i64) x.1,.dat false (.list PT) x.2]),none,some (.box true m.eP [.clo m.f [0,1,2]])] }
def litS (m:LitE)(n:Nat)(x:Int×List PT.den)(i:Int)(c out:List PT.den):Sg :=
 setHp (addHp (litF m n x i c) (.own false false m.eR PT out)) 1 (some (.box false m.eO [.ref (litF m n x i c).hp.length]))
noncomputable def funV (C:Ctx)(fn:Func)(m:LitE)(x:Int×List PT.den)(i:Int)(c out:List PT.den):Option (List PT.den) :=
 match fn.body with
 | none=>none
 | some code=>codeK C code _ (litS m fn.ntmps x i c out) fun e σ=>match e with
  | .exit _=>none
  | _=>decS m.sk (getA σ (.tmp 3)) σ fun y _=>some y
def okLit (fn:Func):Bool:=!(fn.name == "runtime.NumGoroutine")&&(match fn.body with
 | some c=>!(wrC c).contains 3
 | none=>false)&&fn.results.toList.isEmpty&&decide (5≤fn.ntmps)
theorem lit_val {D:Prop} (hC:Ctrs D C) {m:LitE} {fn:Func} {code:Code} {B:LitF} (hf:C.P.funcs[m.f]? = some fn) (hbody:fn.body = some code) (h3:3∉wrC code) (hres:fn.results.toList = []) (hn:5≤fn.ntmps)
  (hB:∀x i c out out',B x i c out=some out'→funV C fn m x i c out=some out'):LitOk D C.P m B:=by
 intro x i c out out' hb I w v1 vR vO vP bss hin hc hlit hsv;have hk:=hB x i c out out' hb;obtain⟨⟨b1,arr1,vH,rfl,hI1,hh1,ha1,ho1,hr1⟩,b2,rfl,hI2,hh2⟩:=hlit;obtain⟨b3,hvO⟩:∃b,vO=.pointer (some ⟨b,0,none⟩):=by obtain⟨b,_,_,h,_⟩:=hsv;exact⟨b,h⟩
 let vs:List Value:=[.int .i64 i,v1,.pointer (some ⟨b1,0,none⟩),vO,.pointer (some ⟨b2,0,none⟩)]
 let a:Act:={ tmps:=vs.toArray++Array.replicate (fn.ntmps-vs.toArray.size) undef,defers:=[] }
 let E:En:=⟨w,fun b=>I b∨b∈bss.flatten,fun b=>b∈bss.flatten,fun b=>∃bs∈bss,bs.head? = some b,fun t=>t∉wrC code,fun t=>a.tmps.getD t undef,D⟩
 let G0:Gh:=fun id=>match id with
  | 0=>(.pointer (some ⟨b1,0,none⟩),[])
  | 1=>(vO,[])
  | 2=>(.pointer (some ⟨b2,0,none⟩),[])
  | _=>(undef,[])
 have htm:∀t v,vs[t]? = some v→a.tmps.getD t undef=v:=fun t v hv=>by
  have hlt:=(List.getElem?_eq_some_iff.1 hv).1;simp only[a,Array.getD_eq_getD_getElem?];rw[Array.getElem?_append_left (by simpa using hlt)]
  simp[hv]
 have h0:Pre E I (fun _=>False) G0 (litF m fn.ntmps x i c) a w :=
  {defers:=rfl
   len:=by simp[a,vs,litF];omega
   env:=fun t y hy=>by
    have hl5:([.l (.dat true (.int .i64) i),.l (.dat false (.list PT) c),.l (.bptr 0 0),.l (.bptr 1 0),.l (.bptr 2 0)]:List A).length=5:=rfl;simp only[litF]at hy;by_cases ht:t<5
    ·rw[List.getElem?_append_left (by rw[hl5];exact ht)]at hy
     match t,ht,hy with
     | 0,_,hy =>
      simp only[List.getElem?_cons_zero,Option.some.injEq]at hy;subst hy;rw[htm 0 _ rfl];exact⟨RdV_int.2 rfl,fun _=>trivial⟩
     | 1,_,hy =>
      simp only[List.getElem?_cons_succ,List.getElem?_cons_zero,Option.some.injEq]at hy;subst hy;rw[htm 1 _ rfl];exact⟨hc,fun hf=>by cases hf⟩
     | 2,_,hy =>
      simp only[List.getElem?_cons_succ,List.getElem?_cons_zero,Option.some.injEq]at hy;subst hy;rw[htm 2 _ rfl];exact⟨by simp[litF],b1,rfl,rfl⟩
     | 3,_,hy =>
      simp only[List.getElem?_cons_succ,List.getElem?_cons_zero,Option.some.injEq]at hy;subst hy;rw[htm 3 _ rfl];exact⟨by simp[litF],b3,hvO,hvO⟩
     | 4,_,hy =>
      simp only[List.getElem?_cons_succ,List.getElem?_cons_zero,Option.some.injEq]at hy;subst hy;rw[htm 4 _ rfl];exact⟨by simp[litF],b2,rfl,rfl⟩
    ·rw[List.getElem?_append_right (by rw[hl5];omega),List.getElem?_replicate]at hy
     split at hy
     ·obtain rfl:=Option.some.inj hy;trivial
     ·cases hy
   obs:=fun id o ho=>by
    match id,ho with
    | 0,ho =>
     have ho:some (Ob.box true m.eG [.dat true (.int .i64) x.1,.dat false (.list PT) x.2])=some o:=ho;obtain rfl:=Option.some.inj ho;simp only[OR,if_true];refine⟨b1,arr1,rfl,hh1,?_,hI1⟩;rw[ha1];exact⟨⟨⟨RdV_int.2 rfl,fun _=>trivial⟩,rfl⟩,⟨⟨hr1,fun hf=>by cases hf⟩,ho1⟩,trivial⟩
    | 1,ho=>cases ho
    | 2,ho =>
     have ho:some (Ob.box true m.eP [.clo m.f [0,1,2]])=some o:=ho;obtain rfl:=Option.some.inj ho;simp only[OR,if_true];refine⟨b2,_,rfl,hh2,?_,hI2⟩;refine⟨⟨⟨rfl,fun id hid=>?_⟩,rfl⟩,trivial⟩;simp only[List.mem_cons,List.not_mem_nil,or_false]at hid;rcases hid with rfl | rfl | rfl
     ·exact⟨by simp[litF],b1,rfl⟩
     ·exact⟨by simp[litF],b3,hvO⟩
     ·exact⟨by simp[litF],b2,rfl⟩
    | n+3,ho=>simp[Sg.ob,litF]at ho
   nodup:=fun id o ho hr=>by simp[G0];split<;>simp
   range:=fun id o ho hr b hb=>by
    exfalso;simp only[G0]at hb;split at hb<;>simp at hb
   hrange:=fun id o ho hr b hb=>by
    exfalso;simp only[G0]at hb;split at hb<;>simp at hb
   disj:=fun id id' o o' ho _ _ _ _ b hb=>by
    exfalso;simp only[G0]at hb;split at hb<;>simp at hb
   os:=rfl
   tape:=rfl
   output:=.refl _
   size:=Nat.le_refl _
   frame:=fun _ _ _=>rfl
   xa:=⟨fun b hb=>.inr hb,hin.gl,hin.gx,fun b ⟨bs,hbs,hb⟩=>hin.gx b (List.mem_flatten.2 ⟨bs,hbs,List.mem_of_mem_head? hb⟩)⟩
   fixd:=fun _ _=>rfl
   acc:=fun b hb=>⟨hin.acc b hb,fun _=>.inl hb⟩ }
 have hadm:Adm E I (fun _=>False) w bss:=⟨hin.nodup,fun b hb=>⟨hin.range b hb,fun _=>hb,fun hf=>hf⟩,fun bs hbs b hb=>⟨fun _=>⟨bs,hbs,hb⟩,hin.head bs hbs b hb⟩⟩;obtain⟨G1,h1,_⟩:=put_lit (m:=m) (out:=out) (vO:=vO) (n:=1) h0 hsv hadm (by simp[litF]) rfl rfl
 unfold funV at hk;rw[hbody]at hk;simp only at hk;refine calls_of_wp hf hbody ?_;refine codeK_some (E:=E) hC code rfl (fun t ht hf=>hf ht) h1.rel hk _ fun ex σ' a' w' G' hk2 hr hkc _=>?_;have fin:(decS m.sk (getA σ' (.tmp 3)) σ' fun y _=>some y) = some out'→a'.defers = []∧∃ v,(results fn a'.tmps).run C.P w' = .ok v w' ∧
   (Ending.returned v=.returned (.tuple #[])∧∃(I':Nat→Prop) (rbss:List (List Nat)),CallOut D I w w' bss rbss I'∧SV I' w' m.sk out' vO rbss):=fun hk3=>by
  refine⟨hr.defers,?_⟩;have hfx:=hr.fixd 3 (by show 3∉wrC code;exact h3)
  have hva:=hr.get (.tmp 3);have hfx:a'.tmps.getD 3 undef=vO:=hfx.trans (htm 3 _ rfl);simp only[Act.eval]at hva;rw[hfx]at hva;obtain⟨y,σ4,new2,rbss,q4,q5,hsv'⟩:=decS_some hr (Gone.refl _) (by simp[Mine]) hk3 hva
  obtain rfl:=Option.some.inj q4;have hrun:=run_results (C:=C) (fn:=fn) (tmps:=a'.tmps) (vs:=[]) (w:=w') (by rw[hres];rfl) (fun i x v hi=>by rw[hres]at hi;simp at hi)
  refine⟨_,hrun,rfl,Imm E G' σ' w',rbss,?_,hsv'⟩;have had:=q5.cls.adm hr q5.mine (U:=fun _=>False) (fun _ _ _ _ hf=>hf);exact ⟨hr.os,hr.tape,hr.output,hr.size,fun b hb hh=>hr.frame b hb fun ⟨bs,hbs,hx⟩=>hh bs hbs hx,fun b hb=>⟨hb.1,hb.2.1⟩,had.nodup,
    fun b hb=>⟨(had.range b hb).1,(had.range b hb).2.1⟩,fun bs hbs b hb=>⟨(had.head bs hbs b hb).2,(had.head bs hbs b hb).1⟩⟩
 cases ex with
 | normal=>exact fin hk2
 | ret=>exact fin hk2
 | exit id=>simp at hk2
theorem mkLit {D:Prop} {C:Ctx} {m:LitE} {fn:Func} {B:LitF} (hm:C.P.follows .mixedOrders = true) (h:AllC D C.P C.O) (hf:C.P.funcs[m.f]? = some fn) (hok:okLit fn = true)
  (hB:∀x i c out,funV C fn m x i c out=B x i c out) (hi:AllI D C.P C.I):FnOk C.P m.f∧InOk D C.P ⟨m.f,false,recK m B⟩:=by
 unfold okLit at hok;simp only[Bool.and_eq_true,Bool.not_eq_true',decide_eq_true_eq]at hok;obtain⟨⟨⟨h1,h2⟩,h4⟩,h5⟩:=hok;split at h2
 ·rename_i c hc;refine⟨⟨fn,c,hf,h1,hc⟩,lit_in (lit_val (ctrs_of hm h hi) hf hc (by simpa using h2) (by simpa using h4) h5 fun x i c out out' hx=>(hB x i c out).trans hx)⟩
 ·simp at h2
theorem lit_none {D:Prop}{P:Program}{m:LitE}{fn:Func}(hf:P.funcs[m.f]? = some fn)(hok:okLit fn=true):FnOk P m.f∧InOk D P ⟨m.f,false,recK m fun _ _ _ _=>none⟩:=by
 unfold okLit at hok;simp only[Bool.and_eq_true,Bool.not_eq_true',decide_eq_true_eq]at hok;obtain⟨⟨⟨h1,h2⟩,h4⟩,h5⟩:=hok;split at h2
 ·rename_i c hc;exact⟨⟨fn,c,hf,h1,hc⟩,lit_in fun x i c out out' hx=>by cases hx⟩
 ·simp at h2
end
end Go.Proofs.YtfknaeamhcpfgaaGreat.Eng
