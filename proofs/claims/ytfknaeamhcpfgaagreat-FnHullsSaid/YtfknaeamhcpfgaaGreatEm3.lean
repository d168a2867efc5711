/-
  Texts put together: Eng29, Eng30, Eng31, Eng32, Eng36, Eng24, Eng25, Eng35, Eng33. No condition.
-/
import Derived.Test.YtfknaeamhcpfgaaGreatEm2
import Derived.OrdersHeld
namespace Go.Proofs.YtfknaeamhcpfgaaGreat.Eng
open Go
set_option linter.all false
theorem L.bd_of {N:Nat}:(l:L)→(∀id∈l.refs,id<N)→l.bd N
 | .unk,_=>trivial
 | .nils,_=>trivial
 | .dat _ _ _,_=>trivial
 | .cptr _ _,_=>trivial
 | .ref id,h=>h id (by simp[L.refs])
 | .optr id _ _,h=>h id (by simp[L.refs])
 | .bptr id _,h=>h id (by simp[L.refs])
 | .fn _,_=>trivial
 | .clo _ ids,h=>fun id hi=>h id (by simpa[L.refs]using hi)
 | .und,_=>trivial
 | .sub id _ _ _,h=>h id (by simp[L.refs])
 | .full _ _,_=>trivial
theorem L.bd_refs {N:Nat}:(l:L)→l.bd N→∀id∈l.refs,id<N
 | .unk,_,_,h=>by simp[L.refs]at h
 | .nils,_,_,h=>by simp[L.refs]at h
 | .dat _ _ _,_,_,h=>by simp[L.refs]at h
 | .cptr _ _,_,_,h=>by simp[L.refs]at h
 | .ref id,b,i,h=>by simp only[L.refs,List.mem_singleton]at h;subst h;exact b
 | .optr id _ _,b,i,h=>by simp only[L.refs,List.mem_singleton]at h;subst h;exact b
 | .bptr id _,b,i,h=>by simp only[L.refs,List.mem_singleton]at h;subst h;exact b
 | .fn _,_,_,h=>by simp[L.refs]at h
 | .clo _ ids,b,i,h=>b i (by simpa[L.refs]using h)
 | .und,_,_,h=>by simp[L.refs]at h
 | .sub id _ _ _,b,i,h=>by simp only[L.refs,List.mem_singleton]at h;subst h;exact b
 | .full _ _,_,_,h=>by simp[L.refs]at h
theorem A.bd_of {N:Nat}:(x:A)→(∀id∈x.refs,id<N)→x.bd N
 | .l y,h=>L.bd_of y h
 | .a ls,h=>fun y hl=>L.bd_of y fun id hi=>h id (List.mem_flatMap.2 ⟨y,hl,hi⟩)
 | .t ps,h=>fun p hp y hl=>L.bd_of y fun id hi=>h id (List.mem_flatMap.2 ⟨p,hp,List.mem_flatMap.2 ⟨y,hl,hi⟩⟩)
theorem A.bd_refs {N:Nat}:(x:A)→x.bd N→∀id∈x.refs,id<N
 | .l y,h,id,hi=>L.bd_refs y h id hi
 | .a ls,h,id,hi=>by
  obtain⟨y,hl,hi⟩:=List.mem_flatMap.1 hi;exact L.bd_refs y (h y hl) id hi
 | .t ps,h,id,hi=>by
  obtain⟨p,hp,hi⟩:=List.mem_flatMap.1 hi;obtain⟨y,hl,hi⟩:=List.mem_flatMap.1 hi;exact L.bd_refs y (h p hp y hl) id hi
theorem Ob.bd_of {N:Nat}:(o:Ob)→(∀id∈o.refs,id<N)→o.bd N
 | .own _ _ _ _ _,_=>trivial
 | .box _ _ cs,h=>fun l hl=>L.bd_of l fun id hi=>h id (List.mem_flatMap.2 ⟨l,hl,hi⟩)
 | .mp _ _ _,_=>trivial
theorem Ob.bd_refs {N:Nat}:(o:Ob)→o.bd N→∀id∈o.refs,id<N
 | .own _ _ _ _ _,_,id,hi=>by simp[Ob.refs]at hi
 | .mp _ _ _,_,id,hi=>by simp[Ob.refs]at hi
 | .box _ _ cs,h,id,hi=>by
  obtain⟨l,hl,hi⟩:=List.mem_flatMap.1 hi;exact L.bd_refs l (h l hl) id hi
def Gs (σ σ':Sg):Prop:=∀id o,σ.ob id=some o→σ'.ob id=some o
theorem Gs.refl (σ:Sg):Gs σ σ:=fun _ _ h=>h
theorem Gs.trans {a b c:Sg}(h:Gs a b)(k:Gs b c):Gs a c:=fun id o ho=>k id o (h id o ho)
theorem Gs.add (σ:Sg)(o:Ob):Gs σ (addHp σ o):=fun i o' ho'=>by
 rw[ob_addHp,if_neg (by have:=Sg.ob_lt ho';omega)];exact ho'
theorem encL_gs (σ:Sg)(c:LK)(y:c.den):∃l σ',Gs σ σ'∧∀(ρ:Type) (k:L→Sg→Option ρ),encL σ c y k=k l σ':=by
 cases c with
 | d nn t=>exact⟨_,_,Gs.refl _,fun _ _=>rfl⟩
 | o dp e t=>exact⟨_,_,Gs.add _ _,fun _ _=>rfl⟩
 | m n=>exact⟨_,_,Gs.add _ _,fun _ _=>rfl⟩
theorem encLs_gs:(cs:List LK)→(σ:Sg)→(y:LKs.den cs)→∃ls σ',Gs σ σ'∧∀(ρ:Type) (k:List L→Sg→Option ρ),encLs σ cs y k=k ls σ'
 | [],σ,y=>⟨[],σ,Gs.refl _,fun _ _=>rfl⟩
 | [c],σ,y=>by obtain⟨l,σ',hk,h⟩:=encL_gs σ c y;exact⟨[l],σ',hk,fun ρ k=>by simp only[encLs];exact h ρ _⟩
 | c::c'::r,σ,y=>by
  obtain⟨l,σ',hk,h⟩:=encL_gs σ c y.1;obtain⟨ls,σ2,hk2,h2⟩:=encLs_gs (c'::r) σ' y.2;exact⟨l::ls,σ2,hk.trans hk2,fun ρ k=>by simp only[encLs];rw[h,h2]⟩
theorem encS_gs (σ:Sg):(c:SK)→(y:c.den)→∃l σ',Gs σ σ'∧∀(ρ:Type) (k:A→Sg→Option ρ),encS σ c y k=k l σ'
 | .l c,y=>by obtain⟨l,σ',hk,h⟩:=encL_gs σ c y;exact⟨_,σ',hk,fun ρ k=>by simp only[encS];exact h ρ _⟩
 | .a cs,y=>by obtain⟨l,σ',hk,h⟩:=encLs_gs cs σ y;exact⟨_,σ',hk,fun ρ k=>by simp only[encS];exact h ρ _⟩
 | .b e cs,y=>by obtain⟨l,σ',hk,h⟩:=encLs_gs cs σ y;exact⟨_,_,hk.trans (Gs.add _ _),fun ρ k=>by simp only[encS];exact h ρ _⟩
theorem encSs_gs:(cs:List SK)→(σ:Sg)→(y:SKs.den cs)→∃xs σ',Gs σ σ'∧∀(ρ:Type) (k:List A→Sg→Option ρ),encSs σ cs y k=k xs σ'
 | [],σ,y=>⟨[],_,Gs.refl _,fun _ _=>rfl⟩
 | [c],σ,y=>by obtain⟨l,σ',hk,h⟩:=encS_gs σ c y;exact⟨[l],σ',hk,fun ρ k=>by simp only[encSs];exact h ρ _⟩
 | c::c'::r,σ,y=>by
  obtain⟨l,σ',hk,h⟩:=encS_gs σ c y.1;obtain⟨ls,σ2,hk2,h2⟩:=encSs_gs (c'::r) σ' y.2;exact⟨l::ls,σ2,hk.trans hk2,fun ρ k=>by simp only[encSs];rw[h,h2]⟩
section
variable {ρ:Type}{C:Ctx}
theorem argsK_still (al:Bool):(ps:List PM)→(xs:List A)→(σ:Sg)→(ρ:Type)→(k:PMs.den ps→Sg→Option ρ)→(r:ρ)→ps.all PM.still=true→argsK al ps xs σ k=some r→∃y,k y σ=some r
 | [],[],σ,ρ,k,r,_,hk=>⟨(),hk⟩
 | [p],[x],σ,ρ,k,r,hs,hk=>by
  simp only[argsK]at hk;cases p with
  | d nn t =>
   simp only[argK]at hk;split at hk
   ·rw[rdA_nat]at hk;obtain⟨y,_,hk⟩:=Option.bind_eq_some_iff.1 hk;rw[nnA_nat]at hk;obtain⟨_,_,hk⟩:=Option.bind_eq_some_iff.1 hk;exact⟨y,hk⟩
   ·simp at hk
  | f g =>
   simp only[argK]at hk;split at hk
   ·split at hk
    ·exact⟨(),hk⟩
    ·simp at hk
   ·simp at hk
  | mv dp e t=>simp[PM.still]at hs
  | io dp e t=>simp[PM.still]at hs
  | cur e=>simp[PM.still]at hs
 | p::p'::r',x::xs,σ,ρ,k,r,hs,hk=>by
  simp only[argsK]at hk;have hs':(p'::r').all PM.still=true:=by simp only[List.all_cons,Bool.and_eq_true]at hs ⊢;exact hs.2
  cases p with
  | d nn t =>
   simp only[argK]at hk;obtain⟨ys,hk⟩:=argsK_still al (p'::r') xs σ _ _ _ hs' hk;split at hk
   ·rw[rdA_nat]at hk;obtain⟨y,_,hk⟩:=Option.bind_eq_some_iff.1 hk;rw[nnA_nat]at hk;obtain⟨_,_,hk⟩:=Option.bind_eq_some_iff.1 hk;exact⟨_,hk⟩
   ·simp at hk
  | f g =>
   simp only[argK]at hk;split at hk
   ·split at hk
    ·obtain⟨ys,hk⟩:=argsK_still al (p'::r') xs σ _ _ _ hs' hk;exact⟨_,hk⟩
    ·simp at hk
   ·simp at hk
  | mv dp e t=>simp[PM.still]at hs
  | io dp e t=>simp[PM.still]at hs
  | cur e=>simp[PM.still]at hs
 | [],_::_,_,_,_,_,_,hk=>by simp[argsK]at hk
 | [_],[],_,_,_,_,_,hk=>by simp[argsK]at hk
 | [_],_::_::_,_,_,_,_,_,hk=>by simp[argsK]at hk
 | _::_::_,[],_,_,_,_,_,hk=>by simp[argsK]at hk
theorem hasIo_still:(ps:List PM)→ps.all PM.still=true→hasIo ps=false
 | [],_=>rfl
 | .d _ _::r,h=>hasIo_still r (by simpa[PM.still]using h)
 | .f _::r,h=>hasIo_still r (by simpa[PM.still]using h)
 | .mv _ _ _::r,h=>by simp[PM.still]at h
 | .io _ _ _::r,h=>by simp[PM.still]at h
 | .cur _::r,h=>by simp[PM.still]at h
theorem resB_none {R O:Type}:(b:Bool)→b=false→(x:ResB b R O)→(resB b x).2=none
 | false,_,_=>rfl
 | true,h,_=>by simp at h
theorem isR_env {σ σ':Sg}(h:σ.env=σ'.env)(op:Op):isR C σ op=isR C σ' op:=by
 have hg:∀x,getA σ x=getA σ' x:=fun x=>by cases x<;>simp[getA,h]
 unfold isR;split<;>first | rfl | skip
 split<;>first | rfl | skip
 rw[hg]
theorem callK_still {σ:Sg} {f:FuncId} {xs:List A} {e:CallE} {v:A} {s:Sg} (hf:findE f C.O = some e) (ha:(e.rs.any SK.alias || e.ps.any PM.alias) = false) (hs:e.ps.all PM.still = true)
  (hk:(callK C σ f xs fun v s=>some (v,s))=some (v,s)):Gs σ s:=by
 unfold callK at hk;rw[hf]at hk;simp only[ha]at hk;split at hk
 ·simp only[frzArgs]at hk;obtain⟨y,hk⟩:=argsK_still false e.ps xs σ _ _ _ hs hk;obtain⟨r,_,hk⟩:=Option.bind_eq_some_iff.1 hk;have hn:=resB_none _ (hasIo_still e.ps hs) r;generalize resB (hasIo e.ps) r=q at hk hn;obtain⟨q1,q2⟩:=q;simp only at hn;subst hn;simp only at hk;obtain⟨xs',σ',hg,h⟩:=encSs_gs e.rs σ q1;rw[h]at hk;simp only[Option.some.injEq,Prod.mk.injEq]at hk;rw[←hk.2];exact hg
 ·simp at hk
theorem opK_R {σ:Sg}{op:Op}{v:A}{s:Sg}(hR:isR C σ op=true)(hk:(opK C σ op fun v s=>some (v,s))=some (v,s)):Gs σ s:=by
 have same:∀{f:{ρ:Type}→(A→Option ρ)→Option ρ},(∀(ρ:Type) (k:A→Option ρ),f k=(f some).bind k)→(f fun v=>some (v,σ))=some (v,s)→Gs σ s:=fun hf h=>by
  rw[hf]at h;obtain⟨_,_,h⟩:=Option.bind_eq_some_iff.1 h;simp only[Option.some.injEq,Prod.mk.injEq]at h;rw[←h.2];exact Gs.refl _
 have here:∀{x:A},some (x,σ)=some (v,s)→Gs σ s:=fun h=>by
  simp only[Option.some.injEq,Prod.mk.injEq]at h;rw[←h.2];exact Gs.refl _
 unfold opK at hk;split at hk
 ·exact here hk
 ·exact here hk
 ·unfold ptrK at hk;split at hk
  ·exact here hk
  ·cases hk
 ·split at hk
  ·rename_i cb _;cases cb<;>exact here hk
  ·simp at hk
 ·exact same (f:=fun{ρ}=>unK (ρ:=ρ) _ _) (fun ρ k=>unK_nat k) hk
 ·exact same (f:=fun{ρ}=>binK (ρ:=ρ) C _ _ σ _ _) (fun ρ k=>binK_nat k) hk
 ·exact same (f:=fun{ρ}=>loadK (ρ:=ρ) C σ _ _) (fun ρ k=>loadK_nat k) hk
 ·simp[isR]at hR
 ·exact same (f:=fun{ρ}=>fieldAddrK (ρ:=ρ) C _ _ _) (fun ρ k=>fieldAddrK_nat k) hk
 ·exact same (f:=fun{ρ}=>indexAddrK (ρ:=ρ) C σ _ _ _) (fun ρ k=>indexAddrK_nat k) hk
 ·split at hk
  ·simp only[Option.some.injEq,Prod.mk.injEq]at hk;rw[←hk.2];exact Gs.add _ _
  ·simp at hk
 ·simp only at hk;split at hk
  ·simp at hk
  ·simp only[Option.some.injEq,Prod.mk.injEq]at hk;rw[←hk.2];exact Gs.add _ _
 ·exact same (f:=fun{ρ}=>buildK (ρ:=ρ) C σ _ _) (fun ρ k=>buildK_nat k) hk
 ·simp[isR]at hR
 ·unfold makeSliceK at hk;repeat' split at hk
  all_goals first
   | (simp at hk;done)
   | (obtain ⟨_,_,hk⟩:=Option.bind_eq_some_iff.1 hk
      simp only[Option.some.injEq,Prod.mk.injEq]at hk;rw[←hk.2];exact Gs.add _ _)
 ·simp[isR]at hR
 ·simp[isR]at hR
 ·simp[isR]at hR
 ·simp[isR]at hR
 ·exact same (f:=fun{ρ}=>extractK (ρ:=ρ) _ _) (fun ρ k=>extractK_nat k) hk
 ·exact same (f:=fun{ρ}=>convertK (ρ:=ρ) C σ _ _ _) (fun ρ k=>convertK_nat k) hk
 ·exact same (f:=fun{ρ}=>indexK (ρ:=ρ) C _ _ _) (fun ρ k=>indexK_nat k) hk
 ·simp[isR]at hR
 ·rename_i c;split at hk
  ·rename_i b hb;simp only[isR,hb]at hR;unfold builtinK at hk;split at hk
   ·split at hk
    ·exact same (f:=fun{ρ}=>lenK (ρ:=ρ) C σ _ _) (fun ρ k=>lenK_nat k) hk
    ·simp at hk
   ·simp at hR
   ·exact same (f:=fun{ρ}=>max2K (ρ:=ρ) true _ _) (fun ρ k=>max2K_nat k) hk
   ·exact same (f:=fun{ρ}=>max2K (ρ:=ρ) false _ _) (fun ρ k=>max2K_nat k) hk
   ·simp at hR
   ·simp at hk
  ·rename_i f hf;split at hk
   ·rename_i g hg;simp only[isR,hf,hg]at hR;split at hR
    ·rename_i e he;simp only[Bool.and_eq_true,Bool.not_eq_true']at hR;exact callK_still he hR.1 hR.2 hk
    ·simp at hR
   ·rename_i g ids hg;simp[isR,hf,hg]at hR
   ·simp at hk
  ·simp at hk
 ·simp at hk
theorem tkO_kp {σ:Sg}{dp:Bool}{e:TypeId}{t:Ty}{x:L}{k:List t.den→Sg→Option ρ}{r:ρ}(hk:tkO σ dp e t x k=some r):∃y s,k y s=some r∧Kp σ s:=by
 unfold tkO at hk;split at hk
 ·exact⟨_,_,hk,Kp.refl _⟩
 ·split at hk
  ·rename_i ho;split at hk
   ·obtain⟨y,_,hk⟩:=Option.bind_eq_some_iff.1 hk;exact⟨y,_,hk,Kp.set _ ho rfl⟩
   ·simp at hk
  ·simp at hk
 ·simp at hk
theorem tkLs_kp (dp:Bool):(t:Ty)→(σ:Sg)→(ls:List L)→(ρ:Type)→(k:t.den→List L→Sg→Option ρ)→(r:ρ)→tkLs dp t σ ls k=some r→∃y l s,k y l s=some r∧Kp σ s
 | .prod a b,σ,ls,ρ,k,r,hk=>by
  simp only[tkLs]at hk;obtain⟨x,l,s,hk,h1⟩:=tkLs_kp dp a σ ls ρ _ r hk;obtain⟨y,l2,s2,hk,h2⟩:=tkLs_kp dp b s l ρ _ r hk;exact⟨_,_,_,hk,h1.trans h2⟩
 | .list t,σ,x::l,ρ,k,r,hk=>by
  simp only[tkLs]at hk;split at hk
  ·split at hk
   ·exact⟨_,_,_,hk,Kp.refl _⟩
   ·split at hk
    ·rename_i ho;split at hk
     ·obtain⟨y,_,hk⟩:=Option.bind_eq_some_iff.1 hk;exact⟨_,_,_,hk,Kp.set _ ho rfl⟩
     ·simp at hk
    ·simp at hk
   ·simp at hk
  ·rw[rdL_nat]at hk;obtain⟨y,_,hk⟩:=Option.bind_eq_some_iff.1 hk;exact⟨_,_,_,hk,Kp.freezeL _ _⟩
 | .int _,σ,x::l,ρ,k,r,hk=>by
  simp only[tkLs]at hk;rw[rdL_nat]at hk;obtain⟨y,_,hk⟩:=Option.bind_eq_some_iff.1 hk;exact⟨_,_,_,hk,Kp.refl _⟩
 | .bool,σ,x::l,ρ,k,r,hk=>by
  simp only[tkLs]at hk;rw[rdL_nat]at hk;obtain⟨y,_,hk⟩:=Option.bind_eq_some_iff.1 hk;exact⟨_,_,_,hk,Kp.refl _⟩
 | .str,σ,x::l,ρ,k,r,hk=>by
  simp only[tkLs]at hk;rw[rdL_nat]at hk;obtain⟨y,_,hk⟩:=Option.bind_eq_some_iff.1 hk;exact⟨_,_,_,hk,Kp.refl _⟩
 | .int _,_,[],_,_,_,hk=>by simp[tkLs]at hk
 | .bool,_,[],_,_,_,hk=>by simp[tkLs]at hk
 | .str,_,[],_,_,_,hk=>by simp[tkLs]at hk
 | .list _,_,[],_,_,_,hk=>by simp[tkLs]at hk
theorem elemsK_kp (dp:Bool)(ty:Ty):(xs:List A)→(σ:Sg)→(ρ:Type)→(k:List ty.den→Sg→Option ρ)→(r:ρ)→elemsK dp ty σ xs k=some r→∃y s,k y s=some r∧Kp σ s
 | [],σ,ρ,k,r,hk=>⟨_,_,hk,Kp.refl _⟩
 | x::xs,σ,ρ,k,r,hk=>by
  simp only[elemsK]at hk;obtain⟨y,l,s,hk,h1⟩:=tkLs_kp dp ty σ _ ρ _ r hk;split at hk
  ·obtain⟨ys,s2,hk,h2⟩:=elemsK_kp dp ty xs s ρ _ r hk;exact⟨_,_,hk,h1.trans h2⟩
  ·simp at hk
theorem srcK_kp {σ:Sg}{dp:Bool}{ty:Ty}{x:A}{k:Bool→List ty.den→Sg→Option ρ}{r:ρ}(hk:srcK σ dp ty x k=some r):∃d y s,k d y s=some r∧Kp σ s:=by
 unfold srcK at hk;split at hk
 ·split at hk
  ·split at hk
   ·obtain⟨_,_,hk⟩:=Option.bind_eq_some_iff.1 hk;obtain⟨_,_,hk⟩:=Option.bind_eq_some_iff.1 hk;exact⟨_,_,_,hk,Kp.refl _⟩
   ·simp at hk
  ·simp at hk
 ·split at hk
  ·split at hk
   ·rename_i ho;obtain⟨y,_,hk⟩:=Option.bind_eq_some_iff.1 hk;exact⟨_,_,_,hk,Kp.set _ ho rfl⟩
   ·rw[rdL_nat]at hk;obtain⟨y,_,hk⟩:=Option.bind_eq_some_iff.1 hk;exact⟨_,_,_,hk,Kp.refl _⟩
  ·rw[rdL_nat]at hk;obtain⟨y,_,hk⟩:=Option.bind_eq_some_iff.1 hk;exact⟨_,_,_,hk,Kp.refl _⟩
 ·simp at hk
theorem decL_kp {c:LK}{x:L}{σ:Sg}{k:c.den→Sg→Option ρ}{r:ρ}(hk:decL σ c x k=some r):∃y s,k y s=some r∧Kp σ s:=by
 cases c with
 | d nn t =>
  simp only[decL]at hk;split at hk
  ·rw[rdL_nat]at hk;obtain⟨y,_,hk⟩:=Option.bind_eq_some_iff.1 hk;rw[nnK_nat]at hk;obtain⟨_,_,hk⟩:=Option.bind_eq_some_iff.1 hk;exact⟨y,σ,hk,Kp.refl _⟩
  ·simp at hk
 | o dp e t=>exact tkO_kp hk
 | m n =>
  simp only[decL]at hk;unfold tkM at hk;split at hk
  ·split at hk
   ·rename_i ho;split at hk
    ·exact⟨_,_,hk,Kp.set _ ho rfl⟩
    ·cases hk
   ·cases hk
  ·cases hk
theorem decLs_kp:(cs:List LK)→(ls:List L)→(σ:Sg)→(k:LKs.den cs→Sg→Option ρ)→(r:ρ)→decLs cs ls σ k=some r→∃y s,k y s=some r∧Kp σ s
 | [],[],σ,k,r,hk=>⟨(),σ,hk,Kp.refl _⟩
 | [c],[x],σ,k,r,hk=>decL_kp hk
 | c::c'::rr,x::xs,σ,k,r,hk=>by
  simp only[decLs]at hk;obtain⟨y,s,hk,h1⟩:=decL_kp hk;obtain⟨ys,s2,hk,h2⟩:=decLs_kp (c'::rr) xs s _ r hk;exact⟨(y,ys),s2,hk,h1.trans h2⟩
 | [],_::_,_,_,_,hk=>by simp[decLs]at hk
 | [_],[],_,_,_,hk=>by simp[decLs]at hk
 | [_],_::_::_,_,_,_,hk=>by simp[decLs]at hk
 | _::_::_,[],_,_,_,hk=>by simp[decLs]at hk
theorem argK_kp {β:Type} {al:Bool} {p:PM} {x:A} {σ:Sg} {rest:Sg→(β→Sg→Option ρ)→Option ρ} {k:p.den→β→Sg→Option ρ} {r:ρ} (hr:∀ σ k,rest σ k = some r→∃ y s,k y s = some r∧Kp σ s) (hk:argK al p x σ rest k = some r) :
  ∃y ys s,k y ys s=some r∧Kp σ s:=by
 cases p with
 | d nn t =>
  simp only[argK]at hk;obtain⟨ys,s,hk,h1⟩:=hr _ _ hk;split at hk
  ·rw[rdA_nat]at hk;obtain⟨y,_,hk⟩:=Option.bind_eq_some_iff.1 hk;rw[nnA_nat]at hk;obtain⟨_,_,hk⟩:=Option.bind_eq_some_iff.1 hk;exact⟨y,ys,s,hk,h1⟩
  ·simp at hk
 | f g =>
  simp only[argK]at hk;split at hk
  ·split at hk
   ·obtain⟨ys,s,hk,h1⟩:=hr _ _ hk;exact⟨(),ys,s,hk,h1⟩
   ·simp at hk
  ·simp at hk
 | mv dp e t =>
  simp only[argK]at hk;split at hk
  ·obtain⟨y,s,hk,h1⟩:=tkO_kp hk;obtain⟨ys,s2,hk,h2⟩:=hr _ _ hk;exact⟨y,ys,s2,hk,h1.trans h2⟩
  ·simp at hk
 | io dp e t =>
  simp only[argK]at hk;split at hk
  ·split at hk
   ·rename_i ho;split at hk
    ·obtain⟨y,_,hk⟩:=Option.bind_eq_some_iff.1 hk;obtain⟨ys,s2,hk,h2⟩:=hr _ _ hk;exact⟨y,ys,s2,hk,(Kp.set _ ho rfl).trans h2⟩
    ·simp at hk
   ·simp at hk
  ·simp at hk
 | cur e =>
  simp only[argK,decS]at hk;split at hk
  ·split at hk
   ·rename_i ho;split at hk
    ·obtain⟨y,s,hk,h1⟩:=decLs_kp _ _ _ _ _ hk;obtain⟨ys,s2,hk,h2⟩:=hr _ _ hk;exact⟨y,ys,s2,hk,((Kp.set _ ho rfl).trans h1).trans h2⟩
    ·simp at hk
   ·simp at hk
  ·simp at hk
theorem argsK_kp (al:Bool):(ps:List PM)→(xs:List A)→(σ:Sg)→(k:PMs.den ps→Sg→Option ρ)→(r:ρ)→argsK al ps xs σ k=some r→∃y s,k y s=some r∧Kp σ s
 | [],[],σ,k,r,hk=>⟨(),σ,hk,Kp.refl _⟩
 | [p],[x],σ,k,r,hk=>by
  simp only[argsK]at hk;obtain⟨y,_,s,hk,h⟩:=argK_kp (β:=Unit) (fun σ k hk=>⟨(),σ,hk,Kp.refl _⟩) hk;exact⟨y,s,hk,h⟩
 | p::p'::r',x::xs,σ,k,r,hk=>by
  simp only[argsK]at hk;obtain⟨y,ys,s,hk,h⟩:=argK_kp (fun σ k hk=>argsK_kp al (p'::r') xs σ k r hk) hk;exact⟨_,s,hk,h⟩
 | [],_::_,_,_,_,hk=>by simp[argsK]at hk
 | [_],[],_,_,_,hk=>by simp[argsK]at hk
 | [_],_::_::_,_,_,_,hk=>by simp[argsK]at hk
 | _::_::_,[],_,_,_,hk=>by simp[argsK]at hk
def KpI (C:Ctx):Prop:=∀e∈C.I,∀(xs:List A) (σ σ':Sg) (x:A),e.K (A×Sg) xs σ (fun v s=>some (v,s))=some (x,σ')→Kp σ σ'
theorem callK_kp (hI:KpI C){σ:Sg}{f:FuncId}{xs:List A}{v:A}{s:Sg}(hk:(callK C σ f xs fun v s=>some (v,s))=some (v,s)):Kp σ s:=by
 unfold callK at hk;split at hk
 ·rename_i e he;simp only at hk;split at hk
  ·have h0:Kp σ (frzArgs (e.rs.any SK.alias||e.ps.any PM.alias) σ e.ps xs):=by
    unfold frzArgs;split
    ·exact(freezeAs_frz e.ps xs σ).kp
    ·exact Kp.refl _
   obtain⟨y,s1,hk,h1⟩:=argsK_kp _ e.ps xs _ _ _ hk;obtain⟨r,_,hk⟩:=Option.bind_eq_some_iff.1 hk;split at hk
   ·obtain⟨s2,hk,b1,b2,b3,_⟩:=backK_some e.ps hk;obtain⟨xs',s3,hg,h3⟩:=encSs_gs e.rs s2 (by assumption)
    obtain⟨xs3,s4,_,kp4,hs4⟩:=encSs_shape e.rs s2 (by assumption)
    rw[hs4]at hk;simp only[Option.some.injEq,Prod.mk.injEq]at hk;rw[←hk.2];exact(h0.trans h1).trans ((⟨b1,by rw[b2];exact Nat.le_refl _,fun id o ho _=>b3 id o ho⟩:Kp s1 s2).trans kp4)
   ·obtain⟨xs3,s4,_,kp4,hs4⟩:=encSs_shape e.rs s1 (by assumption)
    rw[hs4]at hk;simp only[Option.some.injEq,Prod.mk.injEq]at hk;rw[←hk.2];exact(h0.trans h1).trans kp4
  ·simp at hk
 ·split at hk
  ·rename_i e he;exact hI e (findI_some he).1 _ _ _ _ hk
  ·simp at hk
theorem opK_kp (hI:KpI C){σ:Sg}{op:Op}{v:A}{s:Sg}(hk:(opK C σ op fun v s=>some (v,s))=some (v,s)):Kp σ s:=by
 have same:∀{f:{ρ:Type}→(A→Option ρ)→Option ρ},(∀(ρ:Type) (k:A→Option ρ),f k=(f some).bind k)→(f fun v=>some (v,σ))=some (v,s)→Kp σ s:=fun hf h=>by
  rw[hf]at h;obtain⟨_,_,h⟩:=Option.bind_eq_some_iff.1 h;simp only[Option.some.injEq,Prod.mk.injEq]at h;rw[←h.2];exact Kp.refl _
 have here:∀{x:A} {s':Sg},Kp σ s'→some (x,s')=some (v,s)→Kp σ s:=fun hs h=>by
  simp only[Option.some.injEq,Prod.mk.injEq]at h;rw[←h.2];exact hs
 unfold opK at hk;split at hk
 ·exact here (Kp.refl _) hk
 ·exact here (Kp.refl _) hk
 ·unfold ptrK at hk;split at hk
  ·exact here (Kp.refl _) hk
  ·cases hk
 ·split at hk
  ·rename_i cb _;cases cb<;>exact here (Kp.refl _) hk
  ·simp at hk
 ·exact same (f:=fun{ρ}=>unK (ρ:=ρ) _ _) (fun ρ k=>unK_nat k) hk
 ·exact same (f:=fun{ρ}=>binK (ρ:=ρ) C _ _ σ _ _) (fun ρ k=>binK_nat k) hk
 ·exact same (f:=fun{ρ}=>loadK (ρ:=ρ) C σ _ _) (fun ρ k=>loadK_nat k) hk
 ·unfold storeK at hk;split at hk
  ·split at hk
   ·rename_i ho;simp only at hk;split at hk
    ·exact here (Kp.set _ ho rfl) hk
    ·simp at hk
   ·simp at hk
  ·split at hk
   ·rename_i ho;split at hk
    ·obtain⟨y,l,s1,hk,h1⟩:=tkLs_kp _ _ _ _ _ _ _ hk;split at hk
     ·rename_i ho2;split at hk
      ·obtain⟨_,_,hk⟩:=Option.bind_eq_some_iff.1 hk;obtain⟨_,_,hk⟩:=Option.bind_eq_some_iff.1 hk;exact here (h1.trans (Kp.set _ ho2 rfl)) hk
      ·simp at hk
     ·simp at hk
    ·simp at hk
   ·simp at hk
  ·simp at hk
 ·exact same (f:=fun{ρ}=>fieldAddrK (ρ:=ρ) C _ _ _) (fun ρ k=>fieldAddrK_nat k) hk
 ·exact same (f:=fun{ρ}=>indexAddrK (ρ:=ρ) C σ _ _ _) (fun ρ k=>indexAddrK_nat k) hk
 ·split at hk
  ·exact here (Kp.add _ _) hk
  ·simp at hk
 ·simp only at hk;split at hk
  ·simp at hk
  ·exact here (Kp.add _ _) hk
 ·exact same (f:=fun{ρ}=>buildK (ρ:=ρ) C σ _ _) (fun ρ k=>buildK_nat k) hk
 ·unfold buildSliceK at hk;repeat' split at hk
  all_goals first
   | (simp at hk;done)
   | (obtain ⟨y,s1,hk,h1⟩:=elemsK_kp _ _ _ _ _ _ _ hk
      exact here (h1.trans (Kp.add _ _)) hk)
 ·unfold makeSliceK at hk;repeat' split at hk
  all_goals first
   | (simp at hk;done)
   | (obtain ⟨_,_,hk⟩:=Option.bind_eq_some_iff.1 hk
      exact here (Kp.add _ _) hk)
 ·unfold makeMapK at hk;repeat' split at hk
  all_goals first
   | (simp at hk;done)
   | exact here (Kp.add _ _) hk
 ·unfold mapUpdateK at hk;split at hk
  ·split at hk
   ·rename_i ho _;split at hk
    ·split at hk
     ·exact here (Kp.set _ ho rfl) hk
     ·simp at hk
    ·simp at hk
   ·simp at hk
  ·simp at hk
 ·unfold sliceK at hk;split at hk
  ·split at hk
   ·rw[intOptK_nat]at hk;obtain⟨_,_,hk⟩:=Option.bind_eq_some_iff.1 hk;rw[intOptK_nat]at hk;obtain⟨_,_,hk⟩:=Option.bind_eq_some_iff.1 hk;obtain⟨_,_,hk⟩:=Option.bind_eq_some_iff.1 hk;exact here (Kp.refl _) hk
   ·simp at hk
  ·split at hk
   ·split at hk
    ·rw[intOptK_nat]at hk;obtain⟨_,_,hk⟩:=Option.bind_eq_some_iff.1 hk;rw[intOptK_nat]at hk;obtain⟨_,_,hk⟩:=Option.bind_eq_some_iff.1 hk;obtain⟨_,_,hk⟩:=Option.bind_eq_some_iff.1 hk;exact here (Kp.refl _) hk
    ·simp at hk
   ·simp at hk
  ·split at hk
   ·rename_i ho;split at hk
    ·split at hk
     ·split at hk
      ·simp at hk
      ·rename_i hro;rw[intOptK_nat]at hk;obtain⟨_,_,hk⟩:=Option.bind_eq_some_iff.1 hk;obtain⟨_,_,hk⟩:=Option.bind_eq_some_iff.1 hk;exact here ((Kp.set none ho (by simpa[Ob.ro]using hro)).trans (Kp.add _ _)) hk
     ·rw[intOptK_nat]at hk;obtain⟨_,_,hk⟩:=Option.bind_eq_some_iff.1 hk;rw[intOptK_nat]at hk;obtain⟨_,_,hk⟩:=Option.bind_eq_some_iff.1 hk;obtain⟨_,_,hk⟩:=Option.bind_eq_some_iff.1 hk;split at hk
      ·exact here (Kp.refl _) hk
      ·rw[ho]at hk;exact here (Kp.freeze ho) hk
    ·simp at hk
   ·simp at hk
  ·simp at hk
 ·exact same (f:=fun{ρ}=>slice3K (ρ:=ρ) C σ _ _ _ _) (fun ρ k=>slice3K_nat k) hk
 ·exact same (f:=fun{ρ}=>extractK (ρ:=ρ) _ _) (fun ρ k=>extractK_nat k) hk
 ·exact same (f:=fun{ρ}=>convertK (ρ:=ρ) C σ _ _ _) (fun ρ k=>convertK_nat k) hk
 ·exact same (f:=fun{ρ}=>indexK (ρ:=ρ) C _ _ _) (fun ρ k=>indexK_nat k) hk
 ·split at hk
  ·exact here (Kp.refl _) hk
  ·exact here (Kp.refl _) hk
  ·simp at hk
 ·rename_i c;split at hk
  ·rename_i b hb;unfold builtinK at hk;split at hk
   ·split at hk
    ·exact same (f:=fun{ρ}=>lenK (ρ:=ρ) C σ _ _) (fun ρ k=>lenK_nat k) hk
    ·simp at hk
   ·unfold appendK at hk;split at hk
    ·unfold appendSK at hk;split at hk
     ·split at hk
      ·split at hk
       ·split at hk
        ·split at hk
         ·obtain⟨_,_,hk⟩:=Option.bind_eq_some_iff.1 hk;exact here (Kp.add _ _) hk
         ·split at hk
          ·rename_i ho;split at hk
           ·obtain⟨_,_,hk⟩:=Option.bind_eq_some_iff.1 hk;obtain⟨_,_,hk⟩:=Option.bind_eq_some_iff.1 hk;exact here ((Kp.set none ho rfl).trans (Kp.add _ _)) hk
           ·simp at hk
          ·simp at hk
         ·simp at hk
        ·simp at hk
       ·simp at hk
      ·simp at hk
     ·simp at hk
    ·unfold appendLK at hk;split at hk
     ·split at hk
      ·split at hk
       ·split at hk
        ·split at hk
         ·obtain⟨d,y,s1,hk,h1⟩:=srcK_kp hk;obtain⟨_,_,hk⟩:=Option.bind_eq_some_iff.1 hk;exact here (h1.trans (Kp.add _ _)) hk
         ·split at hk
          ·rename_i ho;split at hk
           ·obtain⟨_,_,hk⟩:=Option.bind_eq_some_iff.1 hk;obtain⟨d,y,s1,hk,h1⟩:=srcK_kp hk;obtain⟨_,_,hk⟩:=Option.bind_eq_some_iff.1 hk;exact here (((Kp.set none ho rfl).trans h1).trans (Kp.add _ _)) hk
           ·simp at hk
          ·simp at hk
         ·obtain⟨_,_,hk⟩:=Option.bind_eq_some_iff.1 hk;obtain⟨d,y,s1,hk,h1⟩:=srcK_kp hk;obtain⟨_,_,hk⟩:=Option.bind_eq_some_iff.1 hk;obtain⟨_,_,hk⟩:=Option.bind_eq_some_iff.1 hk;exact here (h1.trans (Kp.add _ _)) hk
         ·simp at hk
        ·simp at hk
       ·simp at hk
      ·simp at hk
     ·simp at hk
   ·exact same (f:=fun{ρ}=>max2K (ρ:=ρ) true _ _) (fun ρ k=>max2K_nat k) hk
   ·exact same (f:=fun{ρ}=>max2K (ρ:=ρ) false _ _) (fun ρ k=>max2K_nat k) hk
   ·split at hk
    ·unfold clearK at hk;split at hk
     ·split at hk
      ·rename_i ho;split at hk
       ·obtain⟨_,_,hk⟩:=Option.bind_eq_some_iff.1 hk;exact here (Kp.set _ ho rfl) hk
       ·cases hk
      ·cases hk
     ·cases hk
    ·cases hk
   ·simp at hk
  ·rename_i f hf;split at hk
   ·exact callK_kp hI hk
   ·exact callK_kp hI hk
   ·simp at hk
  ·simp at hk
 ·simp at hk
end
open Go
set_option linter.all false
theorem ob_freezeRef (s:Sg)(id i:Nat):(freezeL s (.ref id)).ob i=if i=id then(s.ob i).map Ob.freeze else s.ob i:=by
 simp only[freezeL];split
 ·rename_i o ho;rw[ob_setHp];have hlt:=Sg.ob_lt ho;by_cases h:i=id
  ·subst h;simp[hlt,ho]
  ·simp[h]
 ·rename_i ho;by_cases h:i=id
  ·subst h;simp[ho]
  ·simp[h]
theorem freeze_freeze (o:Ob):o.freeze.freeze=o.freeze:=by cases o<;>rfl
theorem foldFrz_ob:(ids:List Nat)→(s:Sg)→(i:Nat)→(ids.foldl (fun s id=>freezeL s (.ref id)) s).ob i=if i∈ids then(s.ob i).map Ob.freeze else s.ob i
 | [],s,i=>by simp
 | id::ids,s,i=>by
  rw[List.foldl_cons,foldFrz_ob ids,ob_freezeRef];by_cases h1:i=id
  ·subst h1;by_cases h2:i∈ids
   ·simp only[h2,if_true,List.mem_cons,true_or];cases s.ob i<;>simp[freeze_freeze]
   ·simp[h2]
  ·by_cases h2:i∈ids<;>simp[h1,h2]
theorem frzA_ob (s:Sg)(x:A)(i:Nat):(frzA s x).ob i=if i∈x.refs then(s.ob i).map Ob.freeze else s.ob i:=foldFrz_ob _ _ _
theorem foldFrz_frz (ids:List Nat):∀{σ s:Sg},Frz σ s→Frz σ (ids.foldl (fun s id=>freezeL s (.ref id)) s):=by
 induction ids with
 | nil=>exact fun h=>h
 | cons id ids ih=>exact fun h=>ih (.step _ h)
theorem frzA_frz (s:Sg)(x:A):Frz s (frzA s x):=foldFrz_frz _ (.refl _)
section
variable {ρ:Type}{C:Ctx}{E:En}{G:Gh}{σ σ2:Sg}{a:Act}{w:World}{I:Nat→Prop}{N:Nat}
theorem thawL_some (h:RelG E G σ2 a w)(l:L){v:Value}(hσ:∀id∈l.refs,σ2.ob id=(σ.ob id).map Ob.freeze)(hv:VL (Imm E G σ2 w) N G w l v):VL (Imm E G σ2 w) N G w (thawL σ l) v:=by
 unfold thawL;split
 ·rename_i id;split
  ·rename_i ro dp e t y ho;have h2:=hσ id (by simp[L.refs])
   rw[ho]at h2;have hor:=h.obs id _ h2;simp only[Ob.freeze,OR]at hor;exact⟨by rw[hv.2.1];exact hor,fun hn=>by simp at hn⟩
  ·exact hv
 ·exact hv
theorem thawLs_some (h:RelG E G σ2 a w):(ls:List L)→{vs:List Value}→(∀id∈ls.flatMap L.refs,σ2.ob id=(σ.ob id).map Ob.freeze)→VLs (Imm E G σ2 w) N G w ls vs→VLs (Imm E G σ2 w) N G w (ls.map (thawL σ)) vs
 | [],[],_,_=>trivial
 | [],_::_,_,hv=>hv.elim
 | _::_,[],_,hv=>hv.elim
 | l::ls,v::vs,hσ,hv=>⟨⟨thawL_some h l (fun id hi=>hσ id (by rw[List.flatMap_cons];exact List.mem_append_left _ hi)) hv.1.1,hv.1.2⟩,thawLs_some h ls (fun id hi=>hσ id (by rw[List.flatMap_cons];exact List.mem_append_right _ hi)) hv.2⟩
theorem thawPs_some (h:RelG E G σ2 a w):(ps:List (Bool×List L))→{vs:List Value}→(∀id∈ps.flatMap (fun p=>p.2.flatMap L.refs),σ2.ob id=(σ.ob id).map Ob.freeze)→VPs (Imm E G σ2 w) N G w ps vs→VPs (Imm E G σ2 w) N G w (ps.map fun p=>(p.1,p.2.map (thawL σ))) vs
 | [],[],_,_=>trivial
 | [],_::_,_,hv=>hv.elim
 | _::_,[],_,hv=>hv.elim
 | (true,ls)::ps,v::vs,hσ,hv=>by
  refine⟨?_,thawPs_some h ps (fun id hi=>hσ id (by rw[List.flatMap_cons];exact List.mem_append_right _ hi)) hv.2⟩
  obtain⟨us,e,h1⟩:=hv.1;exact⟨us,e,thawLs_some h ls (fun id hi=>hσ id (by rw[List.flatMap_cons];exact List.mem_append_left _ hi)) h1⟩
 | (false,ls)::ps,v::vs,hσ,hv=>by
  refine⟨?_,thawPs_some h ps (fun id hi=>hσ id (by rw[List.flatMap_cons];exact List.mem_append_right _ hi)) hv.2⟩
  obtain⟨l,e,h1⟩:=hv.1;subst e;exact⟨_,rfl,thawL_some h l (fun id hi=>hσ id (by rw[List.flatMap_cons];exact List.mem_append_left _ (by simpa using hi))) h1⟩
theorem thawA_some (h:RelG E G σ2 a w):(x:A)→{v:Value}→(∀id∈x.refs,σ2.ob id=(σ.ob id).map Ob.freeze)→VA (Imm E G σ2 w) N G w x v→VA (Imm E G σ2 w) N G w (thawA σ x) v
 | .l y,_,hσ,hv=>thawL_some h y hσ hv
 | .a ls,_,hσ,⟨vs,e,hv⟩=>⟨vs,e,thawLs_some h ls hσ hv⟩
 | .t ps,_,hσ,⟨vs,e,hv⟩=>⟨vs,e,thawPs_some h ps hσ hv⟩
end
structure RunF (C:Ctx) (ops:Array Oper) (th ds wr:List Nat) (m:Nat) (base k:Nat) (σ0:Sg) (es:List Ent) (o:Oper) (e:Ent) (pt:Sg) (v1:A) (σ1:Sg):Prop where
 op:(opK C pt o.op fun v s=>some (v,s))=some (v1,σ1)
 v:e.v=if th.contains e.i then thawA σ1 v1 else v1
 st:e.st=if th.contains e.i then frzA σ1 v1 else σ1
 lo:pt.hp.length=base+e.i*k
 hi:e.st.hp.length≤base+e.i*k+k
 elen:pt.env.length=σ0.env.length
 env:∀t x,pt.env[t]? = some x→x=.l .unk∨((∀id∈x.refs,id<base+e.i*k)∧(((t∉ds∨(t∈ds∧∀j o',j<m→ops[j]? = some o'→o'.dst=some t→j=e.i∨∃d∈o'.after.toList,Region.binds .any d=true∧d.on=e.i))∧σ0.env[t]? = some x)∨∃e'∈es,e'.i∈e.an∧e'.dst=some t∧Eqv x e'.v))
 ob:∀id x,pt.ob id=some x→(∀j∈x.refs,j<base+e.i*k)∧((id<base∧id∉wr∧σ0.ob id=some x∧e.st.ob id=some x)∨(id∈e.ins∧((id<base∧σ0.ob id=some x)∨∃e'∈es,e'.i∈e.an∧seg base k e'.i id∧e'.st.ob id=some x)))
 ins:∀id∈e.ins,(pt.ob id).isSome=true
def GuardF (ops:Array Oper)(n:Nat)(es:List Ent)(o:Oper)(e:Ent)(run:Bool):Prop :=
 (o.guard=none∧run=true)∨∃j want d,o.guard=some (j,want)∧(ops[j]?).bind (·.dst)=some d∧d<n∧j∈e.an∧∃e'∈es,e'.i=j∧e'.dst=some d∧((∃b,run=(b==want)∧Eqv e'.v (boolA b))∨(run=false∧Eqv e'.v (.l .und)))
def Fact (C:Ctx)(ops:Array Oper)(th ds wr:List Nat)(m base k:Nat)(σ0:Sg)(es:List Ent)(o:Oper)(e:Ent):Prop :=
 (GuardF ops σ0.env.length es o e true∧∃pt v1 σ1,RunF C ops th ds wr m base k σ0 es o e pt v1 σ1) ∨
 (GuardF ops σ0.env.length es o e false∧e.v=.l .und∧e.ins=[]∧∀id,e.st.ob id=none)
theorem GuardF.mono {ops:Array Oper}{n:Nat}{es es':List Ent}{o:Oper}{e:Ent}{run:Bool}(hs:∀e∈es,e∈es')(h:GuardF ops n es o e run):GuardF ops n es' o e run:=by
 rcases h with h | ⟨j,want,d,h1,h2,h3,h4,e',h6,h7⟩
 ·exact .inl h
 ·exact .inr ⟨j,want,d,h1,h2,h3,h4,e',hs e' h6,h7⟩
theorem Fact.mono {C:Ctx} {ops:Array Oper} {th ds wr:List Nat} {m base k:Nat} {σ0:Sg} {es es':List Ent} {o:Oper} {e:Ent} (hs:∀ e∈es,e∈es') (h:Fact C ops th ds wr m base k σ0 es o e) :
  Fact C ops th ds wr m base k σ0 es' o e:=by
 rcases h with⟨h1,pt,v1,σ1,h⟩ | ⟨h1,h2⟩
 ·refine .inl ⟨h1.mono hs,pt,v1,σ1,{ h with env:=fun t x hx=>?_,ob:=fun id x hx=>?_ }⟩
  ·rcases h.env t x hx with h2 | ⟨h2,h3 | ⟨e',h3,h4⟩⟩
   ·exact .inl h2
   ·exact .inr ⟨h2,.inl h3⟩
   ·exact .inr ⟨h2,.inr ⟨e',hs e' h3,h4⟩⟩
  ·obtain⟨h2,h3 | ⟨h3,h4 | ⟨e',h4,h5⟩⟩⟩:=h.ob id x hx
   ·exact⟨h2,.inl h3⟩
   ·exact⟨h2,.inr ⟨h3,.inl h4⟩⟩
   ·exact⟨h2,.inr ⟨h3,.inr ⟨e',hs e' h4,h5⟩⟩⟩
 ·exact .inr ⟨h1.mono hs,h2⟩
section
variable {ρ:Type}{C:Ctx}{E:En}{G:Gh}{σ0 σ:Sg}{a:Act}{w:World}{ops:Array Oper}{th ds wr:List Nat}{m base k N:Nat}{es:List Ent}{S:Nat→Prop}{o:Oper}{e:Ent}
theorem mem_seg {lo k id:Nat}:id∈List.range' lo k↔lo≤id∧id<lo+k:=by simp
theorem seg_iff {i id:Nat}:seg base k i id↔id∈List.range' (base+i*k) k:=by
 rw[mem_seg];unfold seg;rw[Nat.add_mul,Nat.one_mul,Nat.add_assoc]
theorem wanted_of {j:Nat} {want:Bool} {d:Nat} {b:Bool} {y:A} (h:RelG E G σ a w) (hg:o.guard = some (j,want)) (hd:(ops[j]?).bind (·.dst) = some d) (hy:σ.env[d]? = some y) (he:Eqv y (boolA b)) :
  Region.wanted o (yielded ops a.tmps)=(b==want):=by
 have hv:=h.get (.tmp d);have hgy:getA σ (.tmp d)=y:=by simp only[getA,List.getD_eq_getElem?_getD,hy];rfl
 rw[hgy]at hv;have hb:=datBool ((he.1 _ _ _ _ _).1 hv);simp only[Act.eval]at hb;have hyl:yielded ops a.tmps j=some b:=by
  unfold yielded;rw[hd];simp only[Option.bind_some];cases ht:a.tmps[d]? with
  | none=>rw[Array.getD_eq_getD_getElem?,ht]at hb;simp[undef]at hb
  | some u =>
   rw[Array.getD_eq_getD_getElem?,ht]at hb;simp only[Option.getD_some]at hb;subst hb;rfl
 simp only[Region.wanted,hg,hyl];cases b<;>cases want<;>rfl
theorem unwanted_of {j:Nat} {want:Bool} {d:Nat} {y:A} (h:RelG E G σ a w) (hg:o.guard = some (j,want)) (hd:(ops[j]?).bind (·.dst) = some d) (hy:σ.env[d]? = some y) (he:Eqv y (.l .und)) :
  Region.wanted o (yielded ops a.tmps)=false:=by
 have hv:=h.get (.tmp d);have hgy:getA σ (.tmp d)=y:=by simp only[getA,List.getD_eq_getElem?_getD,hy];rfl
 rw[hgy]at hv;have hb:a.tmps.getD d undef=undef:=(he.1 _ _ _ _ _).1 hv;have hyl:yielded ops a.tmps j=none:=by
  unfold yielded;rw[hd];simp only[Option.bind_some];cases ht:a.tmps[d]? with
  | none=>rfl
  | some u =>
   rw[Array.getD_eq_getD_getElem?,ht]at hb;simp only[Option.getD_some]at hb;subst hb;rfl
 simp only[Region.wanted,hg,hyl];cases want<;>rfl
theorem GuardF.wanted {run:Bool}(g:GuardF ops σ0.env.length es o e run)(h:RelG E G σ a w)(hSt:StS base k ds es S σ0 σ)(hpre:∀j∈e.an,S j):Region.wanted o (yielded ops a.tmps)=run:=by
 rcases g with⟨h1,h2⟩ | ⟨j,want,d,h1,h2,h3,h4,e',h6,h7,h8,h9⟩
 ·subst h2;simp[Region.wanted,h1]
 ·have hlt:d<σ.env.length:=by rw[hSt.len];exact h3
  have hy:σ.env[d]? = some σ.env[d]:=List.getElem?_eq_getElem hlt;have hq:=hSt.envS e' h6 (by rw[h7];exact hpre j h4) d _ h8 hy
  rcases h9 with⟨b,h5,h9⟩ | ⟨h5,h9⟩
  ·rw[h5];exact wanted_of h h1 h2 hy (hq.trans h9)
  ·rw[h5];exact unwanted_of h h1 h2 hy (hq.trans h9)
theorem run_step (hC:Ctrs E.d C) (hk:0 < k) (h:RelG E G σ a w) (hSt:StS base k ds es S σ0 σ) (hE:Ents wr base k N ds es) (hN:σ0.hp.length = N) (cl:∀ e∈es,S e.i→∀ j∈e.an,S j) (he:e∈es) (hS:¬ S e.i) (hpre:∀ j∈e.an,S j)
  (hdo:e.dst=o.dst) (hF:∀t,o.dst=some t→¬E.F t) (haf:∀e'∈es,S e'.i→e'.i<m∧∃o',ops[e'.i]? = some o'∧e'.dst=o'.dst∧∀d∈o'.after.toList,Region.binds .any d=true→d.on∈e'.an) (h0E:∀(t:Nat) (x:A),σ0.env[t]? = some x→∀id∈x.refs,id<base) (h0O:∀id x,σ0.ob id=some x→id<base∧∀j∈x.refs,j<base) {pt:Sg} {v1:A} {σ1:Sg} (R:RunF C ops th ds wr m base k σ0 es o e pt v1 σ1)
  (K:Act→World→Prop) (Q:Exit→Act→World→Prop) (hK:∀σ' a' w' G',RelG E G' σ' a' w'→StS base k ds es (fun i=>S i∨i=e.i) σ0 σ'→Keep (Imm E G σ w) (Imm E G' σ' w') base base G G' w w'→K a' w'):o.wp C.P a w K Q:=by
 have hlen:σ.hp.length=N:=hSt.n.trans hN;have hroom:base+e.i*k+k≤N:=by have:=hE.room e he;rw[Nat.add_mul,Nat.one_mul]at this;omega
 have p:Part σ pt:=by
  refine⟨by rw[R.elen,hSt.len],fun t x hx=>?_,fun id x hx=>?_,by rw[R.lo,hlen];omega⟩
  ·rcases R.env t x hx with rfl | ⟨h1,h2⟩
   ·exact .inl rfl
   ·refine .inr ⟨?_,A.bd_of x (by rw[R.lo];exact h1)⟩
    rcases h2 with⟨h2,h3⟩ | ⟨e',h2,h3,h4,h5⟩
    ·refine⟨x,?_,fun _ _ _ _ _ hv=>hv⟩;rcases h2 with h2 | ⟨h2,h4⟩
     ·rw[hSt.env0 t h2];exact h3
     ·rw[hSt.envU t h2 fun e' he' hs' hd'=>?_]
      ·exact h3
      ·obtain⟨k1,o',k2,k3,k4⟩:=haf e' he' hs';rcases h4 e'.i o' k1 k2 (by rw[←k3];exact hd')with h5 | ⟨d,h5,h6,h7⟩
       ·exact hS (h5▸hs')
       ·exact hS (cl e' he' hs' _ (by rw[←h7];exact k4 d h5 h6))
    ·have hlt:t<σ.env.length:=by rw[hSt.len,←R.elen];exact(List.getElem?_eq_some_iff.1 hx).1
     have hy:σ.env[t]? = some σ.env[t]:=List.getElem?_eq_getElem hlt;exact⟨_,hy,fun I N G w v hv=>(h5.1 I N G w v).2 (((hSt.envS e' h2 (hpre _ h3) t _ h4 hy).1 I N G w v).1 hv)⟩
  ·obtain⟨h1,h2⟩:=R.ob id x hx;refine⟨?_,Ob.bd_of x (by rw[R.lo];exact h1)⟩
   rcases h2 with⟨h2,h3,h3',_⟩ | ⟨h2,⟨h3,h4⟩ | ⟨e',h3,h4,h5,h6⟩⟩
   ·rw[hSt.ob0 id h2 fun e' he' _ hi=>h3 (hE.insW e' he' id hi h2)];exact h3'
   ·rw[hSt.ob0 id h3 fun e' he' hs hi=>?_]
    ·exact h4
    ·by_cases hc:e.i=e'.i
     ·exact hS (hc▸hs)
     ·exact hE.insD e he e' he' hc id h2 hi
   ·rw[hSt.obS e' h3 (hpre _ h4) id h5 fun e2 he2 hs2 hi2=>hE.insD e he e2 he2 (fun hc=>hS (hc▸hs2)) id h2 hi2];exact h6
 have h1:=p.rel h;obtain⟨v',s',hk',kp,hx⟩:=opK_some (E:=Eop E G σ pt w) (o:=o) hC h1 R.op;simp only[Option.some.injEq,Prod.mk.injEq]at hk';obtain⟨rfl,rfl⟩:=hk';have f:Frz s' e.st:=by
  rw[R.st];split
  ·exact frzA_frz _ _
  ·exact .refl _
 let ids:=e.ins++List.range' (base+e.i*k) k
 have hids:∀id,id∈ids↔(id∈e.ins∨seg base k e.i id):=fun id=>by
  simp only[ids,List.mem_append];rw[seg_iff]
 have hidlt:∀id,id∈ids→id<σ.hp.length:=fun id hi=>by
  rw[hlen];rcases(hids id).1 hi with hi | hi
  ·exact(hE.insA e he id hi).1
  ·have:=hi.2;rw[Nat.add_mul,Nat.one_mul]at this;omega
 have hmob:=mergeS_ob e.st ids;have fin:∀{G':Gh} {w':World} {val:Value},RelG (Eop E G σ pt w) G' s' a w'→(∀id,id<pt.hp.length→(G' id).1=(G id).1)→VA (Imm (Eop E G σ pt w) G' s' w') s'.hp.length G' w' v' val→K (a.put o.dst val) w':=by
  intro G' w' val hr hga hva;have hr2:=f.rel hr;have hva2:VA (Imm (Eop E G σ pt w) G' e.st w') e.st.hp.length G' w' e.v val:=by
   have h3:=hva.keep f.keep v';rw[R.v];split
   ·rename_i ht;refine thawA_some hr2 v' (fun id hi=>?_) h3;rw[R.st,if_pos ht,frzA_ob,if_pos hi]
   ·exact h3
  have hin:∀id,pt.hp.length≤id∧id<base+e.i*k+k↔seg base k e.i id:=fun id=>by
   rw[R.lo];unfold seg;rw[Nat.add_mul,Nat.one_mul,Nat.add_assoc]
  have hsegS:∀j∈e.i::e.an,S j∨j=e.i:=fun j hj=>by
   rcases List.mem_cons.1 hj with rfl | hj
   ·exact .inr rfl
   ·exact .inl (hpre j hj)
  have notseg:∀e'∈es,S e'.i→∀id,(id<base∨(base≤id∧(id-base) / k∈e'.i::e'.an))→¬seg base k e.i id:=fun e' he' hs id hid hsg=>by
   obtain⟨s1,s2⟩:=seg_div hk hsg;rcases hid with hid | ⟨_,hid⟩
   ·omega
   ·rw[s2]at hid;rcases List.mem_cons.1 hid with hid | hid
    ·exact hS (hid▸hs)
    ·exact hS (cl e' he' hs _ hid)
  obtain⟨G2,j1,j2,j3,j4,j5⟩:=p.join h (σ2:=mergeS σ e.st ids) (hi:=base+e.i*k+k) hr2 hga R.hi (by rw[hlen];exact hroom) (mergeS_len _ _ _) (mergeS_env _ _ _)
   (fun id x hx=>by
    rw[hmob id σ]at hx;split at hx
    ·rename_i hc;left;refine⟨?_,hx⟩;rcases(hids id).1 hc.1 with h3 | h3
     ·exact .inl (R.ins id h3)
     ·exact .inr ((hin id).2 h3)
    ·rename_i hc;have hni:id∉ids:=fun hi=>hc ⟨hi,hidlt id hi⟩;have hns:¬(pt.hp.length≤id∧id<base+e.i*k+k):=fun hi=>hni ((hids id).2 (.inr ((hin id).1 hi)));cases hp:pt.ob id with
     | none=>exact .inr ⟨⟨rfl,hns⟩,hx⟩
     | some x' =>
      left;refine⟨.inl rfl,?_⟩;obtain⟨_,h3 | h3⟩:=R.ob id x' hp
      ·have:=(p.ob id x' hp).1;rw[this]at hx;obtain rfl:=Option.some.inj hx;exact h3.2.2.2
      ·exact absurd ((hids id).2 (.inl h3.1)) hni)
   (fun t x hx id hi hc=>by
    have hc:=(hin id).1 hc;by_cases ht:t∈ds
    ·by_cases hex:∃e'∈es,S e'.i∧e'.dst=some t
     ·obtain⟨e',he',hs',hd'⟩:=hex;have hq:=hSt.envS e' he' hs' t x hd' hx;rw[hq.2]at hi;exact notseg e' he' hs' id (hE.refsV e' he' id hi) hc
     ·rw[hSt.envU t ht fun e' he' hs' hd'=>hex ⟨e',he',hs',hd'⟩]at hx;have:=h0E t x hx id hi;have:=(seg_div hk hc).1;omega
    ·rw[hSt.env0 t ht]at hx;have:=h0E t x hx id hi;have:=(seg_div hk hc).1;omega)
   (fun id x hx i hi hc=>by
    have hc:=(hin i).1 hc;by_cases hex:∃e'∈es,S e'.i∧id∈e'.ins
    ·obtain⟨e',he',hs',hi'⟩:=hex;rw[hSt.obI e' he' hs' id hi']at hx;exact notseg e' he' hs' i (hE.refsO e' he' id (.inl hi') x hx i hi) hc
    ·rcases Nat.lt_or_ge id base with hb | hb
     ·rw[hSt.ob0 id hb fun e' he' hs' hi'=>hex ⟨e',he',hs',hi'⟩]at hx;have:=(h0O id x hx).2 i hi;have:=(seg_div hk hc).1;omega
     ·by_cases hex2:∃e'∈es,S e'.i∧seg base k e'.i id
      ·obtain⟨e',he',hs',hi'⟩:=hex2;rw[hSt.obS e' he' hs' id hi' fun e2 h2 hs2 hi2=>hex ⟨e2,h2,hs2,hi2⟩]at hx;exact notseg e' he' hs' i (hE.refsO e' he' id (.inr hi') x hx i hi) hc
      ·rw[hSt.obN id hb fun e' he' hs' hi'=>hex2 ⟨e',he',hs',hi'⟩]at hx;simp at hx)
  have kv:VA (Imm E G2 (mergeS σ e.st ids) w') (mergeS σ e.st ids).hp.length G2 w' e.v val:=by
   refine hva2.keep ⟨j4,fun _ _=>rfl,by rw[mergeS_len,hlen];exact Nat.le_trans R.hi hroom,fun id hi=>?_⟩ e.v
   have hlt:id<base+e.i*k+k:=Nat.lt_of_lt_of_le hi R.hi;rcases Nat.lt_or_ge id pt.hp.length with hl | hl
   ·rw[j3 id (by omega),hga id hl]
   ·rw[j2 id hlt (.inr hl)]
  have hput:∃ σ3,RelG E G2 σ3 (a.put o.dst val) w'∧σ3.hp = (mergeS σ e.st ids).hp∧σ3.env = match e.dst with
    | some d=>σ.env.set d e.v
    | none=>σ.env:=by
   rw[hdo];cases hd:o.dst with
   | none=>exact⟨_,j1,rfl,mergeS_env _ _ _⟩
   | some d=>exact⟨_,j1.put d kv (hF d hd),rfl,by simp only[mergeS_env]⟩
  obtain⟨σ3,r1,r2,r3⟩:=hput;refine hK σ3 _ w' G2 r1 (hSt.step hk hE hN cl he hS hpre hids (by rw[r2,mergeS_len]) (fun id=>?_) r3) ?_
  ·have:σ3.ob id=(mergeS σ e.st ids).ob id:=by unfold Sg.ob;rw[r2]
   rw[this,hmob id σ]
  ·have hi3:∀b,Imm E G2 (mergeS σ e.st ids) w' b→Imm E G2 σ3 w' b:=fun b hb=>⟨hb.1,hb.2.1,fun id o ho=>hb.2.2 id o (by unfold Sg.ob at ho ⊢;rw[←r2];exact ho)⟩
   refine⟨fun b hb=>hi3 b (j5 b hb).1,fun b hb=>(j5 b hb).2,Nat.le_refl _,fun id hi=>j3 id fun hc=>?_⟩;rw[R.lo]at hc;omega
 unfold Oper.wp;generalize (execOp a.eval o).run C.P w=x at hx;cases x with
 | ok n w' =>
  cases n<;>simp only at hx<;>first | exact hx.elim | skip
  ·obtain⟨G',h2,h3,h4⟩:=hx;exact fin h2 h3.g h4
  ·obtain⟨hv,G',h2,h3⟩:=hx;exact fin h2 h3.g (by rw[hv];trivial)
  ·rename_i g args;show Calls C.P g args w' _;refine Calls.mono hx fun ex w'' hex=>?_;obtain⟨val,rfl,G',h2,h3,h4⟩:=hex;exact fin h2 h3.g h4
 | halt ex w'=>exact hx.elim
theorem any_step (hC:Ctrs E.d C) (hk:0 < k) (h:RelG E G σ a w) (hSt:StS base k ds es S σ0 σ) (hE:Ents wr base k N ds es) (hN:σ0.hp.length = N) (cl:∀ e∈es,S e.i→∀ j∈e.an,S j) (he:e∈es) (hS:¬ S e.i) (hpre:∀ j∈e.an,S j)
  (ho:ops[e.i]? = some o) (hdo:e.dst=o.dst) (hF:∀t,o.dst=some t→¬E.F t) (haf:∀e'∈es,S e'.i→e'.i<m∧∃o',ops[e'.i]? = some o'∧e'.dst=o'.dst∧∀d∈o'.after.toList,Region.binds .any d=true→d.on∈e'.an) (h0E:∀(t:Nat) (x:A),σ0.env[t]? = some x→∀id∈x.refs,id<base) (h0O:∀id x,σ0.ob id=some x→id<base∧∀j∈x.refs,j<base) (F:Fact C ops th ds wr m base k σ0 es o e)
  (K:Act→World→Prop) (Q:Exit→Act→World→Prop) (hK:∀σ' a' w' G',RelG E G' σ' a' w'→StS base k ds es (fun i=>S i∨i=e.i) σ0 σ'→Keep (Imm E G σ w) (Imm E G' σ' w') base base G G' w w'→K a' w'):wpOp C.P ops Q e.i K a w:=by
 unfold wpOp;rw[ho];simp only;rcases F with⟨g,pt,v1,σ1,R⟩ | ⟨g,hv,hins,hst⟩
 ·rw[if_pos (g.wanted h hSt hpre)];exact .inl (run_step hC hk h hSt hE hN cl he hS hpre hdo hF haf h0E h0O R K Q hK)
 ·rw[if_neg (by rw[g.wanted h hSt hpre];simp)]
  have hput:∃ σ3,RelG E G σ3 (a.put o.dst undef) w∧σ3.hp = σ.hp∧σ3.env = match e.dst with
    | some d=>σ.env.set d e.v
    | none=>σ.env:=by
   rw[hdo];cases hd:o.dst with
   | none=>exact⟨_,h,rfl,rfl⟩
   | some d=>exact⟨_,h.put d (x:=e.v) (by rw[hv];exact rfl) (hF d hd),rfl,rfl⟩
  obtain⟨σ3,r1,r2,r3⟩:=hput;refine hK σ3 _ w G r1 (hSt.step hk hE hN cl he hS hpre (ids:=List.range' (base+e.i*k) k) (fun id=>?_) (by rw[r2]) (fun id=>?_) r3) ⟨fun b hb=>⟨hb.1,hb.2.1,fun id o ho=>hb.2.2 id o (by unfold Sg.ob at ho ⊢;rw[←r2];exact ho)⟩,fun _ _=>rfl,Nat.le_refl _,fun _ _=>rfl⟩
  ·rw[hins,←seg_iff];simp
  ·have:σ3.ob id=σ.ob id:=by unfold Sg.ob;rw[r2]
   rw[this];split
   ·rename_i hc;rw[hst];have hsg:=seg_iff.2 hc.1;refine hSt.obN id (seg_div hk hsg).1 fun e' he' hs' hsg'=>hS ?_;have:=(seg_div hk hsg).2;rw[(seg_div hk hsg').2]at this;rw[←this];exact hs'
   ·rfl
end
open Go
set_option linter.all false
theorem keepE_get (ls:List Nat):(l:List A)→(n t:Nat)→(keepE ls n l)[t]? = (l[t]?).map fun x=>if ls.contains (n+t)then x else .l .unk
 | [],n,t=>by simp[keepE]
 | x::l,n,0=>by simp[keepE]
 | x::l,n,t+1=>by
  simp only[keepE,List.getElem?_cons_succ];rw[keepE_get ls l (n+1) t,show n+1+t=n+(t+1)from by omega]
theorem keepE_len (ls:List Nat):(l:List A)→(n:Nat)→(keepE ls n l).length=l.length
 | [],_=>rfl
 | x::l,n=>by simp[keepE,keepE_len ls l]
theorem keepH_get (R:Bool)(wr ins:List Nat)(base:Nat):(l:List (Option Ob))→(n t:Nat)→(keepH R wr ins base n l)[t]? = (l[t]?).map fun o=>keepO R wr ins base (n+t) o
 | [],n,t=>by simp[keepH]
 | x::l,n,0=>by simp[keepH]
 | x::l,n,t+1=>by
  simp only[keepH,List.getElem?_cons_succ];rw[keepH_get R wr ins base l (n+1) t,show n+1+t=n+(t+1)from by omega]
theorem keepH_len (R:Bool)(wr ins:List Nat)(base:Nat):(l:List (Option Ob))→(n:Nat)→(keepH R wr ins base n l).length=l.length
 | [],_=>rfl
 | x::l,n=>by simp[keepH,keepH_len R wr ins base l]
theorem partS_ob {σ:Sg} {ls wr ins:List Nat} {R:Bool} {base lo id:Nat} {x:Ob} (h:(partS σ ls R wr ins base lo).ob id = some x) :
  σ.ob id=some x∧id<lo∧((id<base∧id∉wr∧(R=true∨x.ro=true))∨id∈ins):=by
 unfold Sg.ob partS at h;simp only[List.getElem?_take]at h;split at h
 ·rename_i hlt;rw[keepH_get,Nat.zero_add]at h;unfold Sg.ob;cases hg:σ.hp[id]? with
  | none=>rw[hg]at h;simp at h
  | some o =>
   rw[hg]at h;simp only[Option.map_some,Option.join_some]at h ⊢;unfold keepO at h;split at h
   ·rename_i hi;exact⟨h,hlt,.inr (by simpa using hi)⟩
   ·split at h
    ·simp at h
    ·rename_i hw;have hw:id∉wr:=by simpa using hw
     split at h
     ·rename_i hb;cases R with
      | true=>simp only at h;exact⟨h,hlt,.inl ⟨hb,hw,.inl rfl⟩⟩
      | false =>
       simp only at h;split at h
       ·rename_i o';split at h
        ·rename_i hr;obtain rfl:=Option.some.inj h;exact⟨rfl,hlt,.inl ⟨hb,hw,.inr hr⟩⟩
        ·simp at h
       ·simp at h
     ·simp at h
 ·simp at h
theorem segOk_iff {base k id an i:Nat}{al:List Nat}(hal:∀x,an.testBit x=true→x∈al)(h:segOk base k an i id=true):id<base∨(base≤id∧(id-base) / k∈i::al):=by
 unfold segOk at h;simp only[Bool.or_eq_true,decide_eq_true_eq,beq_iff_eq]at h;rcases Nat.lt_or_ge id base with h1 | h1
 ·exact .inl h1
 ·rcases h with(h | h) | h
  ·omega
  ·exact .inr ⟨h1,by rw[h];simp⟩
  ·exact .inr ⟨h1,List.mem_cons_of_mem _ (hal _ h)⟩
theorem wrOk_some {ops:Array Oper}{m i t:Nat}(h:wrOk ops m i t=true):∀j o',j<m→ops[j]? = some o'→o'.dst=some t→j=i∨∃d∈o'.after.toList,Region.binds .any d=true∧d.on=i:=fun j o' hj ho hd=>by
 have:=List.all_eq_true.1 h j (List.mem_range.2 hj);rw[ho]at this;simp only[hd,Bool.or_eq_true,Bool.not_eq_true',beq_iff_eq,List.any_eq_true,Bool.and_eq_true]at this;rcases this with(h1 | h1) | h1
 ·simp at h1
 ·exact .inl h1
 ·obtain⟨d,h2,h3,h4⟩:=h1;exact .inr ⟨d,h2,h3,h4⟩
theorem ancsL_bit (ancL:List Nat):(l:List Edge)→(x:Nat)→((ancsL ancL l).testBit x=true↔∃d∈l,Region.binds .any d=true∧(d.on=x∨((ancL[d.on]?).getD 0).testBit x=true))
 | [],x=>by simp[ancsL]
 | e::r,x=>by
  simp only[ancsL,Nat.testBit_or,Bool.or_eq_true,List.mem_cons,exists_eq_or_imp];rw[ancsL_bit ancL r x];refine or_congr ?_ Iff.rfl;cases hb:Region.binds .any e with
  | false=>simp
  | true=>simp[Nat.testBit_or,Nat.testBit_two_pow]
structure PI (C:Ctx) (ops:Array Oper) (th ds wr:List Nat) (m base k N:Nat) (σ0:Sg) (ancL:List Nat) (used:List Nat) (es:List Ent) (σ:Sg):Prop where
 idx:∀(j:Nat) (e:Ent),es[j]? = some e→e.i=j
 opd:∀e∈es,∃o,ops[e.i]? = some o∧e.dst=o.dst∧Fact C ops th ds wr m base k σ0 es o e∧(∀d∈o.after.toList,Region.binds .any d=true→d.on∈e.an)∧(∀j∈e.an,∃d∈o.after.toList,Region.binds .any d=true∧(d.on=j∨∃e'∈es,e'.i=d.on∧j∈e'.an))
 E:Ents wr base k N ds es
 St:StS base k ds es (·<es.length) σ0 σ
 alen:ancL.length=es.length
 anc:∀(j:Nat) (e:Ent),es[j]? = some e→∀x,x∈e.an↔((ancL[j]?).getD 0).testBit x=true
 used:∀e∈es,∀id∈e.ins,id∈used
section
variable {ρ:Type}{C:Ctx}{σ0 σ:Sg}{ops:Array Oper}{th ds wr:List Nat}{m base k N:Nat}{es:List Ent}{o:Oper}{e:Ent}{ancL:List Nat}{used:List Nat}
theorem PI.lt (h:PI C ops th ds wr m base k N σ0 ancL used es σ){e:Ent}(he:e∈es):e.i<es.length∧es[e.i]? = some e:=by
 obtain⟨j,hj,rfl⟩:=List.getElem_of_mem he;have:=h.idx j _ (List.getElem?_eq_getElem hj);rw[this];exact⟨hj,List.getElem?_eq_getElem hj⟩
theorem ancs_some (h:PI C ops th ds wr m base k N σ0 ancL used es σ){j:Nat}(hj:(ancs ancL o).testBit j=true):∃d∈o.after.toList,Region.binds .any d=true∧(d.on=j∨∃e'∈es,e'.i=d.on∧j∈e'.an):=by
 obtain⟨d,hd,hb,hx⟩:=(ancsL_bit ancL _ j).1 hj;refine⟨d,hd,hb,hx.imp_right fun hx=>?_⟩;cases hg:es[d.on]? with
 | none =>
  have:ancL[d.on]? = none:=List.getElem?_eq_none (by have:=List.getElem?_eq_none_iff.1 hg;rw[h.alen];exact this)
  rw[this]at hx;simp at hx
 | some e'=>exact⟨e',List.mem_of_getElem? hg,h.idx _ _ hg,(h.anc _ _ hg j).2 hx⟩
theorem PI.push (hk:0 < k) (h:PI C ops th ds wr m base k N σ0 ancL used es σ) (hN:σ0.hp.length = N) (ho:ops[es.length]? = some o) (hafter:∀ d∈o.after.toList,Region.binds .any d = true→d.on < es.length) (hi:e.i = es.length) (hd:e.dst = o.dst) (han:∀ x,x∈e.an↔(ancs ancL o).testBit x = true)
  (F:Fact C ops th ds wr m base k σ0 es o e) (hdd:∀e'∈es,∀t,e'.dst=some t→e.dst≠some t) (hdm:∀t,e.dst=some t→t∈ds)
  (hinsA:∀id∈e.ins,id<N∧(id<base∨base≤id∧(id-base) / k∈e.an)) (hinsW:∀id∈e.ins,id<base→id∈wr) (hinsU:∀id∈e.ins,id∉used)
  (hrV:∀id∈e.v.refs,id<base∨(base≤id∧(id-base) / k∈e.i::e.an))
  (hrO:∀id,(id∈e.ins∨seg base k e.i id)→∀o,e.st.ob id=some o→∀j∈o.refs,j<base∨(base≤j∧(j-base) / k∈e.i::e.an))
  (hroom:base+(e.i+1)*k≤N) {σ2:Sg} {ids:List Nat} (hids:∀id,id∈ids↔(id∈e.ins∨seg base k e.i id)) (hσ2:σ2.hp.length=σ.hp.length)
  (hob:∀id,σ2.ob id=if id∈ids∧id<σ.hp.length then e.st.ob id else σ.ob id) (henv:σ2.env=match e.dst with
   | some d=>σ.env.set d e.v
   | none=>σ.env) {used':List Nat} (hu:∀id,(id∈used∨id∈e.ins)→id∈used'):PI C ops th ds wr m base k N σ0 (ancL++[ancs ancL o]) used' (es++[e]) σ2:=by
 have hsub:∀e'∈es,e'∈es++[e]:=fun e' he'=>List.mem_append_left _ he';have hmem:∀e'∈es++[e],e'∈es∨e'=e:=fun e' he'=>by simpa using he'
 have hne:∀e'∈es,e'.i≠e.i:=fun e' he' hc=>by have:=(h.lt he').1;omega
 have hanl:∀j∈e.an,j<e.i:=fun j hj=>by
  rw[han]at hj;obtain⟨d,hd,hb,hx⟩:=ancs_some (o:=o) h hj;have h1:=hafter d hd hb;rcases hx with hx | ⟨e',he',h2,h3⟩
  ·omega
  ·have:=h.E.anlt e' he' j h3;omega
 have hE:Ents wr base k N ds (es++[e]) :=
  {uniq:=fun e1 h1 e2 h2 h12=>by
    rcases hmem e1 h1 with k1 | k1<;>rcases hmem e2 h2 with k2 | k2
    ·exact h.E.uniq e1 k1 e2 k2 h12
    ·rw[k2]at h12;exact absurd h12 (hne e1 k1)
    ·rw[k1]at h12;exact absurd h12.symm (hne e2 k2)
    ·rw[k1,k2]
   dsts:=fun e1 h1 e2 h2 t d1 d2=>by
    rcases hmem e1 h1 with k1 | k1<;>rcases hmem e2 h2 with k2 | k2
    ·exact h.E.dsts e1 k1 e2 k2 t d1 d2
    ·rw[k2]at d2;exact absurd d2 (hdd e1 k1 t d1)
    ·rw[k1]at d1;exact absurd d1 (hdd e2 k2 t d2)
    ·rw[k1,k2]
   dsm:=fun e1 h1=>by
    rcases hmem e1 h1 with h1 | rfl
    ·exact h.E.dsm e1 h1
    ·exact hdm
   insA:=fun e1 h1=>by
    rcases hmem e1 h1 with h1 | rfl
    ·exact h.E.insA e1 h1
    ·exact hinsA
   insW:=fun e1 h1=>by
    rcases hmem e1 h1 with h1 | rfl
    ·exact h.E.insW e1 h1
    ·exact hinsW
   insD:=fun e1 h1 e2 h2 h12 id hid hid2=>by
    rcases hmem e1 h1 with k1 | k1<;>rcases hmem e2 h2 with k2 | k2
    ·exact h.E.insD e1 k1 e2 k2 h12 id hid hid2
    ·rw[k2]at hid2;exact hinsU id hid2 (h.used e1 k1 id hid)
    ·rw[k1]at hid;exact hinsU id hid (h.used e2 k2 id hid2)
    ·rw[k1,k2]at h12;exact absurd rfl h12
   anlt:=fun e1 h1=>by
    rcases hmem e1 h1 with h1 | rfl
    ·exact h.E.anlt e1 h1
    ·exact hanl
   anE:=fun e1 h1 j hj=>by
    rcases hmem e1 h1 with h1 | rfl
    ·obtain⟨e',he',h3⟩:=h.E.anE e1 h1 j hj;exact⟨e',hsub e' he',h3⟩
    ·have hlt:j<es.length:=by have:=hanl j hj;omega
     exact⟨es[j],hsub _ (List.getElem_mem hlt),h.idx j _ (List.getElem?_eq_getElem hlt)⟩
   refsV:=fun e1 h1=>by
    rcases hmem e1 h1 with h1 | rfl
    ·exact h.E.refsV e1 h1
    ·exact hrV
   refsO:=fun e1 h1=>by
    rcases hmem e1 h1 with h1 | rfl
    ·exact h.E.refsO e1 h1
    ·exact hrO
   room:=fun e1 h1=>by
    rcases hmem e1 h1 with h1 | rfl
    ·exact h.E.room e1 h1
    ·exact hroom }
 have hSt0:StS base k ds (es++[e]) (·<es.length) σ0 σ :=
  {h.St with
   envS:=fun e1 h1 hs=>by
    rcases hmem e1 h1 with h1 | rfl
    ·exact h.St.envS e1 h1 hs
    ·omega
   envU:=fun t ht hn=>h.St.envU t ht (fun e1 h1 hs=>hn e1 (hsub e1 h1) hs)
   ob0:=fun id hid hn=>h.St.ob0 id hid fun e1 h1 hs=>hn e1 (hsub e1 h1) hs
   obI:=fun e1 h1 hs=>by
    rcases hmem e1 h1 with h1 | rfl
    ·exact h.St.obI e1 h1 hs
    ·omega
   obS:=fun e1 h1 hs id hi hn=>by
    rcases hmem e1 h1 with h1 | rfl
    ·exact h.St.obS e1 h1 hs id hi fun e2 h2 hs2=>hn e2 (hsub e2 h2) hs2
    ·omega
   obN:=fun id hid hn=>h.St.obN id hid fun e1 h1 hs=>hn e1 (hsub e1 h1) hs }
 have hSt1:=hSt0.step hk hE hN (fun e1 h1 hs j hj=>by
  have h2:=hE.anlt e1 h1 j hj;omega) (e:=e) (by simp) (by omega) (fun j hj=>by have:=hanl j hj;omega) hids hσ2 hob henv
 have hSt2:StS base k ds (es++[e]) (·<(es++[e]).length) σ0 σ2:=by
  have:(fun i=>i<(es++[e]).length)=fun i=>i<es.length∨i=e.i:=by
   funext i;simp only[List.length_append,List.length_singleton];exact propext ⟨fun h=>by omega,fun h=>by omega⟩
  rw[this];exact hSt1
 exact
 {idx:=fun j e1 hj=>by
   rcases Nat.lt_or_ge j es.length with hl | hl
   ·rw[List.getElem?_append_left hl]at hj;exact h.idx j e1 hj
   ·rw[List.getElem?_append_right hl]at hj;have:j-es.length=0:=by
     rcases Nat.eq_zero_or_pos (j-es.length)with h0 | h0
     ·exact h0
     ·rw[List.getElem?_eq_none (by simp;omega)]at hj;simp at hj
    rw[this]at hj;simp at hj;subst hj;omega
  opd:=fun e1 h1=>by
   rcases hmem e1 h1 with h1 | rfl
   ·obtain⟨o1,k1,k2,k3,k5,k4⟩:=h.opd e1 h1;refine⟨o1,k1,k2,k3.mono hsub,k5,fun j hj=>?_⟩;obtain⟨d,hd,hb,hx⟩:=k4 j hj;exact⟨d,hd,hb,hx.imp_right fun⟨e',he',hx⟩=>⟨e',hsub e' he',hx⟩⟩
   ·refine⟨o,by rw[hi];exact ho,hd,F.mono hsub,fun d hd hb=>(han _).2 ((ancsL_bit _ _ _).2 ⟨d,hd,hb,.inl rfl⟩),fun j hj=>?_⟩
    rw[han]at hj;obtain⟨d,hd,hb,hx⟩:=ancs_some h hj;exact⟨d,hd,hb,hx.imp_right fun⟨e',he',hx⟩=>⟨e',hsub e' he',hx⟩⟩
  E:=hE
  St:=hSt2
  alen:=by simp[h.alen]
  anc:=fun j e1 hj=>by
   rcases Nat.lt_or_ge j es.length with hl | hl
   ·rw[List.getElem?_append_left hl]at hj;rw[List.getElem?_append_left (by rw[h.alen];exact hl)];exact h.anc j e1 hj
   ·rw[List.getElem?_append_right hl]at hj;have h0:j-es.length=0:=by
     rcases Nat.eq_zero_or_pos (j-es.length)with h0 | h0
     ·exact h0
     ·rw[List.getElem?_eq_none (by simp;omega)]at hj;simp at hj
    rw[h0]at hj;simp at hj;subst hj;rw[List.getElem?_append_right (by rw[h.alen];exact hl),h.alen,h0]
    simpa using han
  used:=fun e1 h1 id hid=>by
   rcases hmem e1 h1 with h1 | rfl
   ·exact hu id (.inl (h.used e1 h1 id hid))
   ·exact hu id (.inr hid) }
theorem PI.refine (h:PI C ops th ds wr m base k N σ0 ancL used es σ){d:Nat}{x y:A}(hx:σ.env[d]? = some x)(hq:Eqv x y)(hd:∃e∈es,e.dst=some d):PI C ops th ds wr m base k N σ0 ancL used es { σ with env:=σ.env.set d y }:=by
 have hget:∀t z,(σ.env.set d y)[t]? = some z→(t=d∧z=y)∨(t≠d∧σ.env[t]? = some z):=fun t z hz=>by
  rw[List.getElem?_set]at hz;split at hz
  ·rename_i hc;split at hz
   ·exact .inl ⟨hc.symm,(Option.some.inj hz).symm⟩
   ·simp at hz
  ·rename_i hc;exact .inr ⟨fun e=>hc e.symm,hz⟩
 obtain⟨e0,he0,hd0⟩:=hd;refine{ h with St:={ h.St with len:=by simp[h.St.len],env0:=fun t ht=>?_,envS:=fun e he hs t z hdt hz=>?_,envU:=fun t ht hn=>?_ } }
 ·have:d≠t:=fun hc=>ht (hc▸h.E.dsm e0 he0 d hd0);show(σ.env.set d y)[t]? = _;rw[List.getElem?_set,if_neg this];exact h.St.env0 t ht
 ·rcases hget t z hz with⟨rfl,rfl⟩ | ⟨_,hz⟩
  ·exact hq.symm.trans (h.St.envS e he hs t x hdt hx)
  ·exact h.St.envS e he hs t z hdt hz
 ·have:d≠t:=fun hc=>hn e0 he0 (h.lt he0).1 (hc▸hd0);show(σ.env.set d y)[t]? = _;rw[List.getElem?_set,if_neg this];exact h.St.envU t ht hn
theorem getA_tmp {σ:Sg}{t:Nat}:getA σ (.tmp t)=(σ.env[t]?).getD (.l .unk):=by simp[getA,List.getD_eq_getElem?_getD]
theorem plan (hI:KpI C) (hNI:NatI C) (hk:0 < k) {K:Sg→Option ρ} {r:ρ} (hN:σ0.hp.length = N):(rest:List Oper)→(i:Nat)→(ancL:List Nat)→(used:List Nat)→(σ:Sg)→(es:List Ent)→es.length = i→PI C ops th ds wr m base k N σ0 ancL used es σ →
  (∀j o,rest[j]? = some o→ops[i+j]? = some o)→(∀j o,rest[j]? = some o→∀d∈o.after.toList,Region.binds .any d=true→d.on<i+j)→base+(i+rest.length)*k≤N→i+rest.length≤m →
  (∀e∈es,∀t,e.dst=some t→∀o∈rest,o.dst≠some t)→(rest.filterMap (·.dst)).Nodup→(∀o∈rest,∀t,o.dst=some t→t∈ds) →
  (∀e∈es,∀o,ops[e.i]? = some o→e.dst=o.dst) →
  drawK C ops th ds wr m base k i rest ancL used σ K=some r→∃es' ancL' used' σ',PI C ops th ds wr m base k N σ0 ancL' used' es' σ'∧es'.length=i+rest.length∧K σ'=some r
 | [],i,ancL,used,σ,es,hl,h,_,_,_,_,_,_,_,_,hr=>⟨es,ancL,used,σ,h,by simpa using hl,by simpa only[drawK]using hr⟩
 | o::rest,i,ancL,used,σ,es,hl,h,hops,haft,hroom,hmm,hdd,hnd,hdm,hds,hr=>by
  have ho:ops[es.length]? = some o:=by rw[hl];have:=hops 0 o rfl;simpa using this
  have hafter:∀d∈o.after.toList,Region.binds .any d=true→d.on<es.length:=fun d hd hb=>by rw[hl];have:=haft 0 o rfl d hd hb;simpa using this
  have hroom1:base+(i+1)*k≤N:=by
   refine Nat.le_trans ?_ hroom;have:(i+1)*k≤(i+(rest.length+1))*k:=Nat.mul_le_mul_right _ (by omega)
   simpa using Nat.add_le_add_left this base
  have hlenN:σ.hp.length=N:=h.St.n.trans hN;have next:∀ {σ:Sg} (e:Ent) (σ2:Sg) (used':List Nat),PI C ops th ds wr m base k N σ0 (ancL ++ [ancs ancL o]) used' (es ++ [e]) σ2→e.i = i→e.dst = o.dst→drawK C ops th ds wr m base k (i + 1) rest (ancL ++ [ancs ancL o]) used' σ2 K = some r →
    ∃es' ancL' used' σ',PI C ops th ds wr m base k N σ0 ancL' used' es' σ'∧es'.length=i+(o::rest).length∧K σ'=some r:=fun e σ2 used' hp hei hed hr=>by
   obtain⟨es',a',u',σ',k1,k2,k3⟩:=plan hI hNI hk hN rest (i+1) _ used' σ2 (es++[e]) (by simp[hl]) hp
    (fun j o' hj=>by have:=hops (j+1) o' (by simpa using hj);rwa [show i+(j+1)=i+1+j from by omega]at this)
    (fun j o' hj d hd hb=>by have:=haft (j+1) o' (by simpa using hj) d hd hb;omega)
    (by rw[show i+1+rest.length=i+(rest.length+1)from by omega];simpa using hroom)
    (by simp at hmm;omega)
    (fun e' he' t ht o' ho'=>by
     rcases List.mem_append.1 he' with he' | he'
     ·exact hdd e' he' t ht o' (List.mem_cons_of_mem _ ho')
     ·simp at he';subst he';rw[hed]at ht;rw[List.filterMap_cons,ht]at hnd;intro hc;exact(List.nodup_cons.1 hnd).1 (List.mem_filterMap.2 ⟨o',ho',hc⟩))
    (by
     rw[List.filterMap_cons]at hnd;cases hd:o.dst with
     | none=>rw[hd]at hnd;exact hnd
     | some t=>rw[hd]at hnd;exact(List.nodup_cons.1 hnd).2)
    (fun o' ho'=>hdm o' (List.mem_cons_of_mem _ ho'))
    (fun e' he' o' ho'=>by
     rcases List.mem_append.1 he' with he' | he'
     ·exact hds e' he' o' ho'
     ·simp at he';subst he';rw[hei,←hl,ho]at ho';obtain rfl:=Option.some.inj ho';exact hed)
    hr
   exact⟨es',a',u',σ',k1,by rw[k2];simp;omega,k3⟩
  have hddo:∀e'∈es,∀t,e'.dst=some t→o.dst≠some t:=fun e' he' t ht=>hdd e' he' t ht o (by simp)
  have putOf:∀ {σ:Sg} {v:A} {K':Sg→Option ρ},putK σ o.dst v K' = some r→∃ σ3,K' σ3 = some r∧σ3.hp = σ.hp∧σ3.env = match o.dst with
    | some d=>σ.env.set d v
    | none=>σ.env:=fun{σ v K'} hp=>by
   cases hd:o.dst with
   | none=>rw[hd]at hp;exact⟨σ,hp,rfl,rfl⟩
   | some d=>rw[hd]at hp;simp only[putK,setK_eq]at hp;exact⟨_,hp,rfl,rfl⟩
  let al:=(List.range es.length).filter fun x=>(ancs ancL o).testBit x
  have hal:∀x,x∈al↔(ancs ancL o).testBit x=true:=fun x=>by
   simp only[al,List.mem_filter,List.mem_range];refine⟨fun hx=>hx.2,fun hx=>⟨?_,hx⟩⟩;obtain⟨d,hd,hb,hx⟩:=ancs_some h hx;have h1:=hafter d hd hb;rcases hx with hx | ⟨e',he',h2,h3⟩
   ·omega
   ·have:=h.E.anlt e' he' x h3;omega
  have run:∀ σ:Sg,PI C ops th ds wr m base k N σ0 ancL used es σ→(∀ e:Ent,e.an = al→GuardF ops σ0.env.length es o e true) →
    (let ls:=looks ops o
     let an:=ancs ancL o
     let lo:=base+i*k
     let ins:=if passing o.op then []else(ls.flatMap fun t=>(getA σ (.tmp t)).refs).eraseDups.filter (fun id=>decide (base≤id)||wr.contains id)
     let pt:=partS σ ls (isR C (partS σ ls false [] [] 0 0) o.op) wr ins base lo
     match (ls.all fun t=>!ds.contains t || (o.after.toList.any fun e=>Region.binds .any e && ((ops[e.on]?).bind (·.dst) == some t)) || wrOk ops m i t) &&
       (ls.all fun t=>(getA σ (.tmp t)).refs.all (·<lo))&&(pt.hp.all fun x=>match x with
        | some x=>x.refs.all (·<lo)
        | none=>true)&&(ins.all fun id=>(decide (id<base)||an.testBit ((id-base) / k))&&!used.contains id&&(pt.ob id).isSome)with
     | true=>opK C pt o.op fun v σ1 =>
      let v':=if th.contains i then thawA σ1 v else v
      let σ2:=if th.contains i then frzA σ1 v else σ1
      let ids:=ins++List.range' lo k
      match decide (σ2.hp.length≤lo + k) && (!th.contains i || v.refs.all ids.contains) && (v'.refs.all (segOk base k an i)) && (ids.all fun id=>match σ2.ob id with
        | some x=>x.refs.all (segOk base k an i)
        | none=>true)with
      | true=>putK (mergeS σ σ2 ids) o.dst v' (drawK C ops th ds wr m base k (i+1) rest (ancL++[an]) (ins++used) · K)
      | false=>none
     | false=>none)=some r→∃es' ancL' used' σ',PI C ops th ds wr m base k N σ0 ancL' used' es' σ'∧es'.length=i+(o::rest).length∧K σ'=some r:=by
   intro σ h hg hr;have hlenN:σ.hp.length=N:=h.St.n.trans hN;simp only at hr;split at hr
   ·rename_i hchk;simp only[Bool.and_eq_true,List.all_eq_true,Bool.or_eq_true,Bool.not_eq_true',List.any_eq_true,decide_eq_true_eq,beq_iff_eq]at hchk;obtain⟨⟨⟨c1,c2⟩,c3⟩,c4⟩:=hchk;generalize hls:looks ops o=ls at *;generalize han:ancs ancL o=an at *;have hal':∀x,an.testBit x=true→x∈al:=fun x hx=>(hal x).2 hx;generalize hins:(if passing o.op=true then []else((ls.flatMap fun t=>(getA σ (.tmp t)).refs).eraseDups.filter (fun id=>decide (base≤id)||wr.contains id)))=ins at *;have hinsB:∀id∈ins,id<base→id∈wr:=fun id hid hb=>by
     rw[←hins]at hid;split at hid
     ·simp at hid
     ·have:=(List.mem_filter.1 hid).2;simp only[Bool.or_eq_true,decide_eq_true_eq]at this;rcases this with h1 | h1
      ·omega
      ·simpa using h1
    generalize hR:isR C (partS σ ls false [] [] 0 0) o.op=R at *;generalize hpt:partS σ ls R wr ins base (base+i*k)=pt at *;rw[opK_nat hNI]at hr;obtain⟨⟨v1,σ1⟩,hop,hr⟩:=Option.bind_eq_some_iff.1 hr;simp only at hr;generalize hv':(if th.contains i=true then thawA σ1 v1 else v1)=v' at hr;generalize hst:(if th.contains i=true then frzA σ1 v1 else σ1)=st at hr;split at hr
    ·rename_i hchk2;simp only[Bool.and_eq_true,List.all_eq_true,Bool.or_eq_true,Bool.not_eq_true',decide_eq_true_eq]at hchk2;obtain⟨⟨⟨d1,d2⟩,d3⟩,d4⟩:=hchk2;let e:Ent:=⟨i,o.dst,v',st,ins,al⟩
     obtain⟨σ3,hr3,hhp3,henv3⟩:=putOf hr;have hloN:base+i*k≤σ.hp.length:=by
      rw[hlenN];refine Nat.le_trans ?_ hroom1;rw[Nat.add_mul,Nat.one_mul];omega
     have hptlen:pt.hp.length=base+i*k:=by
      rw[←hpt];simp only[partS,List.length_take,keepH_len];omega
     have hptenv:pt.env=keepE ls 0 σ.env:=by rw[←hpt];rfl
     have hob:∀id x,pt.ob id=some x→σ.ob id=some x∧id<base+i*k∧((id<base∧id∉wr∧(R=true∨x.ro=true))∨id∈ins):=fun id x hx=>by
      rw[←hpt]at hx;exact partS_ob hx
     have hkeepL:∀id x,id<base→id∉wr→pt.ob id=some x→σ1.ob id=some x:=fun id x hb hw hx=>by
      obtain⟨_,_,h3 | h3⟩:=hob id x hx
      ·rcases h3.2.2 with h4 | h4
       ·subst h4;exact opK_R (C:=C) (by rw[isR_env (σ':=partS σ ls false [] [] 0 0) (by rw[hptenv];rfl)];exact hR) hop id x hx
       ·exact(opK_kp hI hop).ob id x hx h4
      ·exact absurd (hinsB id h3 hb) hw
     have hidsOf:∀id,id∈ins++List.range' (base+i*k) k↔(id∈e.ins∨seg base k e.i id):=fun id=>by rw[List.mem_append,seg_iff]
     have R':RunF C ops th ds wr m base k σ0 es o e pt v1 σ1 :=
      {op:=hop
       v:=hv'.symm
       st:=hst.symm
       lo:=hptlen
       hi:=d1
       elen:=by rw[hptenv,keepE_len];exact h.St.len
       env:=fun t x hx=>by
        rw[hptenv,keepE_get,Nat.zero_add]at hx;cases hg:σ.env[t]? with
        | none=>rw[hg]at hx;simp at hx
        | some y =>
         rw[hg]at hx;simp only[Option.map_some,Option.some.injEq]at hx;split at hx
         ·rename_i hc;subst hx;have hm:t∈ls:=by simpa using hc
          have hgt:getA σ (.tmp t)=y:=by rw[getA_tmp,hg];rfl
          refine .inr ⟨fun id hid=>by have:=c2 t hm id (by rw[hgt];exact hid);simpa using this,?_⟩
          by_cases ht:t∈ds
          ·rcases c1 t hm with(hc1 | ⟨d,hd,hb,hdst⟩) | hc1
           ·have:ds.contains t=true:=by simpa using ht
            rw[this]at hc1;simp at hc1
           ·have hlt:=hafter d hd hb;have he':=List.getElem_mem hlt;have hi':=h.idx d.on _ (List.getElem?_eq_getElem hlt);have hdst':es[d.on].dst=some t:=by
             obtain⟨o',k1,k2,_⟩:=h.opd _ he';rw[hi']at k1;rw[k1]at hdst;rw[k2];simpa using hdst
            refine .inr ⟨es[d.on],he',?_,hdst',h.St.envS _ he' (by rw[hi'];exact hlt) t y hdst' hg⟩
            show _∈al;rw[hi',hal,←han];exact(ancsL_bit _ _ _).2 ⟨d,hd,hb,.inl rfl⟩
           ·have hw:=wrOk_some hc1;refine .inl ⟨.inr ⟨ht,hw⟩,?_⟩;rw[←h.St.envU t ht fun e' he' hs' hd'=>?_]
            ·exact hg
            ·have hlt':=(h.lt he').1;obtain⟨o',k1,k2,_,k5,_⟩:=h.opd e' he';rcases hw e'.i o' (by have hm':i+(o::rest).length≤m:=hmm;rw[List.length_cons]at hm';omega) k1 (by rw[←k2];exact hd')with h5 | ⟨d,h5,h6,h7⟩
             ·omega
             ·have:=h.E.anlt e' he' _ (k5 d h5 h6);omega
          ·exact .inl ⟨.inl ht,by rw[←h.St.env0 t ht];exact hg⟩
         ·exact .inl hx.symm
       ob:=fun id x hx=>by
        obtain⟨h1,h2,h3⟩:=hob id x hx;refine⟨fun j hj=>?_,?_⟩
        ·have hm:some x∈pt.hp:=by
          unfold Sg.ob at hx;cases hg:pt.hp[id]? with
          | none=>rw[hg]at hx;simp at hx
          | some y=>rw[hg]at hx;simp only[Option.join_some]at hx;subst hx;exact List.mem_of_getElem? hg
         have:=c3 _ hm;simp only[List.all_eq_true,decide_eq_true_eq]at this;exact this j hj
        ·rcases h3 with⟨h3,hw,_⟩ | h4
         ·refine .inl ⟨h3,hw,by rw[←h.St.ob0 id h3 fun e' he' _ hi=>hw (h.E.insW e' he' id hi h3)];exact h1,?_⟩
          show st.ob id=some x;have h5:=hkeepL id x h3 hw hx;rw[←hst];split
          ·rename_i ht;rw[frzA_ob,if_neg]
           ·exact h5
           ·intro hc;rcases d2 with d2 | d2
            ·rw[ht]at d2;simp at d2
            ·have:=d2 id hc;have:id∈ins++List.range' (base+i*k) k:=by simpa using this
             rcases List.mem_append.1 this with h6 | h6
             ·exact hw (hinsB id h6 h3)
             ·have:=(mem_seg.1 h6).1;omega
          ·exact h5
         ·refine .inr ⟨h4,?_⟩;obtain⟨⟨h5,h6⟩,_⟩:=c4 id h4;have h6:id∉used:=by simpa using h6
          rcases Nat.lt_or_ge id base with h3 | h3
          ·exact .inl ⟨h3,by rw[←h.St.ob0 id h3 fun e' he' _ hi=>h6 (h.used e' he' id hi)];exact h1⟩
          right;have h5:an.testBit ((id-base) / k)=true:=h5.resolve_left (by omega)
          have h7:=h5;rw[←han]at h7;obtain⟨dd,hdd2,hdb,hx7⟩:=ancs_some h h7;have h5:(id-base) / k∈al:=hal' _ h5;have hlt:(id-base) / k<es.length:=by
           have:=hafter dd hdd2 hdb;rcases hx7 with hx7 | ⟨e',he',k1,k2⟩
           ·omega
           ·have:=h.E.anlt e' he' _ k2;have:=(h.lt he').1;omega
          have he':=List.getElem_mem hlt;have hi':=h.idx _ _ (List.getElem?_eq_getElem hlt);have hsg:seg base k es[(id-base) / k].i id:=div_seg hk h3 hi'.symm;refine⟨es[(id-base) / k],he',by rw[hi'];exact h5,hsg,?_⟩
          rw[←h.St.obS _ he' (by rw[hi'];exact hlt) id hsg fun e2 he2 _ hi2=>h6 (h.used e2 he2 id hi2)]
          exact h1
       ins:=fun id hid=>(c4 id hid).2 }
     have hp:=h.push (e:=e) (used':=ins++used) (σ2:=σ3) (ids:=ins++List.range' (base+i*k) k) hk hN ho hafter hl.symm rfl (by rw[han];exact hal) (.inl ⟨hg e rfl,pt,v1,σ1,R'⟩) (fun e' he' t ht=>hddo e' he' t ht)
      (fun t ht=>hdm o (by simp) t ht)
      (fun id hid=>by
       obtain⟨⟨h5,h6⟩,h7⟩:=c4 id hid;obtain⟨x,hx⟩:=Option.isSome_iff_exists.1 h7;have:=(hob id x hx).2.1;refine⟨by rw[←hlenN];omega,?_⟩
       rcases Nat.lt_or_ge id base with hb | hb
       ·exact .inl hb
       ·exact .inr ⟨hb,hal' _ (h5.resolve_left (by omega))⟩)
      (fun id hid=>hinsB id hid)
      (fun id hid=>by
       obtain⟨⟨h5,h6⟩,h7⟩:=c4 id hid;simpa using h6)
      (fun id hid=>segOk_iff hal' (d3 id hid))
      (fun id hid x hx j hj=>by
       have:=d4 id ((hidsOf id).2 hid);have hx:st.ob id=some x:=hx;rw[hx]at this;simp only[List.all_eq_true]at this;exact segOk_iff hal' (this j hj))
      (by show base+(i+1)*k≤N;exact hroom1) hidsOf (by rw[hhp3,mergeS_len])
      (fun id=>by
       have:σ3.ob id=(mergeS σ st (ins++List.range' (base+i*k) k)).ob id:=by unfold Sg.ob;rw[hhp3]
       rw[this,mergeS_ob])
      (by rw[henv3,mergeS_env];rfl) (fun id hid=>by rw[List.mem_append];exact hid.symm)
     rw[han]at hp;exact next (σ:=σ) e σ3 _ hp rfl rfl hr3
    ·simp at hr
   ·simp at hr
  have skip:∀ σ:Sg,PI C ops th ds wr m base k N σ0 ancL used es σ→(∀ e:Ent,e.an = al→GuardF ops σ0.env.length es o e false) →
    putK σ o.dst (.l .und) (drawK C ops th ds wr m base k (i+1) rest (ancL++[ancs ancL o]) used · K)=some r→∃es' ancL' used' σ',PI C ops th ds wr m base k N σ0 ancL' used' es' σ'∧es'.length=i+(o::rest).length∧K σ'=some r:=by
   intro σ h hg hr;obtain⟨σ3,hr3,hhp3,henv3⟩:=putOf hr;let e:Ent:=⟨i,o.dst,.l .und,⟨[],[]⟩,[],al⟩
   have hp:=h.push (e:=e) (used':=used) (σ2:=σ3) (ids:=List.range' (base+i*k) k) hk hN ho hafter hl.symm rfl hal (.inr ⟨hg e rfl,rfl,rfl,fun id=>by simp[e,Sg.ob]⟩) (fun e' he' t ht=>hddo e' he' t ht)
    (fun t ht=>hdm o (by simp) t ht) (fun id hid=>by simp[e]at hid) (fun id hid=>by simp[e]at hid) (fun id hid=>by simp[e]at hid) (fun id hid=>by simp[e,A.refs,L.refs]at hid) (fun id hid x hx=>by simp[e,Sg.ob]at hx)
    (by show base+(i+1)*k≤N;exact hroom1) (fun id=>by rw[←seg_iff];simp[e]) (by rw[hhp3])
    (fun id=>by
     have:σ3.ob id=σ.ob id:=by unfold Sg.ob;rw[hhp3]
     rw[this];split
     ·rename_i hc;have hsg:=seg_iff.2 hc.1;rw[h.St.obN id (seg_div hk hsg).1 fun e' he' hs' hsg'=>?_]
      ·simp[e,Sg.ob]
      ·have h1:=(seg_div hk hsg).2;rw[(seg_div hk hsg').2]at h1;omega
     ·rfl)
    henv3 (fun id hid=>hid.elim (fun h=>h) fun h=>by simp[e]at h)
   exact next (σ:=σ) e σ3 _ hp rfl rfl hr3
  unfold drawK at hr;simp only at hr;split at hr
  ·rename_i hgd;exact run σ h (fun e _=>.inl ⟨hgd,rfl⟩) hr
  ·rename_i j want hgd;split at hr
   ·rename_i d hdj haj;split at hr
    ·rename_i nn b hget;have hdlt:σ.env[d]? = some (.l (.dat nn .bool b)):=by
      rw[getA_tmp]at hget;cases hgg:σ.env[d]? with
      | none=>rw[hgg]at hget;simp at hget
      | some y=>rw[hgg]at hget;simp only[Option.getD_some]at hget;rw[hget]
     simp only[List.any_eq_true,Bool.and_eq_true,beq_iff_eq]at haj;obtain⟨dd,hdd1,hdd2,hdd3⟩:=haj;have hjlt:j<es.length:=by rw[←hdd3];exact hafter dd hdd1 hdd2
     have he':=List.getElem_mem hjlt;have hi':=h.idx j _ (List.getElem?_eq_getElem hjlt);have hdst':es[j].dst=some d:=by
      obtain⟨o',k1,k2,_⟩:=h.opd _ he';rw[hi']at k1;rw[k1]at hdj;rw[k2];simpa using hdj
     have hq:Eqv es[j].v (boolA b):=(h.St.envS _ he' (by rw[hi'];exact hjlt) d _ hdst' hdlt).symm.trans (Eqv.bool _ _ b)
     have h2:=h.refine hdlt (y:=boolA b) (Eqv.bool _ _ b) ⟨_,he',hdst'⟩;have hgf:∀run,run=(b==want)→∀e:Ent,e.an=al→GuardF ops σ0.env.length es o e run:=fun run hrun e hean=>by
      refine .inr ⟨j,want,d,hgd,hdj,by rw[←h.St.len];exact(List.getElem?_eq_some_iff.1 hdlt).1,?_,_,he',hi',hdst',.inl ⟨b,hrun,hq⟩⟩
      rw[hean,hal];exact(ancsL_bit _ _ _).2 ⟨dd,hdd1,hdd2,.inl hdd3⟩
     have go:∀k':Sg→Option ρ,putK σ (some d) (boolA b) k'=k' { σ with env:=σ.env.set d (boolA b) }:=fun k'=>by simp only[putK,setK_eq]
     cases b with
     | true =>
      simp only[cond_true]at hr;rw[go]at hr;cases want with
      | true=>exact run _ h2 (hgf true rfl) hr
      | false=>exact skip _ h2 (hgf false rfl) hr
     | false =>
      simp only[cond_false]at hr;rw[go]at hr;cases want with
      | true=>exact skip _ h2 (hgf false rfl) hr
      | false=>exact run _ h2 (hgf true rfl) hr
    ·rename_i hget;have hdlt:σ.env[d]? = some (.l .und):=by
      rw[getA_tmp]at hget;cases hgg:σ.env[d]? with
      | none=>rw[hgg]at hget;simp at hget
      | some y=>rw[hgg]at hget;simp only[Option.getD_some]at hget;rw[hget]
     simp only[List.any_eq_true,Bool.and_eq_true,beq_iff_eq]at haj;obtain⟨dd,hdd1,hdd2,hdd3⟩:=haj;have hjlt:j<es.length:=by rw[←hdd3];exact hafter dd hdd1 hdd2
     have he':=List.getElem_mem hjlt;have hi':=h.idx j _ (List.getElem?_eq_getElem hjlt);have hdst':es[j].dst=some d:=by
      obtain⟨o',k1,k2,_⟩:=h.opd _ he';rw[hi']at k1;rw[k1]at hdj;rw[k2];simpa using hdj
     have hq:Eqv es[j].v (.l .und):=(h.St.envS _ he' (by rw[hi'];exact hjlt) d _ hdst' hdlt).symm
     refine skip σ h (fun e hean=>?_) hr;refine .inr ⟨j,want,d,hgd,hdj,by rw[←h.St.len];exact(List.getElem?_eq_some_iff.1 hdlt).1,?_,_,he',hi',hdst',.inr ⟨rfl,hq⟩⟩
     rw[hean,hal];exact(ancsL_bit _ _ _).2 ⟨dd,hdd1,hdd2,.inl hdd3⟩
    ·simp at hr
   ·simp at hr
end
open Go
set_option linter.all false
def unl (n:Nat)(listed:Array Bool):List Nat:=(List.range n).filter fun j=>!listed.getD j true
theorem unl_set {n:Nat}{listed:Array Bool}{i:Nat}(hs:listed.size=n)(hi:i∈unl n listed):(unl n (listed.setIfInBounds i true)).length+1=(unl n listed).length:=by
 have hlt:i<n:=by
  unfold unl at hi;simpa using (List.mem_filter.1 hi).1
 have e:unl n (listed.setIfInBounds i true)=(unl n listed).erase i:=by
  have hn:(unl n listed).Nodup:=List.nodup_range.filter _;rw[hn.erase_eq_filter];unfold unl;rw[List.filter_filter];refine List.filter_congr fun j hj=>?_;rw[List.mem_range]at hj;by_cases hji:i=j
  ·subst hji;simp[Array.getD_eq_getD_getElem?,hs,hlt]
  ·simp[Array.getD_eq_getD_getElem?,Array.getElem?_setIfInBounds_ne hji,Ne.symm hji]
 rw[e,List.length_erase_of_mem hi];have:0<(unl n listed).length:=List.length_pos_of_mem hi;omega
section
variable {ρ:Type}{C:Ctx}{E:En}{σ0:Sg}{ops:Array Oper}{th ds wr:List Nat}{base k N:Nat}{es:List Ent}
theorem ready_mem {listed:Array Bool}{i:Nat}:i∈Region.ready .any ops listed↔i<ops.size∧listed.getD i true=false∧∃o,ops[i]? = some o∧∀e∈o.after.toList,Region.binds .any e=true→listed.getD e.on false=true:=by
 unfold Region.ready;simp only[List.mem_filter,List.mem_range,Bool.and_eq_true,Bool.not_eq_true'];constructor
 ·rintro⟨h1,h2,h3⟩
  cases ho:ops[i]? with
  | none=>rw[ho]at h3;simp at h3
  | some o =>
   rw[ho]at h3;simp only[Option.map_some,Option.getD_some]at h3;refine⟨h1,h2,o,rfl,fun e he hb=>?_⟩;rw[←Array.all_toList]at h3;have:=List.all_eq_true.1 h3 e he;rw[hb]at this;simpa using this
 ·rintro⟨h1,h2,o,ho,h3⟩
  refine⟨h1,h2,?_⟩;rw[ho];simp only[Option.map_some,Option.getD_some];rw[←Array.all_toList];refine List.all_eq_true.2 fun e he=>?_;cases hb:Region.binds .any e with
  | false=>simp
  | true=>simp[h3 e he hb]
theorem getD_listed {listed:Array Bool}{j:Nat}(hs:j<listed.size)(b b':Bool):listed.getD j b=listed.getD j b':=by
 simp[Array.getD_eq_getD_getElem?,hs]
theorem ready_least {listed:Array Bool}(hs:listed.size=ops.size)(hafter:∀(i:Nat)(o:Oper),ops[i]? = some o→∀e∈o.after.toList,Region.binds .any e=true→e.on<i)(h:∃j,j<ops.size∧listed.getD j true=false):Region.ready .any ops listed≠[]:=by
 classical
 obtain⟨j,hj,hl⟩:=h;have:∃i,i<ops.size∧listed.getD i true=false∧∀i'<i,listed.getD i' true=true:=by
  induction j using Nat.strongRecOn with
  | ind j ih =>
   by_cases hx:∃i'<j,listed.getD i' true=false
   ·obtain⟨i',h1,h2⟩:=hx;exact ih i' h1 (by omega) h2
   ·refine⟨j,hj,hl,fun i' hi'=>?_⟩;cases hg:listed.getD i' true with
    | true=>rfl
    | false=>exact absurd ⟨i',hi',hg⟩ hx
 obtain⟨i,h1,h2,h3⟩:=this;have hm:i∈Region.ready .any ops listed:=by
  refine ready_mem.2 ⟨h1,h2,ops[i],by simp[h1],fun e he hb=>?_⟩
  have h4:=hafter i _ (by simp[h1]) e he hb
  rw[getD_listed (b':=true) (by omega)]
  exact h3 _ h4
 intro hc;rw[hc]at hm;simp at hm
theorem any_tail {Q:Exit→Act→World→Prop} (hafter:∀ (i:Nat) (o:Oper),ops[i]? = some o→∀ e∈o.after.toList,Region.binds .any e = true→e.on < i) {m:Nat} (htail:∀ (n:Nat) (o:Oper),m≤n→ops[n]? = some o→∀ L:Nat→Prop,(∀ x o',L x→ops[x]? = some o'→∀ d∈o'.after.toList,Region.binds .any d = true→L d.on)→(∀ d∈o.after.toList,Region.binds .any d = true→L d.on)→∀ j < n,L j) :
  ∀(d n fuel:Nat) (listed:Array Bool) (a:Act) (w:World),ops.size-n=d→m≤n→n≤ops.size→d≤fuel→listed.size=ops.size→(∀j,j<ops.size→(listed.getD j true=true↔j<n)) →
   wpOps C.P ops Q (List.range' n d) a w→wpAny C.P .any ops Q fuel listed a w:=by
 intro d;induction d with
 | zero =>
  intro n fuel listed a w hd hm hn hf hs hl h;have hr:Region.ready .any ops listed=[]:=by
   cases hr:Region.ready .any ops listed with
   | nil=>rfl
   | cons i r =>
    have:i∈Region.ready .any ops listed:=by rw[hr];simp
    obtain⟨h1,h2,_⟩:=ready_mem.1 this;rw[(hl i h1).2 (by omega)]at h2;simp at h2
  simp only[List.range'_zero,wpOps]at h;cases fuel with
  | zero=>exact⟨hr,h⟩
  | succ fuel=>exact⟨fun _=>h,by rw[hr];intro i hi;simp at hi⟩
 | succ d ih =>
  intro n fuel listed a w hd hm hn hf hs hl h;cases fuel with
  | zero=>omega
  | succ fuel =>
   have hnl:n<ops.size:=by omega
   refine⟨fun hr=>absurd hr (ready_least hs hafter ⟨n,hnl,?_⟩),fun i hi=>?_⟩
   ·cases hg:listed.getD n true with
    | false=>rfl
    | true=>have:=(hl n hnl).1 hg;omega
   ·obtain⟨h1,h2,o,ho,h3⟩:=ready_mem.1 hi;have hni:n≤i:=by
     rcases Nat.lt_or_ge i n with hlt | hge
     ·rw[(hl i h1).2 hlt]at h2;simp at h2
     ·exact hge
    have hin:i=n:=by
     rcases Nat.lt_or_ge n i with hlt | hge
     ·have:=htail i o (by omega) ho (fun j=>j<n) (fun x o' hx ho' d hd hb=>by have:=hafter x o' ho' d hd hb;omega) (fun d hd hb=>by
       have h4:=h3 d hd hb;have h5:=hafter i o ho d hd hb;rw[getD_listed (b':=true) (by omega)]at h4
       exact(hl d.on (by omega)).1 h4) n hlt
      omega
     ·omega
    subst hin;rw[List.range'_succ,wpOps_cons]at h;refine wpOp_mono (fun a w hw=>?_) h;refine ih (i+1) fuel _ a w (by omega) (by omega) (by omega) (by omega) (by simp[hs]) (fun j hj=>?_) hw
    by_cases hji:i=j
    ·subst hji;simp[Array.getD_eq_getD_getElem?,hs,hnl]
    ·have:(listed.setIfInBounds i true).getD j true=listed.getD j true:=by simp[Array.getD_eq_getD_getElem?,Array.getElem?_setIfInBounds_ne hji]
     rw[this,hl j hj];omega
theorem any_prefix (hC:Ctrs E.d C) (hFF:∀ (i:Nat) (o:Oper),ops[i]? = some o→∀ t,o.dst = some t→¬ E.F t) (hk:0 < k) {Q:Exit→Act→World→Prop} (hafter:∀ (i:Nat) (o:Oper),ops[i]? = some o→∀ e∈o.after.toList,Region.binds .any e = true→e.on < i) {m:Nat} (hm:m≤ops.size) (htail:∀ (n:Nat) (o:Oper),m≤n→ops[n]? = some o→∀ L:Nat→Prop,(∀ x o',L x→ops[x]? = some o'→∀ d∈o'.after.toList,Region.binds .any d = true→L d.on)→(∀ d∈o.after.toList,Region.binds .any d = true→L d.on)→∀ j < n,L j)
  {ancL:List Nat} {used:List Nat} {σf:Sg} (hP:PI C ops th ds wr m base k N σ0 ancL used es σf) (hlen:es.length=m) (hN:σ0.hp.length=N)
  (h0E:∀(t:Nat) (x:A),σ0.env[t]? = some x→∀id∈x.refs,id<base) (h0O:∀id x,σ0.ob id=some x→id<base∧∀j∈x.refs,j<base)
  {I0:Nat→Prop} {G0:Gh} {w0:World} (hQ:∀σ a w G,RelG E G σ a w→StS base k ds es (·<m) σ0 σ→Keep I0 (Imm E G σ w) base base G0 G w0 w→wpOps C.P ops Q (List.range' m (ops.size-m)) a w) :
  ∀(fuel:Nat) (listed:Array Bool) (S:Nat→Prop) (σ:Sg) (a:Act) (w:World) (G:Gh),(unl ops.size listed).length≤fuel→listed.size=ops.size→(∀j,j<ops.size→(listed.getD j true=true↔S j))→(∀j,S j→j<m) →
   (∀e∈es,S e.i→∀j∈e.an,S j)→RelG E G σ a w→StS base k ds es S σ0 σ→Keep I0 (Imm E G σ w) base base G0 G w0 w→wpAny C.P .any ops Q fuel listed a w:=by
 classical
 intro fuel;induction fuel with
 | zero =>
  intro listed S σ a w G hf hs hl hSm cl h hSt hKp;have hall:∀j,j<ops.size→S j:=fun j hj=>by
   rw[←hl j hj];cases hg:listed.getD j true with
   | true=>rfl
   | false =>
    have:j∈unl ops.size listed:=List.mem_filter.2 ⟨List.mem_range.2 hj,by rw[hg];rfl⟩
    have:=List.length_pos_of_mem this;omega
  have hme:m=ops.size:=Nat.le_antisymm hm (by
   rcases Nat.lt_or_ge m ops.size with hlt | hge
   ·have:=hSm m (hall m hlt);omega
   ·exact hge)
  have hSS:S=fun i=>i<m:=funext fun i=>propext ⟨hSm i,fun hi=>hall i (by omega)⟩
  subst hSS;exact any_tail (m:=m) hafter htail (ops.size-m) m 0 listed a w rfl (Nat.le_refl _) hm (by omega) hs hl (hQ σ a w G h hSt hKp)
 | succ fuel ih =>
  intro listed S σ a w G hf hs hl hSm cl h hSt hKp;by_cases hall:∀j,j<m→S j
  ·have hSS:S=fun i=>i<m:=funext fun i=>propext ⟨hSm i,hall i⟩;subst hSS;refine any_tail (m:=m) hafter htail (ops.size-m) m (fuel+1) listed a w rfl (Nat.le_refl _) hm ?_ hs hl (hQ σ a w G h hSt hKp);have hsub:List.range' m (ops.size-m)⊆unl ops.size listed:=fun j hj=>by
    rw[List.mem_range'_1]at hj;refine List.mem_filter.2 ⟨List.mem_range.2 (by omega),?_⟩
    cases hg:listed.getD j true with
    | false=>rfl
    | true=>have:=(hl j (by omega)).1 hg;omega
   have:=(List.nodup_range' (s:=m) (n:=ops.size-m) (step:=1)).length_le_of_subset hsub;simp at this;omega
  ·have hex:∃j,j<m∧¬S j:=Classical.byContradiction fun hc=>hall fun j hj=>Classical.byContradiction fun hn=>hc ⟨j,hj,hn⟩;obtain⟨j0,hj0,hn0⟩:=hex;have hj0l:listed.getD j0 true=false:=by
    cases hg:listed.getD j0 true with
    | false=>rfl
    | true=>exact absurd ((hl j0 (by omega)).1 hg) hn0
   refine⟨fun hr=>absurd hr (ready_least hs hafter ⟨j0,by omega,hj0l⟩),fun i hi=>?_⟩
   obtain⟨h1,h2,o,ho,h3⟩:=ready_mem.1 hi;have hnS:¬S i:=fun hc=>by rw[(hl i h1).2 hc]at h2;simp at h2
   have him:i<m:=by
    rcases Nat.lt_or_ge i m with hlt | hge
    ·exact hlt
    ·have:=htail i o hge ho S (fun x o' hx ho' d hd hb=>by
      have hxm:=hSm x hx;have hlt:x<es.length:=by omega
      have he:=List.getElem_mem hlt;have hei:=hP.idx x _ (List.getElem?_eq_getElem hlt);obtain⟨o2,k1,_,_,k5,_⟩:=hP.opd _ he;rw[hei,ho']at k1;obtain rfl:=Option.some.inj k1;exact cl _ he (by rw[hei];exact hx) _ (k5 d hd hb)) (fun d hd hb=>by
       have h4:=h3 d hd hb;have h5:=hafter i o ho d hd hb;rw[getD_listed (b':=true) (by omega)]at h4
       exact(hl d.on (by omega)).1 h4) j0 (by omega)
     exact absurd this hn0
   have hlt:i<es.length:=by omega
   have he:=List.getElem_mem hlt;have hei:=hP.idx i _ (List.getElem?_eq_getElem hlt);generalize es[i]=e at he hei;subst hei;obtain⟨o',k1,k2,k3,k5,k4⟩:=hP.opd e he;have hpre:∀j∈e.an,S j:=fun j hj=>by
    obtain⟨d,hd,hb,hx⟩:=k4 j hj;rw[ho]at k1;obtain rfl:=Option.some.inj k1;have h4:=hafter _ _ ho d hd hb;have h5:=h3 d hd hb;rw[getD_listed (b':=true) (by omega)]at h5
    have h6:=(hl d.on (by omega)).1 h5
    rcases hx with hx | ⟨e',he',h7,h8⟩
    ·rw[←hx];exact h6
    ·exact cl e' he' (by rw[h7];exact h6) j h8
   refine any_step (m:=m) hC hk h hSt hP.E hN cl he hnS hpre k1 k2 (hFF _ _ k1) (fun e' he' hs'=>⟨hSm _ hs',by obtain⟨o2,q1,q2,_,q5,_⟩:=hP.opd e' he';exact⟨o2,q1,q2,q5⟩⟩) h0E h0O k3 _ Q fun σ' a' w' G' r1 r2 r3=>?_
   have hcnt:=unl_set hs (i:=e.i) (List.mem_filter.2 ⟨List.mem_range.2 h1,by rw[h2];rfl⟩)
   refine ih (listed.setIfInBounds e.i true) (fun j=>S j∨j=e.i) σ' a' w' G' (by omega) (by simp[hs]) (fun j hj=>?_) (fun j hj=>hj.elim (hSm j) fun hj=>by omega) (fun e' he' hs' j hj=>?_) r1 r2 ⟨fun b hb=>r3.imm b (hKp.imm b hb),fun b hb=>(r3.heap b (hKp.imm b hb)).trans (hKp.heap b hb),Nat.le_refl _,fun id hi=>(r3.g id hi).trans (hKp.g id hi)⟩
   ·by_cases hji:e.i=j
    ·subst hji;simp[Array.getD_eq_getD_getElem?,hs,h1]
    ·have:(listed.setIfInBounds e.i true).getD j true=listed.getD j true:=by simp[Array.getD_eq_getD_getElem?,Array.getElem?_setIfInBounds_ne hji]
     rw[this,hl j hj];exact⟨fun h=>.inl h,fun h=>h.resolve_right fun hc=>hji hc.symm⟩
   ·rcases hs' with hs' | hs'
    ·exact .inl (cl e' he' hs' j hj)
    ·have:e'=e:=hP.E.uniq e' he' e he hs';subst this;exact .inl (hpre j hj)
theorem RelG.same {G:Gh} {σ σ':Sg} {a:Act} {w:World} (h:RelG E G σ a w) (hl:σ'.env.length = σ.env.length) (hn:σ'.hp.length = σ.hp.length) (hob:∀ id,σ'.ob id = σ.ob id)
  (henv:∀(t:Nat) (x y:A),σ.env[t]? = some x→σ'.env[t]? = some y→Eqv x y∨y=.l .unk):RelG E G σ' a w:=by
 have himm:Imm E G σ w=Imm E G σ' w:=funext fun b=>propext ⟨fun hb=>⟨hb.1,hb.2.1,fun id o ho=>hb.2.2 id o (by rw[←hob];exact ho)⟩,fun hb=>⟨hb.1,hb.2.1,fun id o ho=>hb.2.2 id o (by rw[hob];exact ho)⟩⟩
 refine
 {h with
  len:=h.len.trans hl.symm
  env:=fun t y hy=>?_
  obs:=fun id o ho=>?_
  nodup:=fun id o ho=>h.nodup id o (by rw[←hob];exact ho)
  range:=fun id o ho=>h.range id o (by rw[←hob];exact ho)
  hrange:=fun id o ho=>h.hrange id o (by rw[←hob];exact ho)
  disj:=fun id id' o o' ho hr ho'=>h.disj id id' o o' (by rw[←hob];exact ho) hr (by rw[←hob];exact ho') }
 ·rw[←himm,hn];have hlt:t<σ.env.length:=by rw[←hl];exact(List.getElem?_eq_some_iff.1 hy).1
  have hx:σ.env[t]? = some σ.env[t]:=List.getElem?_eq_getElem hlt;rcases henv t _ y hx hy with hq | rfl
  ·exact(hq.1 _ _ _ _ _).1 (h.env t _ hx)
  ·trivial
 ·rw[←himm,hn];exact h.obs id o (by rw[←hob];exact ho)
theorem StS.agree {σ σ':Sg} {S:Nat→Prop} (h:StS base k ds es S σ0 σ) (h':StS base k ds es S σ0 σ'):σ'.env.length = σ.env.length∧σ'.hp.length = σ.hp.length∧(∀ id,σ'.ob id = σ.ob id) ∧
  ∀(t:Nat) (x y:A),σ.env[t]? = some x→σ'.env[t]? = some y→Eqv x y∨y=.l .unk:=by
 classical
 refine⟨h'.len.trans h.len.symm,h'.n.trans h.n.symm,fun id=>?_,fun t x y hx hy=>?_⟩
 ·by_cases h1:∃e∈es,S e.i∧id∈e.ins
  ·obtain⟨e,he,hs,hi⟩:=h1;rw[h.obI e he hs id hi,h'.obI e he hs id hi]
  ·rcases Nat.lt_or_ge id base with hb | hb
   ·rw[h.ob0 id hb fun e he hs hi=>h1 ⟨e,he,hs,hi⟩,h'.ob0 id hb fun e he hs hi=>h1 ⟨e,he,hs,hi⟩]
   ·by_cases h2:∃e∈es,S e.i∧seg base k e.i id
    ·obtain⟨e,he,hs,hi⟩:=h2;rw[h.obS e he hs id hi fun e' he' hs' hi'=>h1 ⟨e',he',hs',hi'⟩,h'.obS e he hs id hi fun e' he' hs' hi'=>h1 ⟨e',he',hs',hi'⟩]
    ·rw[h.obN id hb fun e he hs hi=>h2 ⟨e,he,hs,hi⟩,h'.obN id hb fun e he hs hi=>h2 ⟨e,he,hs,hi⟩]
 ·by_cases ht:t∈ds
  ·by_cases hex:∃e∈es,S e.i∧e.dst=some t
   ·obtain⟨e,he,hs,hd⟩:=hex;exact .inl ((h.envS e he hs t x hd hx).trans (h'.envS e he hs t y hd hy).symm)
   ·have h1:=h.envU t ht fun e he hs hd=>hex ⟨e,he,hs,hd⟩;have h2:=h'.envU t ht fun e he hs hd=>hex ⟨e,he,hs,hd⟩;rw[hx]at h1;rw[hy,←h1]at h2;obtain rfl:=Option.some.inj h2;exact .inl (Eqv.refl _)
  ·have h1:=h.env0 t ht;have h2:=h'.env0 t ht;rw[hx]at h1;rw[hy,←h1]at h2;obtain rfl:=Option.some.inj h2;exact .inl (Eqv.refl _)
theorem ancAll_spec:(l:List Oper)→(acc:List Nat)→(n:Nat)→(x:Nat)→(ancAll l acc)[n]? = some x→acc[n]? = some x∨∃o,acc.length≤n∧l[n-acc.length]? = some o∧∃acc',(∀i,i<n→acc'[i]? = (ancAll l acc)[i]?)∧acc'.length=n∧x=ancs acc' o
 | [],acc,n,x,h=>.inl h
 | o::l,acc,n,x,h=>by
  have hpre:∀(l:List Oper) (acc:List Nat) (i:Nat),i<acc.length→(ancAll l acc)[i]? = acc[i]?:=by
   intro l;induction l with
   | nil=>intro acc i _;rfl
   | cons o l ih=>intro acc i hi;simp only[ancAll];rw[ih _ i (by simp;omega),List.getElem?_append_left hi]
  simp only[ancAll]at h ⊢;rcases ancAll_spec l _ n x h with h1 | ⟨o',h1,h2,acc',h3,h4,h5⟩
  ·rcases Nat.lt_or_ge n acc.length with hl | hl
   ·rw[List.getElem?_append_left hl]at h1;exact .inl h1
   ·rw[List.getElem?_append_right hl]at h1;have h0:n-acc.length=0:=by
     rcases Nat.eq_zero_or_pos (n-acc.length)with h0 | h0
     ·exact h0
     ·rw[List.getElem?_eq_none (by simp;omega)]at h1;simp at h1
    rw[h0]at h1;simp at h1;have hn:n=acc.length:=by omega
    subst hn;refine .inr ⟨o,Nat.le_refl _,by simp,acc,fun i hi=>?_,rfl,h1.symm⟩
    rw[hpre l _ i (by simp;omega),List.getElem?_append_left hi]
  ·simp only[List.length_append,List.length_singleton]at h1 h2;refine .inr ⟨o',by omega,?_,acc',h3,h4,h5⟩
   rw[show n-acc.length=(n-(acc.length+1))+1 from by omega]
   simpa using h2
theorem anc_closed {ops:Array Oper} {L:Nat→Prop} (hcl:∀ x o',L x→ops[x]? = some o'→∀ d∈o'.after.toList,Region.binds .any d = true→L d.on):(n:Nat)→(x:Nat)→(o:Oper)→(ancAll ops.toList [])[n]? = some x→ops[n]? = some o→(∀ d∈o.after.toList,Region.binds .any d = true→d.on < n) →
  (∀(i:Nat) (o:Oper),ops[i]? = some o→∀e∈o.after.toList,Region.binds .any e=true→e.on<i)→(∀d∈o.after.toList,Region.binds .any d=true→L d.on)→∀j,x.testBit j=true→L j:=by
 intro n;induction n using Nat.strongRecOn with
 | ind n ih =>
  intro x o hx ho hlt hafter hd j hj;rcases ancAll_spec _ _ n x hx with h | ⟨o',_,h2,acc',h3,h4,h5⟩
  ·simp at h
  ·simp only[List.length_nil,Nat.sub_zero]at h2;rw[←Array.getElem?_toList]at ho;rw[ho]at h2;obtain rfl:=Option.some.inj h2;subst h5;obtain⟨d,hdm,hb,hx⟩:=(ancsL_bit acc' _ j).1 hj;rcases hx with hx | hx
   ·rw[←hx];exact hd d hdm hb
   ·have hdl:=hlt d hdm hb;have hg:acc'[d.on]? = some acc'[d.on]:=List.getElem?_eq_getElem (by omega)
    rw[hg,Option.getD_some]at hx;have hg2:=h3 d.on hdl;rw[hg]at hg2;have hon:d.on<ops.size:=by
     have:=(List.getElem?_eq_some_iff.1 ho).1;simp at this;omega
    have ho2:ops[d.on]? = some ops[d.on]:=by simp[hon]
    refine ih d.on hdl _ _ hg2.symm ho2 (hafter _ _ ho2) hafter (fun d' hd' hb'=>hcl d.on _ (hd d hdm hb) ho2 d' hd' hb') j hx
theorem tailAt_spec (an:List Nat)(sz:Nat):(n:Nat)→n≤sz→tailAt an n≤n∧∀i,tailAt an n≤i→i<n→an[i]? = some (2 ^ i-1)
 | 0,_=>⟨by simp[tailAt],fun i _ hi=>by omega⟩
 | n+1,hn=>by
  obtain⟨h1,h2⟩:=tailAt_spec an sz n (by omega)
  unfold tailAt;split
  ·rename_i x hx;split
   ·rename_i hc;refine⟨by omega,fun i hi hin=>?_⟩
    rcases Nat.lt_or_ge i n with hlt | hge
    ·exact h2 i hi hlt
    ·have:i=n:=by omega
     subst this;rw[hx,hc]
   ·exact⟨Nat.le_refl _,fun i hi hin=>by omega⟩
  ·exact⟨Nat.le_refl _,fun i hi hin=>by omega⟩
theorem foldFrzA_frz:(xs:List A)→∀{σ s:Sg},Frz σ s→Frz σ (xs.foldl frzA s)
 | [],_,_,h=>h
 | x::xs,σ,s,h=>by
  rw[List.foldl_cons];exact foldFrzA_frz xs (h.trans (frzA_frz s x))
theorem pad_ob (σ:Sg)(n:Nat)(id:Nat):Sg.ob { env:=σ.env,hp:=σ.hp++List.replicate n none } id=σ.ob id:=by
 unfold Sg.ob;simp only;rcases Nat.lt_or_ge id σ.hp.length with h | h
 ·rw[List.getElem?_append_left h]
 ·rw[List.getElem?_append_right h,List.getElem?_replicate,List.getElem?_eq_none h];split<;>simp
theorem RelG.pad {G:Gh}{σ:Sg}{a:Act}{w:World}(h:RelG E G σ a w)(n:Nat):RelG E G { env:=σ.env,hp:=σ.hp++List.replicate n none } a w:=by
 have hob:=pad_ob σ n;generalize hσ':({ env:=σ.env,hp:=σ.hp++List.replicate n none }:Sg)=σ' at *;have hlen:σ'.hp.length=σ.hp.length+n:=by rw[←hσ'];simp
 have himm:∀b,Imm E G σ w b→Imm E G σ' w b:=fun b hb=>⟨hb.1,hb.2.1,fun id o ho=>hb.2.2 id o (by rw[←hob];exact ho)⟩
 have hkp:Keep (Imm E G σ w) (Imm E G σ' w) σ.hp.length σ'.hp.length G G w w:=⟨himm,fun _ _=>rfl,by omega,fun _ _=>rfl⟩
 have henv:σ'.env=σ.env:=by rw[←hσ']
 refine
 {h with
  len:=by rw[henv];exact h.len
  env:=fun t y hy=>?_
  obs:=fun id o ho=>?_
  nodup:=fun id o ho=>h.nodup id o (by rw[←hob];exact ho)
  range:=fun id o ho=>h.range id o (by rw[←hob];exact ho)
  hrange:=fun id o ho=>h.hrange id o (by rw[←hob];exact ho)
  disj:=fun id id' o o' ho hr ho'=>h.disj id id' o o' (by rw[←hob];exact ho) hr (by rw[←hob];exact ho') }
 ·rw[henv]at hy;exact(h.env t y hy).keep hkp y
 ·rw[hob]at ho;exact(h.obs id o ho).keep hkp (Sg.ob_lt ho) rfl o fun _ _ _=>rfl
theorem regionD_some (hC:Ctrs E.d C) {id:Nat} {K:Sg→Option ρ} {r:ρ} {G:Gh} {σ:Sg} {a:Act} {w:World} {ws:List Nat} (h:RelG E G σ a w) (hk:regionD C id ops σ K = some r)
  (hws:∀o∈ops.toList,(∀t,o.dst=some t→t∈ws∧¬E.F t)∧∀j b t,o.guard=some (j,b)→(ops[j]?).bind (·.dst)=some t→t∈ws) (Q:Exit→Act→World→Prop)
  (hQ:∀σ' a' w' G',K σ'=some r→RelG E G' σ' a' w'→Kc ws σ σ'→GA E σ σ' G G' w w'→Q .normal a' w'):(Code.region id ops true).wp C.P Q a w:=by
 unfold regionD at hk;simp only at hk;generalize hm:tailAt (ancAll ops.toList []) ops.size=m at hk;generalize hds:(ops.toList.take m).filterMap (·.dst)=ds at hk;generalize hth:(findD id C.Dr).th=th at hk;generalize hwt:(findD id C.Dr).wr=wt at hk;generalize hkk:(findD id C.Dr).k+1=kk at hk;have hk0:0<kk:=by omega
 have f:Frz σ (List.foldl frzA σ ((findD id C.Dr).fz.map fun t=>getA σ (.tmp t))):=foldFrzA_frz _ (.refl _);generalize List.foldl frzA σ ((findD id C.Dr).fz.map fun t=>getA σ (.tmp t))=σ1 at hk f;have hwr:∀ id o,σ1.ob id = some o→o.ro = true→id∉(wt.flatMap fun t=>wrIds σ1 (getA σ1 (.tmp t.1)) t.2).filter (fun id=>match σ1.ob id with
   | some o=>!o.ro
   | none=>false):=fun id o ho hr hm=>by
  have:=(List.mem_filter.1 hm).2;rw[ho]at this;simp[hr]at this
 generalize (wt.flatMap fun t=>wrIds σ1 (getA σ1 (.tmp t.1)) t.2).filter (fun id=>match σ1.ob id with
   | some o=>!o.ro
   | none=>false)=wr at hk hwr
 split at hk
 ·rename_i hc;simp only[Bool.and_eq_true,decide_eq_true_eq,List.all_eq_true,List.mem_range]at hc;obtain⟨hnd,haf⟩:=hc;have hafter:∀(i:Nat) (o:Oper),ops[i]? = some o→∀e∈o.after.toList,Region.binds .any e=true→e.on<i:=fun i o ho e he hb=>by
   have:=haf i (Array.getElem?_eq_some_iff.1 ho).1;rw[ho]at this;simp only[List.all_eq_true]at this;have:=this e he;rw[hb]at this;simpa using this
  obtain⟨hmle,htl⟩:=tailAt_spec (ancAll ops.toList []) ops.size ops.size (Nat.le_refl _);rw[hm]at hmle htl;have h1:=f.rel h;have h2:=h1.pad (m*kk);have hoE:∀(t:Nat) (x:A),σ1.env[t]? = some x→∀id∈x.refs,id<σ1.hp.length:=fun t x hx=>A.bd_refs x (h1.env t x hx).bd;have hob:=pad_ob σ1 (m*kk);generalize hσ0:({ env:=σ1.env,hp:=σ1.hp++List.replicate (m*kk) none }:Sg)=σ0 at *;have hlen0:σ0.hp.length=σ1.hp.length+m*kk:=by rw[←hσ0];simp
  have henv0:σ0.env=σ1.env:=by rw[←hσ0]
  rw[←henv0]at hoE;have h0O:∀id x,σ0.ob id=some x→id<σ1.hp.length∧∀j∈x.refs,j<σ1.hp.length:=fun id x hx=>by
   rw[hob]at hx;exact⟨Sg.ob_lt hx,Ob.bd_refs x (h1.obs id x hx).bd⟩
  have hP0:PI { C with I:=C.I.filter (·.dr) } ops th ds wr m σ1.hp.length kk σ0.hp.length σ0 [] [] [] σ0 :=
   {idx:=fun j e he=>by simp at he
    opd:=fun e he=>by simp at he
    E:=⟨fun e he=>by simp at he,fun e he=>by simp at he,fun e he=>by simp at he,fun e he=>by simp at he,fun e he=>by simp at he,fun e he=>by simp at he,fun e he=>by simp at he,fun e he=>by simp at he,fun e he=>by simp at he,fun e he=>by simp at he,fun e he=>by simp at he⟩
    St:=⟨rfl,rfl,fun _ _=>rfl,fun e he=>by simp at he,fun _ _ _=>rfl,fun _ _ _=>rfl,fun e he=>by simp at he,fun e he=>by simp at he,fun id hid _=>by
     rw[hob];unfold Sg.ob;rw[List.getElem?_eq_none hid];rfl⟩
    alen:=rfl
    anc:=fun j e he=>by simp at he
    used:=fun e he=>by simp at he }
  have htake:(ops.toList.take m).length=m:=by rw[List.length_take];simp;omega
  obtain⟨es,ancL,used,σf,hP,hel,hkf⟩:=plan (C:={ C with I:=C.I.filter (·.dr) }) (fun e he=>(hC.inl e (List.mem_filter.1 he).1).2.kp (List.mem_filter.1 he).2) (fun e he=>(hC.inl e (List.mem_filter.1 he).1).2.nat) (by omega) rfl (ops.toList.take m) 0 [] [] σ0 [] rfl hP0
   (fun j o hj=>by
    rw[Nat.zero_add,←Array.getElem?_toList];rw[List.getElem?_take]at hj;split at hj
    ·exact hj
    ·simp at hj)
   (fun j o hj d hd hb=>by
    rw[List.getElem?_take]at hj;split at hj
    ·have:=hafter j o (by rw[←Array.getElem?_toList];exact hj) d hd hb;omega
    ·simp at hj)
   (by rw[htake,hlen0,Nat.zero_add];omega) (by rw[htake];omega) (fun e he=>by simp at he) (by rw[hds];exact hnd) (fun o ho t ht=>by rw[←hds];exact List.mem_filterMap.2 ⟨o,ho,ht⟩) (fun e he=>by simp at he) hk
  rw[Nat.zero_add,htake]at hel;refine wp_region_any hC.mixed ?_;refine any_prefix (C:={ C with I:=C.I.filter (·.dr) }) (E:=E) ⟨hC.mixed,hC.ok,fun e he=>hC.inl e (List.mem_filter.1 he).1⟩ (fun i o ho t ht=>((hws o (by rw[←Array.getElem?_toList]at ho;exact List.mem_of_getElem? ho)).1 t ht).2) (by omega) hafter (m:=m) hmle (fun n o hn ho L hL1 hL2 j hj=>by
   have hx:=htl n hn (Array.getElem?_eq_some_iff.1 ho).1;exact anc_closed hL1 n _ o hx ho (hafter n o ho) hafter hL2 j (by rw[Nat.testBit_two_pow_sub_one];simpa using hj)) hP hel rfl hoE h0O (I0:=Imm E G σ0 w) (G0:=G) (w0:=w) (fun σs as wd Gh2 hr hSt hkp=>?_) ops.size _ (fun _=>False) σ0 a _ G (by
   unfold unl;exact Nat.le_trans (List.length_filter_le _ _) (by simp)) (by simp) (fun j hj=>by simp[Array.getD_eq_getD_getElem?,hj]) (fun j hj=>hj.elim) (fun e he hs=>hs.elim) (h2.ext (Ext.drew w)) ?_ ⟨fun b hb=>⟨Nat.lt_of_lt_of_le hb.1 (Ext.drew w).size,hb.2⟩,fun _ _=>rfl,Nat.le_refl _,fun _ _=>rfl⟩
  ·
   have hStf:=hP.St;rw[hel]at hStf;obtain⟨g1,g2,g3,g4⟩:=hSt.agree hStf;have hrf:=hr.same g1 g2 g3 g4;have e1:∀b,Imm E G σ1 w b→Imm E G σ0 w b:=fun b hb=>⟨hb.1,hb.2.1,fun id o ho=>hb.2.2 id o (by rw[←hob];exact ho)⟩
   have e2:∀b,Imm E Gh2 σs wd b→Imm E Gh2 σf wd b:=fun b hb=>⟨hb.1,hb.2.1,fun id o ho=>hb.2.2 id o (by rw[←g3];exact ho)⟩
   have hkc:Kc ws σ σf:=by
    refine⟨?_,?_,fun t ht=>?_,fun id o ho hro=>?_⟩
    ·have:=f.len;rw[hStf.n,hlen0];omega
    ·rw[hStf.len,henv0,f.kp.env]
    ·have htd:t∉ds:=fun hc=>by
      rw[←hds]at hc;obtain⟨o,ho,hd⟩:=List.mem_filterMap.1 hc;exact ht ((hws o (List.mem_of_mem_take ho)).1 t hd).1
     rw[hStf.env0 t htd,henv0,f.kp.env]
    ·have h3:=f.kp.ob id o ho hro;have hlt:=Sg.ob_lt h3;rw[hStf.ob0 id hlt fun e he _ hi=>hwr id o h3 hro (hP.E.insW e he id hi hlt),hob];exact h3
   have:=opersK_some (ws:=ws) (ops:=ops) hC (ops.toList.drop m) m (fun j o hj=>by
    rw[List.getElem?_drop]at hj;rw[←Array.getElem?_toList];exact hj) (fun o ho=>hws o (List.mem_of_mem_drop ho)) hrf hkf Q fun σ' a' w' G' k1 k2 k3 k4=>hQ σ' a' w' G' k1 k2 (hkc.trans k3) (((show GA E σ σ1 G G w w from f.keep).trans (show GA E σ1 σf G Gh2 w wd from⟨fun b hb=>e2 b (hkp.imm b (e1 b hb)),fun b hb=>hkp.heap b (e1 b hb),by rw[hStf.n,hlen0];omega,hkp.g⟩)).trans k4)
   have hdl:(ops.toList.drop m).length=ops.size-m:=by simp
   rw[hdl]at this;exact this
  ·exact
   {n:=rfl
    len:=rfl
    env0:=fun _ _=>rfl
    envS:=fun e he hs=>hs.elim
    envU:=fun _ _ _=>rfl
    ob0:=fun _ _ _=>rfl
    obI:=fun e he hs=>hs.elim
    obS:=fun e he hs=>hs.elim
    obN:=fun id hid _=>by
     rw[hob];unfold Sg.ob;rw[List.getElem?_eq_none hid];rfl }
 ·simp at hk
end
open Go
set_option linter.all false
section
variable {ρ:Type}{C:Ctx}{E:En}{G:Gh}{σ:Sg}{a:Act}{w:World}{ops:Array Oper}
theorem opK_quiet {o:Oper}{k:A→Sg→Option ρ}{r:ρ}(h:RelG E G σ a w)(hq:quietO o=true)(hk:opK C σ o.op k=some r):∃u,(execOp a.eval o).run C.P w=.ok (.value u) w:=by
 obtain⟨dst,op,type,pos,after,guard⟩:=o;simp only at hk;have val:∀{s:Sem Value} {u:Value},s.run C.P w=.ok u w→∃u,(do let x ←s;pure (Next.value x):Sem Next).run C.P w=.ok (.value u) w:=fun{s u} hr=>⟨u,by simp[hr]⟩
 unfold opK at hk;split at hk
 ·exact⟨_,by simp[execOp];rfl⟩
 ·exact⟨_,by simp[execOp];rfl⟩
 ·rename_i x;obtain⟨h1,b,j,h2⟩:=ptrK_some hk (h.get x);exact⟨_,by simp[execOp,h2];rfl⟩
 ·rename_i c x y;split at hk
  ·rename_i nn cb hc;have hv:=h.get c;rw[hc]at hv;have hv:=datBool hv;cases cb with
   | true=>exact⟨_,by simp[execOp,hv,asBool];rfl⟩
   | false=>exact⟨_,by simp[execOp,hv,asBool];rfl⟩
  ·simp at hk
 ·obtain⟨z,u,h1,h2,h3⟩:=unK_some (C:=C) hk (h.get _);exact val h2
 ·obtain⟨z,u,h1,h2,h3,h4⟩:=binK_some h hk (h.get _) (h.get _);exact val (u:=u) (by simp[h2,h3])
 ·obtain⟨z,u,h1,h2,h3⟩:=loadK_some h hk (h.get _);exact val h2
 ·simp[quietO]at hq
 ·obtain⟨z,u,h1,h2,h3⟩:=fieldAddrK_some (C:=C) hk (h.get _);exact val h2
 ·obtain⟨z,u,h1,h2,h3⟩:=indexAddrK_some h hk (h.get _) (h.get _);exact val h2
 ·simp[quietO]at hq
 ·simp[quietO]at hq
 ·simp[quietO]at hq
 ·simp[quietO]at hq
 ·simp[quietO]at hq
 ·simp[quietO]at hq
 ·simp[quietO]at hq
 ·obtain⟨u,h1,h2⟩:=sliceK_some h hk (h.get _);exact val h1
 ·simp[quietO]at hq
 ·obtain⟨z,u,h1,h2,h3⟩:=extractK_some (C:=C) hk (h.get _);exact val h2
 ·simp[quietO]at hq
 ·obtain⟨z,u,h1,h2,h3⟩:=indexK_some (C:=C) hk (h.get _) (h.get _);exact val h2
 ·simp[quietO]at hq
 ·rename_i c;obtain⟨callee,args,argTypes⟩:=c;simp only at hk;split at hk
  ·rename_i b;have hex:∀ {v:Sem Value} {u:Value},(∀ cs,builtin b argTypes type cs (args.map a.eval) = (do let x ← v; pure (.value x)))→v.run C.P w = .ok u w →
     ∃u,(execOp a.eval ⟨dst,.call ⟨.builtin b,args,argTypes⟩,type,pos,after,guard⟩).run C.P w=.ok (.value u) w:=fun{v u} hb hr=>by
    refine⟨u,?_⟩;simp only[execOp,resolve,Sem.run_bind,Sem.run_pure,Result.andThen_ok,invoke,hb,hr]
   unfold builtinK at hk;have hlist:∀{xs:List Value},args.toList.map a.eval=xs→args.map a.eval=xs.toArray:=fun hx=>by rw[mapL,hx]
   have two:∀{x y:A},args.toList.map (getA σ)=[x,y]→∃p q,x=getA σ p∧y=getA σ q∧args.map a.eval=#[a.eval p,a.eval q]:=by
    intro x y hargs;cases hal:args.toList with
    | nil=>rw[hal]at hargs;simp at hargs
    | cons p q =>
     cases q with
     | nil=>rw[hal]at hargs;simp at hargs
     | cons p2 q =>
      cases q with
      | cons _ _=>rw[hal]at hargs;simp at hargs
      | nil =>
       rw[hal]at hargs;simp only[List.map_cons,List.map_nil,List.cons.injEq,and_true]at hargs;obtain⟨rfl,rfl⟩:=hargs;exact⟨p,p2,rfl,rfl,hlist (by rw[hal];rfl)⟩
   split at hk
   ·rename_i x hargs;split at hk
    ·rename_i t hts;obtain⟨tl⟩:=argTypes;simp only at hts;subst hts;cases hal:args.toList with
     | nil=>rw[hal]at hargs;simp at hargs
     | cons p q =>
      cases q with
      | cons _ _=>rw[hal]at hargs;simp at hargs
      | nil =>
       rw[hal]at hargs;simp only[List.map_cons,List.map_nil,List.cons.injEq,and_true]at hargs;subst hargs;obtain⟨z,u,h1,h2,h3⟩:=lenK_some h hk (h.get p);have:=hlist (xs:=[a.eval p]) (by rw[hal];rfl)
       exact hex (v:=Builtin.len_ #[t] type #[a.eval p]) (fun cs=>by simp only[builtin,this]) (h2 type)
    ·simp at hk
   ·simp[quietO]at hq
   ·rename_i x y hargs;obtain⟨p,q,rfl,rfl,hm⟩:=two hargs;obtain⟨z,u,h1,h2,h3⟩:=max2K_some (C:=C) hk (h.get p) (h.get q);have h2':=h2 argTypes type;simp only[if_true]at h2';exact hex (v:=Builtin.max_ argTypes type #[a.eval p,a.eval q]) (fun cs=>by simp only[builtin,hm]) h2'
   ·rename_i x y hargs;obtain⟨p,q,rfl,rfl,hm⟩:=two hargs;obtain⟨z,u,h1,h2,h3⟩:=max2K_some (C:=C) hk (h.get p) (h.get q);have h2':=h2 argTypes type;simp only[Bool.false_eq_true,if_false]at h2';exact hex (v:=Builtin.min_ argTypes type #[a.eval p,a.eval q]) (fun cs=>by simp only[builtin,hm]) h2'
   ·simp[quietO]at hq
   ·simp at hk
  ·simp[quietO]at hq
  ·simp at hk
 ·simp at hk
theorem sliceK_pure {t:TypeId} {x:A} {lo hi:Option Operand} {k:A→Sg→Option ρ} {r:ρ} {v:Value} {vw:Bool} (h:RelG E G σ a w) (hk:sliceK C σ t x lo hi vw k = some r)
  (hv:VA (Imm E G σ w) σ.hp.length G w x v):∃u,∀w2,(Instr.sliceAt t v (lo.map a.eval) (hi.map a.eval) none).run C.P w2=.ok u w2:=by
 unfold sliceK at hk;split at hk
 ·rename_i nn s_;split at hk
  ·rename_i ht;obtain⟨rfl,hsl⟩:=datStr hv;obtain⟨l,hk,hlo⟩:=intOptK_some h hk;obtain⟨m,hk,hhi⟩:=intOptK_some h hk;obtain⟨h0,h1,h2,hk⟩:=subs_some hk;exact⟨.string (s_.extract l.toNat m.toNat),fun w2=>by simp[Instr.sliceAt,Instr.slice,run_underlying ht,run_bounds hlo hhi h0 h1 h2 (Nat.le_refl _)]⟩
  ·simp at hk
 ·split at hk
  ·rename_i e he;split at hk
   ·rename_i hs;obtain⟨l,hk,hlo⟩:=intOptK_some h hk;obtain⟨m,hk,hhi⟩:=intOptK_some h hk;obtain⟨h0,h1,h2,hk⟩:=subl_some hk;obtain⟨p,c,rfl,h3,_⟩:=RdV_list hv.1;exact⟨_,fun w2=>run_sliceAt he hs hlo hhi h0 h1 h2 h3⟩
   ·simp at hk
  ·simp at hk
 ·rename_i id;obtain⟨hid,rfl,_⟩:=hv;split at hk
  ·rename_i e ro dp e' ty xs he ho;obtain⟨p,c,hG,hc3,_⟩:=RdV_list (h.ownRd ho);split at hk
   ·rename_i hs;split at hk
    ·split at hk
     ·simp at hk
     ·obtain⟨m,hk,hhi⟩:=intOptK_some h hk;obtain⟨h0,h1,h2,hk⟩:=subl_some hk;rw[hG];exact⟨_,fun w2=>run_sliceAt (l:=0) he hs (.inl ⟨rfl,rfl⟩) hhi h0 h1 h2 hc3⟩
    ·obtain⟨l,hk,hlo⟩:=intOptK_some h hk;obtain⟨m,hk,hhi⟩:=intOptK_some h hk;obtain⟨h0,h1,h2,hk⟩:=subl_some hk;rw[hG];exact⟨_,fun w2=>run_sliceAt he hs hlo hhi h0 h1 h2 hc3⟩
   ·simp at hk
  ·simp at hk
 ·simp at hk
theorem max2K_pure {op:Bool} {x y:A} {k:A→Option ρ} {r:ρ} {v u:Value} {I:Nat→Prop} {N:Nat} (hk:max2K op x y k = some r) (hv:VA I N G w x v) (hu:VA I N G w y u) :
  ∃s,∀w2 ts ty,((if op then Builtin.max_ else Builtin.min_) ts ty #[v,u]).run C.P w2=.ok s w2:=by
 unfold max2K at hk;split at hk
 ·rename_i n1 kd p n2 kd2 q;have h1:=datInt hv;have h2:=datInt hu;subst h1;subst h2
  have hv2:∀w2,VA I N G w2 (.l (.dat n1 (.int kd) p)) (.int kd p):=fun w2=>⟨RdV_int.2 rfl,fun _=>trivial⟩;have hu2:∀w2,VA I N G w2 (.l (.dat n2 (.int kd2) q)) (.int kd2 q):=fun w2=>⟨RdV_int.2 rfl,fun _=>trivial⟩;refine⟨.int kd (if op then(if q>p then q else p)else(if q<p then q else p)),fun w2 ts ty=>?_⟩;obtain⟨z,s,hz,hs,hva⟩:=max2K_some (C:=C) (w:=w2) (op:=op) (x:=.l (.dat n1 (.int kd) p)) (y:=.l (.dat n2 (.int kd2) q)) (k:=fun z=>some z) (r:=.l (.dat true (.int kd) (if op then(if q>p then q else p)else(if q<p then q else p)))) rfl (hv2 w2) (hu2 w2);obtain rfl:=Option.some.inj hz;have:=datInt hva;subst this;exact hs ts ty
 ·simp at hk
theorem opK_pure {o:Oper}{k:A→Sg→Option ρ}{r:ρ}(h:RelG E G σ a w)(hq:pureO o=true)(hk:opK C σ o.op k=some r):∃u,∀w2,(execOp a.eval o).run C.P w2=.ok (.value u) w2:=by
 obtain⟨dst,op,type,pos,after,guard⟩:=o;unfold pureO at hq;simp only at hq hk;split at hq
 ·exact⟨_,fun w2=>by simp[execOp];rfl⟩
 ·exact⟨_,fun w2=>by simp[execOp];rfl⟩
 ·simp only[opK]at hk;obtain⟨u,hu⟩:=sliceK_pure h hk (h.get _);exact⟨u,fun w2=>by
   have:=hu w2;simp only[execOp];simp only[Option.map_none,Sem.run_bind,this,Result.andThen_ok,Sem.run_pure]⟩
 ·rename_i c;obtain⟨callee,args,argTypes⟩:=c;simp only at hq;have two:∀{x y:A},args.toList.map (getA σ)=[x,y]→∃p q,x=getA σ p∧y=getA σ q∧args.map a.eval=#[a.eval p,a.eval q]:=by
   intro x y hargs;have hlist:∀{xs:List Value},args.toList.map a.eval=xs→args.map a.eval=xs.toArray:=fun hx=>by rw[mapL,hx]
   cases hal:args.toList with
   | nil=>rw[hal]at hargs;simp at hargs
   | cons p q =>
    cases q with
    | nil=>rw[hal]at hargs;simp at hargs
    | cons p2 q =>
     cases q with
     | cons _ _=>rw[hal]at hargs;simp at hargs
     | nil =>
      rw[hal]at hargs;simp only[List.map_cons,List.map_nil,List.cons.injEq,and_true]at hargs;obtain⟨rfl,rfl⟩:=hargs;exact⟨p,p2,rfl,rfl,hlist (by rw[hal];rfl)⟩
  split at hq
  ·simp only[opK,builtinK]at hk;generalize hargs:args.toList.map (getA σ)=xs at hk;match xs,hargs,hk with
   | [],_,hk=>simp at hk
   | [_],_,hk=>simp at hk
   | _::_::_::_,_,hk=>simp at hk
   | [x,y],hargs,hk =>
    simp only at hk;obtain⟨p,q,rfl,rfl,hm⟩:=two hargs;obtain⟨s,hs⟩:=max2K_pure (C:=C) hk (h.get p) (h.get q);refine⟨s,fun w2=>?_⟩;have h2':=hs w2 argTypes type;simp only[if_true]at h2';simp only[execOp,resolve,Sem.run_bind,Sem.run_pure,Result.andThen_ok,invoke,builtin,hm,h2']
  ·simp only[opK,builtinK]at hk;generalize hargs:args.toList.map (getA σ)=xs at hk;match xs,hargs,hk with
   | [],_,hk=>simp at hk
   | [_],_,hk=>simp at hk
   | _::_::_::_,_,hk=>simp at hk
   | [x,y],hargs,hk =>
    simp only at hk;obtain⟨p,q,rfl,rfl,hm⟩:=two hargs;obtain⟨s,hs⟩:=max2K_pure (C:=C) hk (h.get p) (h.get q);refine⟨s,fun w2=>?_⟩;have h2':=hs w2 argTypes type;simp only[Bool.false_eq_true,if_false]at h2';simp only[execOp,resolve,Sem.run_bind,Sem.run_pure,Result.andThen_ok,invoke,builtin,hm,h2']
  ·cases hq
 ·cases hq
theorem operK_pure {k:Sg→Option ρ} {r:ρ} {o:Oper} (h:RelG E G σ a w) (hq:pureO o = true) (hk:operK C ops σ o k = some r) (hw:Region.wanted o (yielded ops a.tmps) = true) :
  ∃u,∀w2,(execOp a.eval o).run C.P w2=.ok (.value u) w2:=by
 unfold operK at hk;split at hk
 ·exact opK_pure h hq hk
 ·rename_i j want hgd;split at hk
  ·rename_i d hdj;split at hk
   ·rename_i nn b hget;have hv:=h.get (.tmp d);rw[hget]at hv;have hb:=datBool hv;simp only[Act.eval]at hb;have hy:yielded ops a.tmps j=some b:=by
     unfold yielded;rw[hdj];simp only[Option.bind_some];cases ht:a.tmps[d]? with
     | none=>rw[Array.getD_eq_getD_getElem?,ht]at hb;simp[undef]at hb
     | some u =>
      rw[Array.getD_eq_getD_getElem?,ht]at hb;simp only[Option.getD_some]at hb;subst hb;rfl
    have hbw:b=want:=by
     simp only[Region.wanted,hgd,hy]at hw;cases b<;>cases want<;>first | rfl | (exact absurd hw (by decide))
    subst hbw;have ref:RelG E G { σ with env:=σ.env.set d (boolA b) } a w:=h.refine d (by
     show VA _ _ _ _ (boolA b) _;rw[hb];exact boolVA)
    have go:∀k':Sg→Option ρ,putK σ (some d) (boolA b) k'=k' { σ with env:=σ.env.set d (boolA b) }:=fun k'=>by simp only[putK,setK_eq]
    cases b with
    | true =>
     simp only[cond_true]at hk;rw[go]at hk;exact opK_pure ref hq hk
    | false =>
     simp only[cond_false]at hk;rw[go]at hk;exact opK_pure ref hq hk
   ·rename_i hget;exfalso;have hv:=h.get (.tmp d);rw[hget]at hv;have hv:a.tmps.getD d undef=undef:=hv;have hy:yielded ops a.tmps j=none:=by
     unfold yielded;rw[hdj];simp only[Option.bind_some];cases ht:a.tmps[d]? with
     | none=>rfl
     | some u =>
      rw[Array.getD_eq_getD_getElem?,ht]at hv;simp only[Option.getD_some]at hv;subst hv;rfl
    simp only[Region.wanted,hgd,hy]at hw;cases want<;>exact absurd hw (by decide)
   ·simp at hk
  ·simp at hk
theorem operK_quiet {k:Sg→Option ρ} {r:ρ} {o:Oper} (h:RelG E G σ a w) (hq:quietO o = true) (hk:operK C ops σ o k = some r) (hw:Region.wanted o (yielded ops a.tmps) = true) :
  ∃u,(execOp a.eval o).run C.P w=.ok (.value u) w:=by
 unfold operK at hk;split at hk
 ·exact opK_quiet h hq hk
 ·rename_i j want hgd;split at hk
  ·rename_i d hdj;split at hk
   ·rename_i nn b hget;have hv:=h.get (.tmp d);rw[hget]at hv;have hb:=datBool hv;simp only[Act.eval]at hb;have hy:yielded ops a.tmps j=some b:=by
     unfold yielded;rw[hdj];simp only[Option.bind_some];cases ht:a.tmps[d]? with
     | none=>rw[Array.getD_eq_getD_getElem?,ht]at hb;simp[undef]at hb
     | some u =>
      rw[Array.getD_eq_getD_getElem?,ht]at hb;simp only[Option.getD_some]at hb;subst hb;rfl
    have hbw:b=want:=by
     simp only[Region.wanted,hgd,hy]at hw;cases b<;>cases want<;>first | rfl | (exact absurd hw (by decide))
    subst hbw;have ref:RelG E G { σ with env:=σ.env.set d (boolA b) } a w:=h.refine d (by
     show VA _ _ _ _ (boolA b) _;rw[hb];exact boolVA)
    have go:∀k':Sg→Option ρ,putK σ (some d) (boolA b) k'=k' { σ with env:=σ.env.set d (boolA b) }:=fun k'=>by simp only[putK,setK_eq]
    cases b with
    | true =>
     simp only[cond_true]at hk;rw[go]at hk;exact opK_quiet ref hq hk
    | false =>
     simp only[cond_false]at hk;rw[go]at hk;exact opK_quiet ref hq hk
   ·rename_i hget;exfalso;have hv:=h.get (.tmp d);rw[hget]at hv;have hv:a.tmps.getD d undef=undef:=hv;have hy:yielded ops a.tmps j=none:=by
     unfold yielded;rw[hdj];simp only[Option.bind_some];cases ht:a.tmps[d]? with
     | none=>rfl
     | some u =>
      rw[Array.getD_eq_getD_getElem?,ht]at hv;simp only[Option.getD_some]at hv;subst hv;rfl
    simp only[Region.wanted,hgd,hy]at hw;cases want<;>exact absurd hw (by decide)
   ·simp at hk
  ·simp at hk
def Agr (I:Nat→Prop)(w w':World):Prop:=∀b,I b→w'.heap[b]? = w.heap[b]?
theorem Agr.refl (I:Nat→Prop)(w:World):Agr I w w:=fun _ _=>rfl
theorem Agr.trans {I:Nat→Prop}{a b c:World}(h:Agr I a b)(k:Agr I b c):Agr I a c:=fun x hx=>(k x hx).trans (h x hx)
theorem loadK_data {t:TypeId} {x:A} {k:A→Option ρ} {r:ρ} {v:Value} (h:RelG E G σ a w) (hk:loadK C σ t x k = some r) (hv:VA (Imm E G σ w) σ.hp.length G w x v)
  (hx:frzPtr σ x=true):∃u,∀w2,Agr (Imm E G σ w) w w2→(Instr.loadAt t v).run C.P w2=.ok u w2:=by
 unfold frzPtr at hx;split at hx
 ·rename_i ty y;simp only[loadK]at hk;split at hk
  ·rename_i hf;obtain⟨b,o,cs,rfl,hb,hc,hr⟩:=hv;refine⟨mkV ty cs,fun w2 ha=>run_load_data (S:=Imm E G σ w) hf (fun j hj=>?_) (hr.mono (fun _ hb=>hb) (fun b hb=>ha b hb) ty)⟩;rw[←hc j hj];exact World.cell?_of_block (ha b hb)
  ·simp at hk
 ·rename_i id j;obtain⟨hid,b,hg,rfl⟩:=hv;simp only[loadK]at hk;split at hx
  ·rename_i e cs ho;rw[ho]at hk;simp only at hk
   ·have hor:=h.obs id _ ho;simp only[OR,if_true]at hor;obtain⟨b',arr,hg',hh,hvs,hib⟩:=hor;rw[hg]at hg';simp only[Value.pointer.injEq,Option.some.injEq,Addr.mk.injEq,and_true]at hg';subst hg';split at hk
    ·rename_i hag;split at hk
     ·rename_i hsz;obtain⟨hsz,rfl⟩:=hsz;have hlen:∀(cs:List L) (vs:List Value),VLs (Imm E G σ w) σ.hp.length G w cs vs→cs.length=vs.length:=by
       intro cs;induction cs with
       | nil=>intro vs hh;cases vs with
        | nil=>rfl
        | cons _ _=>exact hh.elim
       | cons c cs ih=>intro vs hh;cases vs with
        | nil=>exact hh.elim
        | cons v vs=>simp[ih vs hh.2]
      have hl:=hlen _ _ hvs;refine⟨.agg arr,fun w2 ha=>?_⟩;have hh2:w2.heap[b]? = some (.cells arr e (0,0)):=by rw[ha b hib];exact hh
      have hlc:=run_loadCells_list (P:=C.P) w2 ⟨b,0,none⟩ arr.toList fun j v hj=>by
       rw[add_none,Nat.zero_add,cell_of_row w2 b _ arr e (0,0) hh2];simpa using hj
      rw[←hl]at hlc;simp[Instr.loadAt,Instr.sureAddr,loadVar,isAggT_run hag w2,run_sizeOf hsz w2,hlc]
     ·simp at hk
    ·rename_i hag;split at hk
     ·rename_i y hj;have key:∀(cs:List L) (vs:List Value) (j:Nat) (y:L),VLs (Imm E G σ w) σ.hp.length G w cs vs→cs[j]? = some y→∃u,vs[j]? = some u:=by
       intro cs;induction cs with
       | nil=>intro vs j y _ hy;simp at hy
       | cons c cs ih=>intro vs j y hh hy;cases vs with
        | nil=>exact hh.elim
        | cons v vs=>cases j with
         | zero=>exact⟨v,rfl⟩
         | succ j=>simp at hy ⊢;exact ih vs j y hh.2 hy
      obtain⟨u,hu⟩:=key _ _ _ _ hvs hj;refine⟨u,fun w2 ha=>?_⟩;have hh2:w2.heap[b]? = some (.cells arr e (0,0)):=by rw[ha b hib];exact hh
      have hcell:w2.cell? ⟨b,j,none⟩=some u:=by rw[cell_of_row w2 b _ arr e (0,0) hh2];simpa using hu
      simp[Instr.loadAt,Instr.sureAddr,loadVar,isAggT_run hag w2,load,Sem.run,hcell]
     ·simp at hk
    ·simp at hk
  ·simp at hx
 ·simp at hx
theorem indexAddrK_data {t:TypeId} {x i:A} {k:A→Option ρ} {r:ρ} {v u:Value} (h:RelG E G σ a w) (hk:indexAddrK C σ t x i k = some r) (hv:VA (Imm E G σ w) σ.hp.length G w x v) (hu:VA (Imm E G σ w) σ.hp.length G w i u)
  (hx:datSl σ x=true):∃s,∀w2,(Instr.indexAt t v u).run C.P w2=.ok s w2:=by
 unfold datSl at hx;split at hx
 ·rename_i nn ty xs;unfold indexAddrK at hk;split at hk
  ·rename_i e _ _ i he;have hut:=elT_some he;have:=datInt hu;subst this;simp only at hk;split at hk
   ·rename_i hsz;obtain⟨y,h0,h1,hy,hk⟩:=idx_some hk;obtain⟨p,c,rfl,hc1,hc2,hc3,hc4⟩:=RdV_list hv.1;obtain⟨b,o,rfl,hb,hel⟩:=hc4 (by intro hn;rw[hn]at h1;simp at h1;omega)
    refine⟨.pointer (some ⟨b,o+i.toNat*ty.wid,none⟩),fun w2=>?_⟩;simp[Instr.indexAt,run_underlying hut,asIntOf,h0,h1,run_sizeOf hsz,add_none]
   ·simp at hk
  ·simp at hk
 ·rename_i id;split at hx
  ·rename_i dp e' ty xs ho;unfold indexAddrK at hk;split at hk
   ·rename_i e _ _ i he;have hut:=elT_some he;have:=datInt hu;subst this;simp only[ho]at hk;split at hk
    ·rename_i hsz;obtain⟨y,h0,h1,hy,hk⟩:=idx_some hk;have hor:=h.obs id _ ho;simp only[OR]at hor;obtain⟨_,rfl,_⟩:=hv;obtain⟨p,c,hgv,hc1,hc2,hc3,hc4⟩:=RdV_list hor;obtain⟨b,o,rfl,hb,hel⟩:=hc4 (by intro hn;rw[hn]at h1;simp at h1;omega)
     refine⟨.pointer (some ⟨b,o+i.toNat*ty.wid,none⟩),fun w2=>?_⟩;rw[hgv];simp[Instr.indexAt,run_underlying hut,asIntOf,h0,h1,run_sizeOf hsz,add_none]
    ·simp at hk
   ·simp at hk
  ·simp at hx
 ·simp at hx
theorem operK_data {k:Sg→Option ρ} {r:ρ} {o:Oper} (h:RelG E G σ a w) (hq:dataO σ o = true) (hk:operK C ops σ o k = some r) :
  ∃u,∀w2,Agr (Imm E G σ w) w w2→(execOp a.eval o).run C.P w2=.ok (.value u) w2:=by
 obtain⟨dst,op,type,pos,after,guard⟩:=o;unfold dataO at hq;split at hq
 ·rename_i t q hg ho;simp only at hg ho;subst hg;subst ho;simp only[operK,opK]at hk;obtain⟨u,hu⟩:=loadK_data h hk (h.get q) hq;exact⟨u,fun w2 ha=>by simp[execOp,hu w2 ha]⟩
 ·rename_i t x i hg ho;simp only at hg ho;subst hg;subst ho;simp only[operK,opK]at hk;obtain⟨u,hu⟩:=indexAddrK_data h hk (h.get x) (h.get i) hq;exact⟨u,fun w2 _=>by simp[execOp,hu w2]⟩
 ·simp at hq
def stillOp (P:Program)(ops:Array Oper)(i:Nat)(K:Act→World→Prop)(a:Act)(w:World):Prop :=
 match ops[i]? with
 | none=>False
 | some o=>if Region.wanted o (yielded ops a.tmps)then ∃v,(execOp a.eval o).run P w=.ok (.value v) w∧K (a.put o.dst v) w else K (a.put o.dst undef) w
def wpW (P:Program)(ops:Array Oper)(Q:Exit→Act→World→Prop)(I:Nat→Prop):Nat→Array Bool→Act→World→Prop
 | 0,listed,a,w=>Region.ready .any ops listed=[]∧Q .normal a w
 | fuel + 1,listed,a,w=>(Region.ready .any ops listed = []→Q .normal a w)∧∀ i∈Region.ready .any ops listed,
   if quietAt ops i=true then stillOp P ops i (wpW P ops Q I fuel (listed.setIfInBounds i true)) a w else wpOp P ops Q i (fun a' w'=>Agr I w w'∧wpW P ops Q I fuel (listed.setIfInBounds i true) a' w') a w
theorem stillOp.wpOp {P:Program}{Q:Exit→Act→World→Prop}{i:Nat}{K:Act→World→Prop}(h:stillOp P ops i K a w):wpOp P ops Q i K a w:=by
 unfold stillOp at h;unfold Go.wpOp;split at h
 ·exact h.elim
 ·rename_i o ho;rw[ho];simp only;split at h
  ·rename_i hw;obtain⟨v,h1,h2⟩:=h;rw[if_pos hw];refine .inl ?_;unfold Oper.wp;rw[h1];exact h2
  ·rename_i hw;rw[if_neg hw];exact h
theorem wpW_any {P:Program}{Q:Exit→Act→World→Prop}{I:Nat→Prop}:(fuel:Nat)→(listed:Array Bool)→(a:Act)→(w:World)→wpW P ops Q I fuel listed a w→wpAny P .any ops Q fuel listed a w
 | 0,_,_,_,h=>h
 | fuel+1,listed,a,w,h=>⟨h.1,fun i hi=>by
  have:=h.2 i hi;split at this
  ·exact(show stillOp P ops i _ a w from by
    unfold stillOp at this ⊢;split at this
    ·exact this
    ·rename_i o ho;split at this
     ·rename_i hw;obtain⟨v,h1,h2⟩:=this;rw[if_pos hw];exact⟨v,h1,wpW_any fuel _ _ _ h2⟩
     ·rename_i hw;rw[if_neg hw];exact wpW_any fuel _ _ _ this).wpOp
  ·exact wpOp_mono (fun a w h=>wpW_any fuel _ _ _ h.2) this⟩
theorem wpW_sub {P:Program}{Q:Exit→Act→World→Prop}{I I':Nat→Prop}(hI:∀b,I' b→I b):(fuel:Nat)→(listed:Array Bool)→(a:Act)→(w:World)→wpW P ops Q I fuel listed a w→wpW P ops Q I' fuel listed a w
 | 0,_,_,_,h=>h
 | fuel+1,listed,a,w,h=>⟨h.1,fun i hi=>by
  have:=h.2 i hi;split at this
  ·rename_i hq;rw[if_pos hq];unfold stillOp at this ⊢;split at this
   ·exact this
   ·rename_i o ho;split at this
    ·rename_i hw;obtain⟨v,h1,h2⟩:=this;rw[if_pos hw];exact⟨v,h1,wpW_sub hI fuel _ _ _ h2⟩
    ·rename_i hw;rw[if_neg hw];exact wpW_sub hI fuel _ _ _ this
  ·rename_i hq;rw[if_neg hq];exact wpOp_mono (fun a w h=>⟨fun b hb=>h.1 b (hI b hb),wpW_sub hI fuel _ _ _ h.2⟩) this⟩
def YieldsW (P:Program)(ops:Array Oper)(o:Oper)(v:Value)(a:Act)(w:World):Prop :=
 (Region.wanted o (yielded ops a.tmps)=true∧(execOp a.eval o).run P w=.ok (.value v) w)∨(Region.wanted o (yielded ops a.tmps)=false∧v=undef)
theorem YieldsW.still {P:Program}{i:Nat}{o:Oper}{v:Value}(hi:ops[i]? = some o)(hy:YieldsW P ops o v a w){K:Act→World→Prop}(h:K (a.put o.dst v) w):stillOp P ops i K a w:=by
 unfold stillOp;rw[hi];simp only;rcases hy with⟨hw,hv⟩ | ⟨hw,rfl⟩
 ·rw[if_pos hw];exact⟨v,hv,h⟩
 ·rw[if_neg (by rw[hw];simp)];exact h
theorem stillOp_put {P:Program} {j:Nat} {oi oj:Oper} {v:Value} (hj:ops[j]? = some oj) (hap:oi.apart ops oj = true) (hsi:∀ cs b,oi.op≠.select cs b) (hsj:∀ cs b,oj.op≠.select cs b)
  {K:Act→World→Prop} (hy:YieldsW P ops oi v a w) (h:stillOp P ops j K (a.put oi.dst v) w):stillOp P ops j (fun a' w'=>YieldsW P ops oi v a' w'∧K (a'.put oi.dst v) w') a w:=by
 obtain⟨h1,h2,h3⟩:=Oper.apart_spec hap;have keep:∀u,YieldsW P ops oi v (a.put oj.dst u) w:=fun u=>by
  unfold YieldsW at hy ⊢;rw[wanted_put oi a oj.dst u h3,execOp_put oi hsi a oj.dst u h3];exact hy
 unfold stillOp at h ⊢;rw[hj]at h ⊢;simp only at h ⊢;rw[wanted_put oj a oi.dst v h1,execOp_put oj hsj a oi.dst v h1]at h;split
 ·rename_i hw;rw[if_pos hw]at h;obtain⟨u,h4,h5⟩:=h;exact⟨u,h4,keep u,by rw[←Act.put_comm a v u h2];exact h5⟩
 ·rename_i hw;rw[if_neg hw]at h;exact⟨keep _,by rw[←Act.put_comm a v undef h2];exact h⟩
def Cl (ops:Array Oper)(listed:Array Bool):Prop:=∀(x:Nat) (o:Oper),listed.getD x false=true→ops[x]? = some o→∀e∈o.after.toList,Region.binds .any e=true→listed.getD e.on false=true
theorem Cl.set {listed:Array Bool}{i:Nat}(h:Cl ops listed)(hi:i∈Region.ready .any ops listed):Cl ops (listed.setIfInBounds i true):=by
 intro x o hx ho e he hb;by_cases hxi:i=x
 ·subst hxi;obtain⟨_,o',ho',hall⟩:=mem_ready.1 hi;rw[ho]at ho';obtain rfl:=Option.some.inj ho';exact getD_set_true (hall e (Array.mem_toList_iff.1 he) hb)
 ·rw[getD_set_ne false hxi]at hx;exact getD_set_true (h x o hx ho e he hb)
theorem wpW_first {P:Program} {Q:Exit→Act→World→Prop} {I:Nat→Prop} {i:Nat} {oi:Oper} {v:Value} (hi:ops[i]? = some oi) (hq:quietAt ops i = true) (hsel:∀ (j:Nat) (o:Oper) cs b,ops[j]? = some o→o.op≠.select cs b)
  (hafter:∀(i:Nat) (o:Oper),ops[i]? = some o→∀e∈o.after.toList,Region.binds .any e=true→e.on<i) :
  ∀(fuel:Nat) (listed:Array Bool) (a:Act),listed.size=ops.size→Cl ops listed →
   (∀j oj,ops[j]? = some oj→j≠i→listed.getD j true=false→(∀e∈oj.after,Region.binds .any e=true→e.on≠i)→oi.apart ops oj=true) →
   (∀j oj,ops[j]? = some oj→j≠i→listed.getD j true=false→quietAt ops j=true∨(((ancAll ops.toList [])[j]?).getD 0).testBit i=true) →
   i∈Region.ready .any ops listed→YieldsW P ops oi v a w →
   wpW P ops Q I fuel (listed.setIfInBounds i true) (a.put oi.dst v) w→wpW P ops Q I (fuel+1) listed a w:=by
 intro fuel;induction fuel with
 | zero =>
  intro listed a hs hcl _ _ hr hy H;refine⟨fun h=>(by rw[h]at hr;cases hr),fun j hj=>?_⟩
  by_cases hji:j=i
  ·subst hji;rw[if_pos hq];exact hy.still hi H
  ·have:=ready_mono hj hji;rw[H.1]at this;cases this
 | succ fuel ih =>
  intro listed a hs hcl hfree hqa hr hy H;refine⟨fun h=>(by rw[h]at hr;cases hr),fun j hj=>?_⟩
  by_cases hji:j=i
  ·subst hji;rw[if_pos hq];exact hy.still hi H
  ·have h1:=H.2 j (ready_mono hj hji);obtain⟨hjun,oj,hoj,hall⟩:=mem_ready.1 hj;have hiun:listed.getD i false=false:=by
    have h0:=(mem_ready.1 hr).1;have hlt:=(Array.getElem?_eq_some_iff.1 hi).1
    rwa [getD_listed (b':=true) (by omega)]
   have hnot:∀e∈oj.after,Region.binds .any e=true→e.on≠i:=fun e he hb heq=>by
    have h1:=hall e he hb;rw[heq,hiun]at h1;cases h1
   have hqj:quietAt ops j=true:=by
    rcases hqa j oj hoj hji hjun with h2 | h2
    ·exact h2
    ·exfalso;cases hg:(ancAll ops.toList [])[j]? with
     | none=>rw[hg]at h2;simp at h2
     | some x =>
      rw[hg]at h2;simp only[Option.getD_some]at h2;have:=anc_closed (ops:=ops) (L:=fun x=>listed.getD x false=true) (fun x o' hx ho' d hd hb=>hcl x o' hx ho' d hd hb) j x oj hg hoj (hafter j oj hoj) hafter (fun d hd hb=>hall d (Array.mem_toList_iff.1 hd) hb) i h2;rw[hiun]at this;cases this
   rw[if_pos hqj]at h1 ⊢;have h2:=stillOp_put hoj (hfree j oj hoj hji hjun hnot) (fun cs b=>hsel i oi cs b hi) (fun cs b=>hsel j oj cs b hoj) hy h1;have sub:∀{k:Nat},(listed.setIfInBounds j true).getD k true=false→listed.getD k true=false:=fun{k} hun=>by
    by_cases hjk:j=k
    ·subst hjk;exact hjun
    ·rw[getD_set_ne true hjk]at hun;exact hun
   have hlt:j<listed.size:=by rw[hs];exact(Array.getElem?_eq_some_iff.1 hoj).1
   unfold stillOp at h2 ⊢;rw[hoj]at h2 ⊢;simp only at h2 ⊢;have goal:∀a',(YieldsW P ops oi v a' w∧wpW P ops Q I fuel ((listed.setIfInBounds i true).setIfInBounds j true) (a'.put oi.dst v) w)→wpW P ops Q I (fuel+1) (listed.setIfInBounds j true) a' w:=fun a' h3=>by
    refine ih (listed.setIfInBounds j true) a' (by simp[hs]) (hcl.set hj) (fun k ok hk hki hun hno=>hfree k ok hk hki (sub hun) hno) (fun k ok hk hki hun=>hqa k ok hk hki (sub hun)) (ready_mono hr (Ne.symm hji)) h3.1 ?_
    rw[Array.setIfInBounds_comm _ _ hji];exact h3.2
   split
   ·rename_i hw;rw[if_pos hw]at h2;obtain⟨u,h4,h5⟩:=h2;exact⟨u,h4,goal _ h5⟩
   ·rename_i hw;rw[if_neg hw]at h2;exact goal _ h2
theorem wpW_firstP {P:Program} {Q:Exit→Act→World→Prop} {I:Nat→Prop} {S:World→Prop} (hSI:∀ w w',S w→Agr I w w'→S w') (hQ:∀ c a w,¬ Q (.panic c) a w) {i:Nat} {oi:Oper} {v:Value} (hi:ops[i]? = some oi) (hsel:∀ (j:Nat) (o:Oper) cs b,ops[j]? = some o→o.op≠.select cs b) :
  ∀(fuel:Nat) (listed:Array Bool) (a:Act) (w:World),listed.size=ops.size→S w →
   (∀j oj,ops[j]? = some oj→j≠i→listed.getD j true=false→(∀e∈oj.after,Region.binds .any e=true→e.on≠i)→oi.apart ops oj=true) →
   i∈Region.ready .any ops listed→YieldsIf P ops S oi v a →
   wpW P ops Q I fuel (listed.setIfInBounds i true) (a.put oi.dst v) w→wpW P ops Q I (fuel+1) listed a w:=by
 intro fuel;have toW:∀{a:Act} {w:World},S w→YieldsIf P ops S oi v a→YieldsW P ops oi v a w:=fun{a w} hs hy=>hy.imp (fun h=>⟨h.1,h.2 w hs⟩) id;have self:∀{a:Act} {w:World} {K:Act→World→Prop},S w→YieldsIf P ops S oi v a→K (a.put oi.dst v) w→if quietAt ops i=true then stillOp P ops i K a w else wpOp P ops Q i (fun a' w'=>Agr I w w'∧K a' w') a w:=fun{a w K} hs hy hk=>by
  split
  ·exact(toW hs hy).still hi hk
  ·exact((toW hs hy).still (K:=fun a' w'=>Agr I w w'∧K a' w') hi ⟨Agr.refl _ _,hk⟩).wpOp
 induction fuel with
 | zero =>
  intro listed a w hs hS _ hr hy H;refine⟨fun h=>(by rw[h]at hr;cases hr),fun j hj=>?_⟩
  by_cases hji:j=i
  ·subst hji;exact self hS hy H
  ·have:=ready_mono hj hji;rw[H.1]at this;cases this
 | succ fuel ih =>
  intro listed a w hs hS hfree hr hy H;refine⟨fun h=>(by rw[h]at hr;cases hr),fun j hj=>?_⟩
  by_cases hji:j=i
  ·subst hji;exact self hS hy H
  ·have h1:=H.2 j (ready_mono hj hji);obtain⟨hjun,oj,hoj,hall⟩:=mem_ready.1 hj;have hiun:listed.getD i false=false:=by
    have h0:=(mem_ready.1 hr).1;have hlt:=(Array.getElem?_eq_some_iff.1 hi).1
    rwa [getD_listed (b':=true) (by omega)]
   have hnot:∀e∈oj.after,Region.binds .any e=true→e.on≠i:=fun e he hb heq=>by
    have h1:=hall e he hb;rw[heq,hiun]at h1;cases h1
   have hap:=hfree j oj hoj hji hjun hnot;have sub:∀{k:Nat},(listed.setIfInBounds j true).getD k true=false→listed.getD k true=false:=fun{k} hun=>by
    by_cases hjk:j=k
    ·subst hjk;exact hjun
    ·rw[getD_set_ne true hjk]at hun;exact hun
   have goal:∀a' w',S w'→(YieldsIf P ops S oi v a'∧wpW P ops Q I fuel ((listed.setIfInBounds i true).setIfInBounds j true) (a'.put oi.dst v) w')→wpW P ops Q I (fuel+1) (listed.setIfInBounds j true) a' w':=fun a' w' hS' h3=>by
    refine ih (listed.setIfInBounds j true) a' w' (by simp[hs]) hS' (fun k ok hk hki hun hno=>hfree k ok hk hki (sub hun) hno) (ready_mono hr (Ne.symm hji)) h3.1 ?_
    rw[Array.setIfInBounds_comm _ _ hji];exact h3.2
   split at h1
   ·rename_i hq;rw[if_pos hq];obtain⟨p1,p2,p3⟩:=Oper.apart_spec hap;have keep:∀u,YieldsIf P ops S oi v (a.put oj.dst u):=fun u=>hy.of_same (execOp_put oi (fun cs b=>hsel i oi cs b hi) a oj.dst u p3) (wanted_put oi a oj.dst u p3);unfold stillOp at h1 ⊢;rw[hoj]at h1 ⊢;simp only at h1 ⊢;rw[wanted_put oj a oi.dst v p1,execOp_put oj (fun cs b=>hsel j oj cs b hoj) a oi.dst v p1]at h1;split
    ·rename_i hw;rw[if_pos hw]at h1;obtain⟨u,h4,h5⟩:=h1;exact⟨u,h4,goal _ _ hS ⟨keep u,by rw[←Act.put_comm a v u p2];exact h5⟩⟩
    ·rename_i hw;rw[if_neg hw]at h1;exact goal _ _ hS ⟨keep _,by rw[←Act.put_comm a v undef p2];exact h1⟩
   ·rename_i hq;rw[if_neg hq];exact wpOp_mono (fun a' w' h=>⟨h.2.1,goal a' w' (hSI w w' hS h.2.1) ⟨h.1,h.2.2⟩⟩) (wpOp_putIf hoj hap (fun cs b=>hsel i oi cs b hi) (fun cs b=>hsel j oj cs b hoj) (fun c a w h=>(hQ c _ w h).elim) hy h1)
theorem seqK_some (hC:Ctrs E.d C) {ws:List Nat} (hnos:Region.noSelect ops = true) (hafter:∀ (i:Nat) (o:Oper),ops[i]? = some o→∀ e∈o.after.toList,Region.binds .any e = true→e.on < i)
  (hws:∀o∈ops.toList,(∀t,o.dst=some t→t∈ws∧¬E.F t)∧∀j b t,o.guard=some (j,b)→(ops[j]?).bind (·.dst)=some t→t∈ws) {Q:Exit→Act→World→Prop} (hQp:∀c a w,¬Q (.panic c) a w) :
  (ord:List Nat)→{listed:Array Bool}→{σ:Sg}→{G:Gh}→{a:Act}→{w:World}→{K:Sg→Option ρ}→{r:ρ}→{I:Nat→Prop}→(∀b,I b→Imm E G σ w b)→listed.size=ops.size→Cl ops listed→RelG E G σ a w→seqK C ops (ancAll ops.toList []) ord listed σ K=some r →
   (∀σ' a' w' G',K σ'=some r→RelG E G' σ' a' w'→Kc ws σ σ'→GA E σ σ' G G' w w'→Q .normal a' w')→wpW C.P ops Q I ord.length listed a w
 | [],listed,σ,G,a,w,K,r,I,hI,hs,hcl,h,hk,hQ=>by
  simp only[seqK]at hk;split at hk
  ·rename_i hr;exact⟨hr,hQ σ a w G hk h (Kc.refl _ _) (GA.refl _ _ _ _)⟩
  ·simp at hk
 | i::ord,listed,σ,G,a,w,K,r,I,hI,hs,hcl,h,hk,hQ=>by
  refine wpW_sub hI _ _ _ _ ?_;clear hI I;generalize hII:Imm E G σ w=I;simp only[seqK]at hk;split at hk
  ·rename_i o ho hok;have hom:o∈ops.toList:=by rw[←Array.getElem?_toList]at ho;exact List.mem_of_getElem? ho
   unfold seqOk at hok;simp only[Bool.or_eq_true,Bool.and_eq_true,beq_iff_eq]at hok;have next:i∈Region.ready .any ops listed→∀σ' a' w' G',(seqK C ops (ancAll ops.toList []) ord (listed.setIfInBounds i true) σ' K)=some r→RelG E G' σ' a' w'→Kc ws σ σ'→GA E σ σ' G G' w w'→Agr I w w'∧wpW C.P ops Q I ord.length (listed.setIfInBounds i true) a' w':=fun hi σ' a' w' G' h1 h2 h3 h4 =>
    ⟨fun b hb=>h4.heap b (hII▸hb),seqK_some hC hnos hafter hws hQp ord (fun b hb=>h4.imm b (hII▸hb)) (by simp[hs]) (hcl.set hi) h2 h1 fun σ2 a2 w2 G2 k1 k2 k3 k4=>hQ σ2 a2 w2 G2 k1 k2 (h3.trans k3) (h4.trans k4)⟩
   have hst:=operK_some (a:=a) (w:=w) hC h hk (hws o hom).1 (hws o hom).2;have still:quietO o=true→i∈Region.ready .any ops listed→∃v,YieldsW C.P ops o v a w∧wpW C.P ops Q I ord.length (listed.setIfInBounds i true) (a.put o.dst v) w:=fun hqo hi=>by
    have hn:=hst (fun a' w'=>wpW C.P ops Q I ord.length (listed.setIfInBounds i true) a' w') (fun _ _ _=>False) (fun σ' a' w' G' h1 h2 h3 h4=>(next hi σ' a' w' G' h1 h2 h3 h4).2);cases hw:Region.wanted o (yielded ops a.tmps)with
    | true =>
     rw[hw,if_pos rfl]at hn;obtain⟨u,hu⟩:=operK_quiet h hqo hk hw;refine⟨u,.inl ⟨hw,hu⟩,?_⟩;unfold Oper.wp at hn;rw[hu]at hn;exact hn
    | false =>
     rw[hw]at hn;exact⟨undef,.inr ⟨hw,rfl⟩,by simpa using hn⟩
   have hqat:quietAt ops i=quietO o:=by simp[quietAt,ho]
   rcases hok with(hone | ⟨⟨hr,hq⟩,hfree⟩) | ⟨⟨⟨hr,hq⟩,hfree⟩,hall⟩
   ·
    refine⟨fun h0=>by rw[hone]at h0;simp at h0,fun j hj=>?_⟩
    rw[hone,List.mem_singleton]at hj;subst hj;have hi:j∈Region.ready .any ops listed:=by rw[hone];simp
    split
    ·rename_i hq;rw[hqat]at hq;obtain⟨v,h1,h2⟩:=still hq hi;exact h1.still ho h2
    ·have hn:=hst (fun a' w'=>Agr I w w'∧wpW C.P ops Q I ord.length (listed.setIfInBounds j true) a' w') Q (next hi);unfold wpOp;rw[ho];simp only;split at hn
     ·rename_i hw;rw[if_pos hw];exact .inl hn
     ·rename_i hw;rw[if_neg hw];exact hn
   ·have hi:i∈Region.ready .any ops listed:=by simpa using hr
    have hn:=hst (fun a' w'=>wpW C.P ops Q I ord.length (listed.setIfInBounds i true) a' w') (fun _ _ _=>False) (fun σ' a' w' G' h1 h2 h3 h4=>(next hi σ' a' w' G' h1 h2 h3 h4).2);have hrun:Region.wanted o (yielded ops a.tmps)=true→∃u,∀w2,Agr I w w2→(execOp a.eval o).run C.P w2=.ok (.value u) w2:=fun hw=>by
     rcases hq with hq | hq
     ·have hqo:pureO o=true:=by simpa[pureAt,ho]using hq
      obtain⟨u,hu⟩:=operK_pure h hqo hk hw;exact⟨u,fun w2 _=>hu w2⟩
     ·have hqo:dataO σ o=true:=by simpa[dataAt,ho]using hq
      rw[←hII];exact operK_data h hqo hk
    have:∃v,YieldsIf C.P ops (Agr I w) o v a∧wpW C.P ops Q I ord.length (listed.setIfInBounds i true) (a.put o.dst v) w:=by
     cases hw:Region.wanted o (yielded ops a.tmps)with
     | true =>
      rw[hw,if_pos rfl]at hn;obtain⟨u,hu⟩:=hrun hw;refine⟨u,.inl ⟨hw,hu⟩,?_⟩;unfold Oper.wp at hn;rw[hu w (Agr.refl _ _)]at hn;exact hn
     | false =>
      rw[hw]at hn;exact⟨undef,.inr ⟨hw,rfl⟩,by simpa using hn⟩
    obtain⟨v,h1,h2⟩:=this;exact wpW_firstP (S:=Agr I w) (fun w1 w2 h1 h2=>h1.trans h2) hQp ho (Region.noSelect_spec hnos) ord.length listed a w hs (Agr.refl _ _) (Region.free_spec ho hfree) hi h1 h2
   ·have hi:i∈Region.ready .any ops listed:=by simpa using hr
    rw[hqat]at hq;obtain⟨v,h1,h2⟩:=still hq hi;rw[List.all_eq_true]at hall;refine wpW_first ho (by rw[hqat];exact hq) (Region.noSelect_spec hnos) hafter ord.length listed a hs hcl (Region.free_spec ho hfree) (fun j oj hj hne hun=>?_) hi h1 h2
    have:=hall j (List.mem_range.2 (Array.getElem?_eq_some_iff.1 hj).1);simp only[Bool.or_eq_true,beq_iff_eq]at this;rcases this with((h3 | h3) | h3) | h3
    ·exact absurd h3 hne
    ·rw[hun]at h3;cases h3
    ·exact .inl h3
    ·exact .inr h3
  ·simp at hk
theorem regionX_some (hC:Ctrs E.d C) {id:Nat} {K:Sg→Option ρ} {r:ρ} {ws:List Nat} (h:RelG E G σ a w) (hk:regionX C id ops σ K = some r)
  (hws:∀o∈ops.toList,(∀t,o.dst=some t→t∈ws∧¬E.F t)∧∀j b t,o.guard=some (j,b)→(ops[j]?).bind (·.dst)=some t→t∈ws) (Q:Exit→Act→World→Prop)
  (hQ:∀σ' a' w' G',K σ'=some r→RelG E G' σ' a' w'→Kc ws σ σ'→GA E σ σ' G G' w w'→Q .normal a' w'):(Code.region id ops true).wp C.P Q a w:=by
 unfold regionX at hk;split at hk
 ·rename_i ord _;have f:Frz σ (List.foldl frzA σ ((findD id C.Dr).fz.map fun t=>getA σ (.tmp t))):=foldFrzA_frz _ (.refl _);generalize List.foldl frzA σ ((findD id C.Dr).fz.map fun t=>getA σ (.tmp t))=σ1 at hk f;have h1:=f.rel h;have hkc:Kc ws σ σ1:=⟨f.kp.n,by rw[f.kp.env],fun t _=>by rw[f.kp.env],fun id o ho hr=>f.kp.ob id o ho hr⟩
  have hga:GA E σ σ1 G G w w:=f.keep;clear f;replace hQ:∀σ' a' w' G',K σ'=some r→RelG E G' σ' a' w'→Kc ws σ1 σ'→GA E σ1 σ' G G' w w'→Q .normal a' w':=fun σ' a' w' G' k1 k2 k3 k4=>hQ σ' a' w' G' k1 k2 (hkc.trans k3) (hga.trans k4);clear hkc hga h;replace h:=h1;clear h1;unfold regionS at hk;split at hk
  ·rename_i hc;simp only[Bool.and_eq_true,beq_iff_eq,List.all_eq_true,List.mem_range]at hc;obtain⟨⟨hnos,hlen⟩,haf⟩:=hc;have hafter:∀(i:Nat) (o:Oper),ops[i]? = some o→∀e∈o.after.toList,Region.binds .any e=true→e.on<i:=fun i o ho e he hb=>by
    have:=haf i (Array.getElem?_eq_some_iff.1 ho).1;rw[ho]at this;simp only[List.all_eq_true]at this;have:=this e he;rw[hb]at this;simpa using this
   refine wp_mono (Q:=fun e a w=>e=.normal∧Q .normal a w) ?_ fun e a w hq=>by obtain⟨rfl,hq⟩:=hq;exact hq
   refine wp_region_any hC.mixed (wpW_any (I:=fun _=>False) _ _ _ _ ?_);have hk:seqK C ops (ancAll ops.toList []) ord (Array.replicate ord.length false) σ1 K=some r:=by rw[hlen];exact hk
   rw[←hlen];refine seqK_some hC hnos hafter hws (fun c a w hp=>by cases hp.1) ord (I:=fun _=>False) (fun _ hf=>hf.elim) (by simp[hlen]) (fun x o hx ho=>?_) (h.ext (Ext.drew w)) hk fun σ' a' w' G' k1 k2 k3 k4=>⟨rfl,hQ σ' a' w' G' k1 k2 k3 ?_⟩
   ·have hlt:=(Array.getElem?_eq_some_iff.1 ho).1;simp[Array.getD_eq_getD_getElem?,hlen,hlt]at hx
   ·exact(show GA E σ1 σ1 G G w _ from⟨fun b hb=>⟨Nat.lt_of_lt_of_le hb.1 (Ext.drew w).size,hb.2⟩,fun _ _=>rfl,Nat.le_refl _,fun _ _=>rfl⟩).trans k4
  ·simp at hk
 ·exact regionD_some hC h hk hws Q hQ
end
open Go
set_option linter.all false
def AEx.ex:AEx→Exit
 | .normal=>.normal
 | .exit id=>.exit id
 | .ret=>.ret
section
variable {ρ:Type}{C:Ctx}{E:En}{G:Gh}{σ σF:Sg}{a:Act}{w:World}
theorem iterN_det {σ β:Type}{step:σ→Option (σ⊕β)}:(n m:Nat)→{s:σ}→{x y:β}→iterN step n s=some x→iterN step m s=some y→x=y
 | 0,_,s,x,y,h,_=>by simp[iterN]at h
 | _+1,0,s,x,y,_,h=>by simp[iterN]at h
 | n+1,m+1,s,x,y,h1,h2=>by
  simp only[iterN]at h1 h2;cases hs:step s with
  | none=>rw[hs]at h1;simp at h1
  | some r =>
   rw[hs]at h1 h2;cases r with
   | inl s'=>exact iterN_det n m h1 h2
   | inr b=>simp at h1 h2;rw[←h1,←h2]
theorem iter_some {σ β:Type}{step:σ→Option (σ⊕β)}{s:σ}{y:β}(h:iter step s=some y):∃n,iterN step n s=some y:=by
 unfold iter at h;split at h
 ·rename_i hx;obtain rfl:=Option.some.inj h;exact⟨_,hx.choose_spec.choose_spec⟩
 ·simp at h
theorem iter_of {σ β:Type}{step:σ→Option (σ⊕β)}{s:σ}{y:β}{n:Nat}(h:iterN step n s=some y):iter step s=some y:=by
 unfold iter;have hx:∃n b,iterN step n s=some b:=⟨n,y,h⟩;rw[dif_pos hx];exact congrArg some (iterN_det _ _ hx.choose_spec.choose_spec h)
theorem iter_eq {σ β:Type} (step:σ→Option (σ ⊕ β)) (s:σ):iter step s = match step s with
  | none=>none
  | some (.inl s')=>iter step s'
  | some (.inr b)=>some b:=by
 cases h:iter step s with
 | some y =>
  obtain⟨n,hn⟩:=iter_some h;cases n with
  | zero=>simp[iterN]at hn
  | succ n =>
   simp only[iterN]at hn;cases hs:step s with
   | none=>rw[hs]at hn;simp at hn
   | some r =>
    rw[hs]at hn;cases r with
    | inl s'=>exact(iter_of hn).symm
    | inr b=>exact hn.symm
 | none =>
  cases hs:step s with
  | none=>rfl
  | some r =>
   cases r with
   | inl s' =>
    simp only;cases h':iter step s' with
    | none=>rfl
    | some y =>
     obtain⟨n,hn⟩:=iter_some h';have:iterN step (n+1) s=some y:=by simp only[iterN,hs,hn]
     rw[iter_of this]at h;simp at h
   | inr b =>
    have:iterN step 1 s=some b:=by simp only[iterN,hs]
    rw[iter_of this]at h;simp at h
def Rounds (P:Program)(c:Code)(Q:Exit→Act→World→Prop)(a:Act)(w:World):Prop :=
 ∀(b:Frame) (k:List Item) (cs:List Frame),∃e a' w',Q e a' w'∧Arrives P (lone (b.at a (.code c::.inLoop c::k)) cs w) b k cs e a' w'
theorem Rounds.step {P:Program}{c:Code}{Q:Exit→Act→World→Prop}{a:Act}{w:World}(h:c.wp P (Exit.then (Rounds P c Q) Q) a w):Rounds P c Q a w:=by
 intro b k cs;obtain⟨e,a₁,w₁,hq,harr⟩:=h b (.inLoop c::k) cs;cases e with
 | normal =>
  obtain⟨e₂,a₂,w₂,hq₂,harr₂⟩:=hq b k cs;exact⟨e₂,a₂,w₂,hq₂,.of_steps (Steps.trans harr (.one step_inLoop)) harr₂⟩
 | exit id=>exact⟨_,a₁,w₁,hq,.pass (x:=.inLoop c) rfl (fun _ _=>.inl (by simp)) harr⟩
 | goto l=>exact⟨_,a₁,w₁,hq,.pass (x:=.inLoop c) rfl (fun _ _=>.inl (by simp)) harr⟩
 | ret=>exact⟨_,a₁,w₁,hq,.pass (x:=.inLoop c) rfl (fun _ _=>.inl (by simp)) harr⟩
 | panic ch=>exact⟨_,a₁,w₁,hq,.pass (x:=.inLoop c) rfl (fun _ _=>.inl (by simp)) harr⟩
 | outgrown=>exact⟨_,a₁,w₁,hq,.pass (x:=.inLoop c) rfl (fun _ _=>.inl (by simp)) harr⟩
theorem Rounds.loop {P:Program}{c:Code}{Q:Exit→Act→World→Prop}{a:Act}{w:World}(h:Rounds P c Q a w):(Code.loop c).wp P Q a w:=by
 intro b k cs;obtain⟨e,a',w',hq,harr⟩:=h b k cs;exact⟨e,a',w',hq,.of_steps (.one step_loop) harr⟩
theorem loop_iter {P:Program} {c:Code} {S β:Type} {step:S→Option (S ⊕ β)} {Inv:S→Act→World→Prop} {Out:β→Exit→Act→World→Prop} (hOut:∀ y a w,¬ Out y .normal a w)
  (hb:∀s a w res,Inv s a w→step s=some res→c.wp P (fun e a w=>match res with
   | .inl s'=>e=.normal∧Inv s' a w
   | .inr y=>Out y e a w) a w) {s:S} {y:β} {a:Act} {w:World} (h:iter step s=some y) (hi:Inv s a w):(Code.loop c).wp P (Out y) a w:=by
 obtain⟨n,hn⟩:=iter_some h;refine Rounds.loop ?_;clear h;induction n generalizing s a w with
 | zero=>simp[iterN]at hn
 | succ n ih =>
  simp only[iterN]at hn;cases hs:step s with
  | none=>rw[hs]at hn;simp at hn
  | some r =>
   rw[hs]at hn;refine Rounds.step (wp_mono (hb s a w r hi hs) fun e a' w' hq=>?_);cases r with
   | inl s' =>
    obtain⟨rfl,hq⟩:=hq;exact ih hq hn
   | inr b =>
    simp only[Option.some.injEq]at hn;subst hn;cases e<;>first | exact(hOut _ _ _ hq).elim | exact hq
structure Frm (ws:List Nat) (σ σF:Sg):Prop where
 hp:σF.hp.length=σ.hp.length
 len:σF.env.length=σ.env.length
 erased:∀t,t∈ws→∀x:A,σF.env[t]? = some x→x=.l .unk
 kept:∀t,t∉ws→σF.env[t]? = σ.env[t]?
 bdE:∀(t:Nat) (x:A),σF.env[t]? = some x→x.bd σF.hp.length
 ro:∀id o,σF.ob id=some o→o.ro=true∧o.bd σF.hp.length
 old:∀id o,σ.ob id=some o→o.ro=true→σF.ob id=some o
theorem Frm.base {ws ws' slots:List Nat}{σL σ':Sg}(h:Frm ws σ σF)(l:Lay slots σF σL)(k:Kc ws' σL σ')(h1:∀t∈slots,t∈ws)(h2:∀t∈ws',t∈ws):Base σF σ':=by
 refine⟨by rw[k.len,l.len],fun t x hx=>?_,fun id o ho=>?_⟩
 ·by_cases ht:t∈ws
  ·exact .inl (h.erased t ht x hx)
  ·refine .inr ⟨?_,h.bdE t x hx⟩;rw[k.env t fun hm=>ht (h2 t hm),l.env t fun hm=>ht (h1 t hm)];exact hx
 ·obtain⟨k1,k2⟩:=h.ro id o ho;refine⟨k1,k.ob id o ?_ k1,k2⟩;rw[l.ob id (Sg.ob_lt ho)];exact ho
theorem Frm.kc {ws slots:List Nat}{σL:Sg}(h:Frm ws σ σF)(l:Lay slots σF σL)(h1:∀t∈slots,t∈ws):Kc ws σ σL :=
 ⟨by rw[←h.hp];exact l.n,by rw[l.len,h.len],fun t ht=>by rw[l.env t fun hm=>ht (h1 t hm),h.kept t ht],fun id o ho hr=>by
  have:=h.old id o ho hr;rw[l.ob id (Sg.ob_lt this)];exact this⟩
theorem OR.keep2 {I I':Nat→Prop}{N N':Nat}{G G':Gh}{w:World}(k:Keep I I' N N' G G' w w){i j:Nat}(hg:G' j=G i):(o:Ob)→OR I N G w i o→OR I' N' G' w j o
 | .own false dp e t x,h=>by
  simp only[OR]at h ⊢;rw[hg];exact h.keep (fun b hb=>⟨k.imm b hb,k.heap b hb⟩) fun _ _=>rfl
 | .own true _ _ t x,h=>by
  simp only[OR]at h ⊢;rw[hg];exact RdV.keep k h
 | .box ro e cs,h=>by
  simp only[OR]at h ⊢;rw[hg];obtain⟨b,arr,h1,h2,h3,h4⟩:=h;refine⟨b,arr,h1,h2,h3.keep k cs,?_⟩;cases ro with
  | true=>exact k.imm b h4
  | false=>exact h4
 | .mp false n xs,h=>by
  simp only[OR]at h ⊢;rw[hg];exact h
 | .mp true _ _,_=>trivial
theorem RelG.move (h:RelG E G σ a w) {id n:Nat} {o:Ob} (hid:σ.ob id = none) (hlt:id < σ.hp.length) (hn:σ.ob n = some o) (hr:o.ro = false) (hg:(G id).1 = (G n).1) :
  ∃G',RelG E G' (setHp (setHp σ n none) id (some o)) a w∧Keep (Imm E G σ w) (Imm E G' (setHp (setHp σ n none) id (some o)) w) σ.hp.length σ.hp.length G G' w w:=by
 have hne:id≠n:=fun e=>by subst e;rw[hid]at hn;cases hn
 have hnl:=Sg.ob_lt hn;obtain⟨G',h1,h2,h3⟩:=h.chg (σ':=setHp (setHp σ n none) id (some o)) [n,id] id o (G id).1 (G n).2 (w':=w)
  (fun i=>by
   rw[ob_setHp,ob_setHp,setHp_len];by_cases hi:i=id
   ·simp[hi,hlt]
   ·by_cases hi':i=n
    ·subst hi';simp[hi,hnl]
    ·simp[hi,hi'])
  rfl (by simp) (.inr ⟨by simp,rfl⟩) hr rfl rfl (.refl _) (Nat.le_refl _) (fun _ _ _=>rfl) (h.nodup n o hn hr)
  (fun b hb=>.inr ⟨(h.range n o hn hr b hb).1,n,by simp,o,hn,hr,hb⟩) (fun b hb=>.inr ⟨n,by simp,o,hn,hr,hb⟩)
  (fun I G' kk hG'=>by
   have e:G' id=G n:=by rw[hG',hg]
   exact OR.keep2 kk e o (h.obs n o hn))
 exact⟨G',h1,by simpa using h3⟩
theorem moveK_some {x0 x:A} {k:Sg→Option ρ} {r:ρ} {v:Value} (h:RelG E G σ a w) (hk:moveK x0 x σ k = some r) (hv0:VA (Imm E G σ w) σ.hp.length G w x0 v) (hv:VA (Imm E G σ w) σ.hp.length G w x v) :
  ∃σ' G',k σ'=some r∧RelG E G' σ' a w∧σ'.env=σ.env∧σ'.hp.length=σ.hp.length∧Keep (Imm E G σ w) (Imm E G' σ' w) σ.hp.length σ'.hp.length G G' w w ∧
   ∃n,x.refs=[n]∧∀i o,σ.ob i=some o→i≠n→σ'.ob i=some o:=by
 have key:∀ (id n:Nat) (o:Ob),σ.ob id = none→id < σ.hp.length→σ.ob n = some o→o.ro = false→(G id).1 = (G n).1→k (setHp (setHp σ n none) id (some o)) = some r→x.refs = [n] →
   ∃σ' G',k σ'=some r∧RelG E G' σ' a w∧σ'.env=σ.env∧σ'.hp.length=σ.hp.length∧Keep (Imm E G σ w) (Imm E G' σ' w) σ.hp.length σ'.hp.length G G' w w ∧
   ∃n,x.refs=[n]∧∀i o,σ.ob i=some o→i≠n→σ'.ob i=some o:=fun id n o h1 h2 h3 h4 h5 hk hx=>by
  obtain⟨G',g1,g2⟩:=h.move h1 h2 h3 h4 h5;refine⟨_,G',hk,g1,rfl,by simp,by simpa using g2,n,hx,fun i o' ho hi=>?_⟩
  rw[ob_setHp,ob_setHp,setHp_len];have hne:i≠id:=fun e=>by subst e;rw[h1]at ho;cases ho
  simp[hne,hi,ho]
 unfold moveK at hk;split at hk
 ·rename_i id n;split at hk
  ·rename_i o h1 h2;split at hk
   ·cases hk
   ·rename_i hro;exact key id n o h1 hv0.1 h2 (by simpa using hro) (hv0.2.1.symm.trans hv.2.1) hk rfl
  ·cases hk
 ·rename_i id n;split at hk
  ·rename_i o h1 h2;split at hk
   ·cases hk
   ·rename_i hro;obtain⟨g1,b,g2,g3⟩:=hv0;obtain⟨g4,b',g5,g6⟩:=hv;refine key id n o h1 g1 h2 (by simpa using hro) ?_ hk rfl
    rw[g2,g5,←g3,←g6]
  ·cases hk
 ·cases hk
theorem VAs.take {I:Nat→Prop}{N:Nat}:(n:Nat)→(xs:List A)→{vs:List Value}→VAs I N G w xs vs→VAs I N G w (xs.take n) (vs.take n)
 | 0,_,_,_=>trivial
 | n+1,[],[],_=>trivial
 | n+1,x::xs,v::vs,h=>⟨h.1,VAs.take n xs h.2⟩
 | n+1,[],_::_,h=>h.elim
 | n+1,_::_,[],h=>h.elim
theorem VAs.at {I:Nat→Prop}{N:Nat}:(n:Nat)→(xs:List A)→{vs:List Value}→VAs I N G w xs vs→∀{x:A},xs[n]? = some x→∃v,vs[n]? = some v∧VA I N G w x v
 | _,[],[],_,x,hx=>by simp at hx
 | 0,x::xs,v::vs,h,y,hy=>by simp only[List.getElem?_cons_zero,Option.some.injEq]at hy;subst hy;exact⟨v,rfl,h.1⟩
 | n+1,x::xs,v::vs,h,y,hy=>by simpa using VAs.at n xs h.2 (by simpa using hy)
 | _,[],_::_,h,_,_=>h.elim
 | _,_::_,[],h,_,_=>h.elim
def Av (E:En)(σF:Sg)(I0:Nat→Prop)(G0:Gh)(w0:World)(ps:List (Nat×SK))(y:SKs.den (ps.map (·.2)))(a:Act)(w:World):Prop :=
 ∃σ G ids bss,RelG E G σ a w∧Base σF σ∧Mine σ ids∧Cls G ids bss∧SVs (Imm E G σ w) w (ps.map (·.2)) y (ps.map fun p=>a.tmps.getD p.1 undef) bss ∧
  Keep I0 (Imm E G σ w) σF.hp.length σ.hp.length G0 G w0 w
structure LayW (slots:List Nat) (σF σL:Sg):Prop where
 n:σF.hp.length≤σL.hp.length
 len:σL.env.length=σF.env.length
 env:∀t,t∉slots→σL.env[t]? = σF.env[t]?
 ob:∀id o,σF.ob id=some o→σL.ob id=some o
theorem Frm.baseW {ws ws' slots:List Nat}{σL σ':Sg}(h:Frm ws σ σF)(l:LayW slots σF σL)(k:Kc ws' σL σ')(h1:∀t∈slots,t∈ws)(h2:∀t∈ws',t∈ws):Base σF σ':=by
 refine⟨by rw[k.len,l.len],fun t x hx=>?_,fun id o ho=>?_⟩
 ·by_cases ht:t∈ws
  ·exact .inl (h.erased t ht x hx)
  ·refine .inr ⟨?_,h.bdE t x hx⟩;rw[k.env t fun hm=>ht (h2 t hm),l.env t fun hm=>ht (h1 t hm)];exact hx
 ·obtain⟨k1,k2⟩:=h.ro id o ho;exact⟨k1,k.ob id o (l.ob id o ho) k1,k2⟩
theorem Frm.kcW {ws slots:List Nat}{σL:Sg}(h:Frm ws σ σF)(l:LayW slots σF σL)(h1:∀t∈slots,t∈ws):Kc ws σ σL :=
 ⟨by rw[←h.hp];exact l.n,by rw[l.len,h.len],fun t ht=>by rw[l.env t fun hm=>ht (h1 t hm),h.kept t ht],fun id o ho hr=>l.ob id o (h.old id o ho hr)⟩
theorem layI_some {ps:List (Nat × SK)} {t:Nat} {c:SK} {y:SKs.den ((ps ++ [(t,c)]).map (·.2))} {I0:Nat→Prop} {G0:Gh} {w0:World} {k:Sg→Option ρ} {r:ρ} (hav:Av E σF I0 G0 w0 (ps ++ [(t,c)]) y a w)
  (ht:t∉ps.map (·.1)) (hk:layI σF ps t c y k=some r):∃σL G,k σL=some r∧RelG E G σL a w∧LayW (ps.map (·.1)) σF σL∧Keep I0 (Imm E G σL w) σF.hp.length σL.hp.length G0 G w0 w:=by
 obtain⟨σ,G,ids,bss,h,hb,hm,hc,hs,hke⟩:=hav;have hpre:=hb.pre h;have hadm:=hc.adm h hm (U:=fun _=>False) (fun _ _ _ _ hf=>hf);obtain⟨xs,σ1,G1,h1,h2,h3,h4⟩:=encSs_some _ hpre hs hadm;unfold layI at hk;rw[h1]at hk;have hlen:xs.length=ps.length+1:=by rw[h3.length'];simp
 obtain⟨env,k1,k2,k3,k4⟩:=putsK_some ps (σ:=σ1) (xs.take ps.length) (by simp[hlen])
 rw[k1]at hk;have hxl:∃x,xs[ps.length]? = some x:=⟨_,List.getElem?_eq_getElem (by omega)⟩
 obtain⟨x,hx⟩:=hxl;rw[hx]at hk;simp only at hk;have h3':=h3.keep h2.keep xs;have htake:=VAs.take ps.length xs h3';rw[List.map_append,List.take_left' (by simp)]at htake
 have hr2:=k4 h2.rel htake;obtain⟨v,hv1,hv2⟩:=VAs.at ps.length xs h3' hx;rw[List.map_append,List.getElem?_append_right (by simp)]at hv1
 simp only[List.length_map,Nat.sub_self,List.map_cons,List.map_nil,List.getElem?_cons_zero,Option.some.injEq]at hv1;subst hv1;have hv0:VA (Imm E G1 { σ1 with env:=env } w) ({ σ1 with env:=env }:Sg).hp.length G1 w (getA σF (.tmp t)) (a.tmps.getD t undef):=by
  have hq:=hr2.get (.tmp t);have e:getA { σ1 with env:=env } (.tmp t)=getA σF (.tmp t):=by
   simp only[getA];have:env[t]? = σF.env[t]?:=by rw[k3 t ht,h4.env]
   rw[List.getD_eq_getElem?_getD,List.getD_eq_getElem?_getD,this]
  rw[e]at hq;exact hq
 obtain⟨σL,G2,m1,m2,m3,m4,m5,n,m6,m7⟩:=moveK_some hr2 hk hv0 hv2;have hnew:σF.hp.length≤n∨∀o,σF.ob n≠some o:=by
  by_cases hn:n<σF.hp.length
  ·right;intro o ho;obtain⟨q1,q2,_⟩:=hb.ob n o ho;have ho1:σ1.ob n=some o:=by rw[h4.ob n hn];exact ho
   have:(∃o',({ σ1 with env:=env }:Sg).ob n=some o'∧o'.ro=false):=by
    unfold moveK at hk;split at hk
    ·rename_i id n';simp only[A.refs,L.refs,List.cons.injEq,and_true]at m6;subst m6;split at hk
     ·rename_i o2 _ ho2;split at hk
      ·cases hk
      ·rename_i hro;exact⟨o2,ho2,by simpa using hro⟩
     ·cases hk
    ·rename_i id n';simp only[A.refs,L.refs,List.cons.injEq,and_true]at m6;subst m6;split at hk
     ·rename_i o2 _ ho2;split at hk
      ·cases hk
      ·rename_i hro;exact⟨o2,ho2,by simpa using hro⟩
     ·cases hk
    ·cases hk
   obtain⟨o',ho',hr'⟩:=this;have ho':σ1.ob n=some o':=ho';rw[ho1]at ho';obtain rfl:=Option.some.inj ho';rw[q1]at hr';cases hr'
  ·left;omega
 refine⟨σL,G2,m1,m2,⟨by rw[m4];exact h4.n,?_,fun s hs=>?_,fun id o ho=>?_⟩,⟨fun b hb=>m5.imm b (h2.imm b (hke.imm b hb)),fun b hb=>hke.heap b hb,by rw[m4];exact h4.n,fun id hi=>?_⟩⟩
 ·rw[m3];show env.length=_;rw[k2,h4.env]
 ·rw[m3];show env[s]? = _;rw[k3 s hs,h4.env]
 ·have hlt:=Sg.ob_lt ho;refine m7 id o ?_ fun e=>?_
  ·show σ1.ob id=some o;rw[h4.ob id hlt];exact ho
  ·subst e;rcases hnew with hn | hn
   ·omega
   ·exact hn o ho
 ·rw[m5.g id (Nat.lt_of_lt_of_le hi h4.n),h4.g id hi];exact hke.g id hi
theorem av_of {ps:List (Nat × SK)} {K:SKs.den (ps.map (·.2))→Sg→Option ρ} {r:ρ} {I0:Nat→Prop} {G0:Gh} {w0:World} (h:RelG E G σ a w) (hb:Base σF σ) (hke:Keep I0 (Imm E G σ w) σF.hp.length σ.hp.length G0 G w0 w)
  (hk:takeSs σ (ps.map (·.2)) (getsA σ ps) K=some r):∃y σ2,K y σ2=some r∧Av E σF I0 G0 w0 ps y a w:=by
 obtain⟨σ1,y,σ2,new,bss,f,hk,h1,tk,hs⟩:=takeSs_some _ h hk (getsA_VAs h ps);exact⟨y,σ2,hk,σ1,G,new,bss,h1,hb.frz f,tk.mine,tk.cls,hs,⟨fun b hb=>f.keep.imm b (hke.imm b hb),hke.heap,by rw[f.len];exact hke.n,hke.g⟩⟩
theorem Av.lay {ps:List (Nat × SK)} {y:SKs.den (ps.map (·.2))} {I0:Nat→Prop} {G0:Gh} {w0:World} (hav:Av E σF I0 G0 w0 ps y a w) :
  ∃σL G,(∀(ρ:Type) (k:Sg→Option ρ),layK σF ps y k=k σL)∧RelG E G σL a w∧Lay (ps.map (·.1)) σF σL∧Keep I0 (Imm E G σL w) σF.hp.length σL.hp.length G0 G w0 w:=by
 obtain⟨σ,G,ids,bss,h,hb,hm,hc,hs,hke⟩:=hav;obtain⟨σL,G',q1,q2,q3,q4⟩:=relay_core h hb hm hc hs;exact⟨σL,G',q1,q2,q3,⟨fun b hb=>q4.imm b (hke.imm b hb),hke.heap,q4.n,fun id hi=>(q4.g id hi).trans (hke.g id hi)⟩⟩
def At (E:En)(σF:Sg)(I0:Nat→Prop)(G0:Gh)(w0:World)(ps:List (Nat×SK))(y:SKs.den (ps.map (·.2)))(a:Act)(w:World):Prop :=
 ∃σL G,(∀(ρ:Type) (k:Sg→Option ρ),layK σF ps y k=k σL)∧RelG E G σL a w∧Lay (ps.map (·.1)) σF σL∧Keep I0 (Imm E G σL w) σF.hp.length σL.hp.length G0 G w0 w
def wrC:Code→List Nat
 | .region _ ops _=>ops.toList.filterMap (·.dst)
 | .seq a b=>wrC a++wrC b
 | .cond _ a b=>wrC a++wrC b
 | .block _ c=>wrC c
 | .loop c=>wrC c
 | _=>[]
theorem kpt {I0:Nat→Prop}{G0 G1 G2:Gh}{w0 w1 w2:World}{σL σ':Sg}(h:Keep I0 (Imm E G1 σL w1) σF.hp.length σL.hp.length G0 G1 w0 w1)(k:GA E σL σ' G1 G2 w1 w2):Keep I0 (Imm E G2 σ' w2) σF.hp.length σ'.hp.length G0 G2 w0 w2 :=
 ⟨fun b hb=>k.imm b (h.imm b hb),fun b hb=>(k.heap b (h.imm b hb)).trans (h.heap b hb),Nat.le_trans h.n k.n,fun id hi=>(k.g id (Nat.lt_of_lt_of_le hi h.n)).trans (h.g id hi)⟩
theorem wrC_sub (An:List LoopA):(c:Code)→∀t∈wrC c,t∈writes An c
 | .region _ ops _,t,ht=>by
  simp only[wrC]at ht;simp only[writes];exact List.mem_append_left _ ht
 | .seq a b,t,ht=>by
  simp only[wrC,List.mem_append]at ht;simp only[writes,List.mem_append];rcases ht with ht | ht
  ·exact .inl (wrC_sub An a t ht)
  ·exact .inr (wrC_sub An b t ht)
 | .cond _ a b,t,ht=>by
  simp only[wrC,List.mem_append]at ht;simp only[writes,List.mem_append];rcases ht with ht | ht
  ·exact .inl (wrC_sub An a t ht)
  ·exact .inr (wrC_sub An b t ht)
 | .block _ c,t,ht=>by
  simp only[wrC]at ht;simp only[writes];exact wrC_sub An c t ht
 | .loop c,t,ht=>by
  simp only[wrC]at ht;simp only[writes];exact List.mem_append_left _ (wrC_sub An c t ht)
 | .skip,t,ht=>by simp[wrC]at ht
 | .exit _,t,ht=>by simp[wrC]at ht
 | .ret,t,ht=>by simp[wrC]at ht
 | .goto _,t,ht=>by simp[wrC]at ht
theorem codeK_some {D:Prop} (hC:Ctrs D C) (c:Code):∀ {E:En},E.d = D→(∀ t∈wrC c,¬ E.F t)→∀ {ρ:Type} {σ:Sg} {G:Gh} {a:Act} {w:World} {k:AEx→Sg→Option ρ} {r:ρ},RelG E G σ a w→codeK C c ρ σ k = some r→∀ (Q:Exit→Act→World→Prop),
  (∀e σ' a' w' G',k e σ'=some r→RelG E G' σ' a' w'→Kc (writes C.An c) σ σ'→GA E σ σ' G G' w w'→Q e.ex a' w')→c.wp C.P Q a w:=by
 induction c with
 | skip =>
  intro E hd hF ρ σ G a w k r h hk Q hQ;subst hd;simp only[codeK]at hk;exact wp_skip (hQ .normal σ a w G hk h (Kc.refl _ _) (GA.refl _ _ _ _))
 | region id ops draw =>
  intro E hd hF ρ σ G a w k r h hk Q hQ;subst hd;cases draw with
  | true =>
   simp only[codeK]at hk;refine regionX_some (ws:=writes C.An (.region id ops true)) hC h hk (fun o ho=>⟨fun t ht=>?_,fun j b t hg hd=>?_⟩) Q fun σ' a' w' G' h1 h2 h3 h4=>hQ .normal σ' a' w' G' h1 h2 h3 h4
   ·refine⟨?_,hF t (by simp only[wrC,List.mem_filterMap];exact⟨o,ho,ht⟩)⟩
    simp only[writes,List.mem_append,List.mem_filterMap];exact .inl ⟨o,ho,ht⟩
   ·simp only[writes,List.mem_append,List.mem_filterMap];exact .inr ⟨o,ho,by rw[hg];exact hd⟩
  | false =>
   simp only[codeK]at hk;refine wp_region ?_;have:=opersK_some (ws:=writes C.An (.region id ops false)) (ops:=ops) hC ops.toList 0 (fun j o hj=>by rw[Nat.zero_add,←Array.getElem?_toList];exact hj) (fun o ho=>⟨fun t ht=>?_,fun j b t hg hd=>?_⟩) h hk Q
    fun σ' a' w' G' h1 h2 h3 h4=>hQ .normal σ' a' w' G' h1 h2 h3 h4
   ·rw[List.range_eq_range'];simpa using this
   ·refine⟨?_,hF t (by simp only[wrC,List.mem_filterMap];exact⟨o,ho,ht⟩)⟩
    simp only[writes,List.mem_append,List.mem_filterMap];exact .inl ⟨o,ho,ht⟩
   ·simp only[writes,List.mem_append,List.mem_filterMap];exact .inr ⟨o,ho,by rw[hg];exact hd⟩
 | seq x y ihx ihy =>
  intro E hd hF;subst hd;replace ihx:=@ihx E rfl fun t ht=>hF t (by simp only[wrC];exact List.mem_append_left _ ht)
  replace ihy:=@ihy E rfl fun t ht=>hF t (by simp only[wrC];exact List.mem_append_right _ ht)
  intro ρ σ G a w k r h hk Q hQ;simp only[codeK]at hk;refine wp_seq (ihx h hk _ fun e σ' a' w' G' h1 h2 h3 h4=>?_);have h3':Kc (writes C.An (.seq x y)) σ σ':=h3.mono fun t ht=>by simp only[writes];exact List.mem_append_left _ ht
  cases e with
  | normal =>
   exact ihy h2 h1 Q fun e σ2 a2 w2 G2 k1 k2 k3 k4=>hQ e σ2 a2 w2 G2 k1 k2 (h3'.trans (k3.mono fun t ht=>by simp only[writes];exact List.mem_append_right _ ht)) (h4.trans k4)
  | exit id=>exact hQ _ σ' a' w' G' h1 h2 h3' h4
  | ret=>exact hQ _ σ' a' w' G' h1 h2 h3' h4
 | cond c x y ihx ihy =>
  intro E hd hF;subst hd;replace ihx:=@ihx E rfl fun t ht=>hF t (by simp only[wrC];exact List.mem_append_left _ ht)
  replace ihy:=@ihy E rfl fun t ht=>hF t (by simp only[wrC];exact List.mem_append_right _ ht)
  intro ρ σ G a w k r h hk Q hQ;simp only[codeK]at hk;split at hk
  ·rename_i nn cb hc;have hv:=h.get c;rw[hc]at hv;have hv:=datBool hv;cases cb with
   | true=>exact wp_cond_true hv (ihx h hk Q fun e σ' a' w' G' h1 h2 h3 h4=>hQ e σ' a' w' G' h1 h2 (h3.mono fun t ht=>by simp only[writes];exact List.mem_append_left _ ht) h4)
   | false=>exact wp_cond_false hv (ihy h hk Q fun e σ' a' w' G' h1 h2 h3 h4=>hQ e σ' a' w' G' h1 h2 (h3.mono fun t ht=>by simp only[writes];exact List.mem_append_right _ ht) h4)
  ·simp at hk
 | block id c ih =>
  intro E hd hF;subst hd;replace ih:=@ih E rfl fun t ht=>hF t (by simp only[wrC];exact ht)
  intro ρ σ G a w k r h hk Q hQ;simp only[codeK]at hk;refine wp_block (ih h hk _ fun e σ' a' w' G' h1 h2 h3 h4=>?_);cases e with
  | normal=>exact hQ .normal σ' a' w' G' h1 h2 h3 h4
  | ret=>exact hQ .ret σ' a' w' G' h1 h2 h3 h4
  | exit id' =>
   simp only at h1;by_cases hid:id'=id
   ·simp only[hid,if_true]at h1;simp only[AEx.ex,Exit.inBlock,hid,if_true];exact hQ .normal σ' a' w' G' h1 h2 h3 h4
   ·simp only[hid,if_false]at h1;simp only[AEx.ex,Exit.inBlock,hid,if_false];exact hQ (.exit id') σ' a' w' G' h1 h2 h3 h4
 | exit id =>
  intro E hd hF ρ σ G a w k r h hk Q hQ;subst hd;simp only[codeK]at hk;exact wp_exit (hQ (.exit id) σ a w G hk h (Kc.refl _ _) (GA.refl _ _ _ _))
 | ret =>
  intro E hd hF ρ σ G a w k r h hk Q hQ;subst hd;simp only[codeK]at hk;exact wp_ret (hQ .ret σ a w G hk h (Kc.refl _ _) (GA.refl _ _ _ _))
 | loop c ih =>
  intro E hd hF;subst hd;have ih0:=@ih;replace ih:=@ih E rfl fun t ht=>hF t (by simp only[wrC];exact ht)
  intro ρ σ G a w k r h hk Q hQ;simp only[codeK]at hk;split at hk
  ·simp at hk
  ·rename_i an han;split at hk
   ·rename_i t c0 hip;split at hk
    ·cases hk
    rename_i hct;have htw:t∉writes C.An (.loop c):=by simpa using hct
    obtain⟨s0,σ1,σ2,σ3,new,bss,hk,z1,z3,h1,tk,hm3,hs3,hbase,hmine,hfrm⟩:=enter_loop (writes C.An (.loop c)) h hk;obtain⟨f1,f2,f3,f4,f5,f6,f7⟩:=hfrm _ rfl;have hstart:Av E (frameS (writes C.An (.loop c)) σ2) (Imm E G σ w) G w (an.st++[(t,c0)]) s0 a w :=
     ⟨σ3,G,new,bss,z3.rel h1,hbase,hm3,tk.cls,hs3,⟨fun b hb=>z3.keep.imm b (z1.keep.imm b hb),fun _ _=>rfl,by rw[f1,z3.len,z1.len];exact Nat.le_refl _,fun _ _=>rfl⟩⟩
    generalize hsF:frameS (writes C.An (.loop c)) σ2=σF at hk f1 f2 f3 f4 f5 f6 f7 hstart;have frm:Frm (writes C.An (.loop c)) σ σF:=⟨f1,f2,f3,f4,f5,f6,f7⟩;have hwc:∀t∈writes C.An c,t∈writes C.An (.loop c):=fun t ht=>by simp only[writes];exact List.mem_append_left _ ht
    have hsl:∀t∈slotsA an,t∈writes C.An (.loop c):=fun t ht=>by simp only[writes,han];exact List.mem_append_right _ ht
    have hst:∀t∈an.st.map (·.1),t∈writes C.An (.loop c):=fun t ht=>hsl t (by unfold slotsA;exact List.mem_append_left _ (List.mem_append_left _ ht))
    have next:∀ {ρ':Type} {ps:List (Nat × SK)} {K:SKs.den (ps.map (·.2))→Sg→Option ρ'} {r':ρ'} {σL σ':Sg} {G1 G':Gh} {a1 a':Act} {w1 w':World},LayW (an.st.map (·.1)) σF σL→RelG E G' σ' a' w'→Kc (writes C.An c) σL σ' →
      Keep (Imm E G σ w) (Imm E G' σ' w') σF.hp.length σ'.hp.length G G' w w'→takeSs σ' (ps.map (·.2)) (getsA σ' ps) K=some r'→∃y σ2,K y σ2=some r'∧Av E σF (Imm E G σ w) G w ps y a' w':=fun l hr kc hkp hk =>
     av_of hr (frm.baseW l kc hst hwc) hkp hk
    split at hk
    ·rename_i id bs hbr hrt;have hbs:∀t∈bs.map (·.1),t∈writes C.An (.loop c):=fun t ht=>hsl t (by unfold slotsA;rw[hbr];exact List.mem_append_left _ (List.mem_append_right _ ht))
     obtain⟨y,hit,hk⟩:=Option.bind_eq_some_iff.1 hk;refine wp_mono (loop_iter (Inv:=Av E σF (Imm E G σ w) G w (an.st++[(t,c0)])) (Out:=fun y e aa ww=>e=.exit id∧Av E σF (Imm E G σ w) G w (bs++[(t,c0)]) y aa ww) (fun y a w hf=>by simp at hf) (fun s a w res hi hs=>?_) hit hstart) fun e a' w' ho=>?_
     ·obtain⟨σL,G1,hs,l2,l3,l4⟩:=layI_some hi (fun hm=>htw (hst t hm)) hs;refine ih l2 hs _ fun e σ' a' w' G' h1 h2 h3 h4=>?_;cases e with
      | normal =>
       obtain⟨y,σ2,k1,k2⟩:=av_of h2 (frm.baseW l3 h3 hst hwc) (kpt l4 h4) h1;obtain rfl:=Option.some.inj k1;exact⟨rfl,k2⟩
      | exit id' =>
       simp only at h1;split at h1
       ·rename_i hid;subst hid;obtain⟨y,σ2,k1,k2⟩:=av_of h2 (frm.baseW l3 h3 hst hwc) (kpt l4 h4) h1;obtain rfl:=Option.some.inj k1;exact⟨rfl,k2⟩
       ·simp at h1
      | ret=>simp at h1
     ·obtain⟨rfl,ho⟩:=ho;obtain⟨σL,G1,hk,l2,l3,l4⟩:=layI_some ho (fun hm=>htw (hbs t hm)) hk;exact hQ (.exit id) σL a' w' G1 hk l2 (frm.kcW l3 hbs) (by rw[f1]at l4;exact l4)
    ·rename_i id bs rs hbr hrt;have hbs:∀t∈bs.map (·.1),t∈writes C.An (.loop c):=fun t ht=>hsl t (by unfold slotsA;rw[hbr];exact List.mem_append_left _ (List.mem_append_right _ ht))
     have hrs:∀t∈rs.map (·.1),t∈writes C.An (.loop c):=fun t ht=>hsl t (by unfold slotsA;rw[hrt];exact List.mem_append_right _ ht)
     obtain⟨y,hit,hk⟩:=Option.bind_eq_some_iff.1 hk;refine wp_mono (loop_iter (Inv:=Av E σF (Imm E G σ w) G w (an.st ++ [(t,c0)])) (Out:=fun y e aa ww=>match y with
       | .inl y=>e=.exit id∧Av E σF (Imm E G σ w) G w (bs++[(t,c0)]) y aa ww
       | .inr y=>e=.ret∧Av E σF (Imm E G σ w) G w rs y aa ww) (fun y a w hf=>by cases y<;>simp at hf) (fun s a w res hi hs=>?_) hit hstart) fun e a' w' ho=>?_
     ·obtain⟨σL,G1,hs,l2,l3,l4⟩:=layI_some hi (fun hm=>htw (hst t hm)) hs;refine ih l2 hs _ fun e σ' a' w' G' h1 h2 h3 h4=>?_;cases e with
      | normal =>
       obtain⟨y,σ2,k1,k2⟩:=av_of h2 (frm.baseW l3 h3 hst hwc) (kpt l4 h4) h1;obtain rfl:=Option.some.inj k1;exact⟨rfl,k2⟩
      | exit id' =>
       simp only at h1;split at h1
       ·rename_i hid;subst hid;obtain⟨y,σ2,k1,k2⟩:=av_of h2 (frm.baseW l3 h3 hst hwc) (kpt l4 h4) h1;obtain rfl:=Option.some.inj k1;exact⟨rfl,k2⟩
       ·simp at h1
      | ret =>
       obtain⟨y,σ2,k1,k2⟩:=av_of h2 (frm.baseW l3 h3 hst hwc) (kpt l4 h4) h1;obtain rfl:=Option.some.inj k1;exact⟨rfl,k2⟩
     ·cases y with
      | inl y =>
       obtain⟨rfl,ho⟩:=ho;simp only at hk;obtain⟨σL,G1,hk,l2,l3,l4⟩:=layI_some ho (fun hm=>htw (hbs t hm)) hk;exact hQ (.exit id) σL a' w' G1 hk l2 (frm.kcW l3 hbs) (by rw[f1]at l4;exact l4)
      | inr y =>
       obtain⟨rfl,ho⟩:=ho;obtain⟨σL,G1,l1,l2,l3,l4⟩:=ho.lay;simp only at hk;rw[l1]at hk;exact hQ .ret σL a' w' G1 hk l2 (frm.kc l3 hrs) (by rw[f1]at l4;exact l4)
    ·cases hk
   obtain⟨s0,σ1,σ2,σ3,new,bss,hk,z1,z3,h1,tk,hm3,hs3,hbase,hmine,hfrm⟩:=enter_loop (writes C.An (.loop c)) h hk;obtain⟨f1,f2,f3,f4,f5,f6,f7⟩:=hfrm _ rfl;have hr3:=z3.rel h1;have hstart:At E (frameS (writes C.An (.loop c)) σ2) (Imm E G σ w) G w an.st s0 a w:=by
    obtain⟨σL,G',q1,q2,q3,q4⟩:=relay_core hr3 hbase hm3 tk.cls hs3;exact⟨σL,G',q1,q2,q3,⟨fun b hb=>q4.imm b (z3.keep.imm b (z1.keep.imm b hb)),fun _ _=>rfl,q4.n,q4.g⟩⟩
   have hr3L:=hr3.rebase (fun t=>t∉wrC c);have hstartL:At (Rb E G σ3 a w (fun t=>t∉wrC c)) (frameS (writes C.An (.loop c)) σ2) (Imm (Rb E G σ3 a w (fun t=>t∉wrC c)) G σ3 w) G w an.st s0 a w:=by
    have hs4:=SVs.cast (I':=Imm (Rb E G σ3 a w (fun t=>t∉wrC c)) G σ3 w) _ (fun _ b hb=>⟨hb.1,fun _=>.inl hb,hb.2.2⟩) hs3;exact relay_core hr3L hbase hm3 tk.cls hs4
   generalize hsF:frameS (writes C.An (.loop c)) σ2=σF at hk f1 f2 f3 f4 f5 f6 f7 hstart hstartL hbase;have frm:Frm (writes C.An (.loop c)) σ σF:=⟨f1,f2,f3,f4,f5,f6,f7⟩;have hwc:∀t∈writes C.An c,t∈writes C.An (.loop c):=fun t ht=>by simp only[writes];exact List.mem_append_left _ ht
   have hsl:∀t∈slotsA an,t∈writes C.An (.loop c):=fun t ht=>by simp only[writes,han];exact List.mem_append_right _ ht
   have hst:∀t∈an.st.map (·.1),t∈writes C.An (.loop c):=fun t ht=>hsl t (by unfold slotsA;exact List.mem_append_left _ (List.mem_append_left _ ht))
   have hat:At E σF (Imm E G σ w) G w an.st s0 a w:=hstart;have next:∀ {ρ':Type} {ps:List (Nat × SK)} {K:SKs.den (ps.map (·.2))→Sg→Option ρ'} {r':ρ'} {σL σ':Sg} {G':Gh} {a':Act} {w':World},Lay (an.st.map (·.1)) σF σL→RelG E G' σ' a' w'→Kc (writes C.An c) σL σ'→Keep (Imm E G σ w) (Imm E G' σ' w') σF.hp.length σ'.hp.length G G' w w' →
     takeSs σ' (ps.map (·.2)) (getsA σ' ps) K=some r'→∃y σ2,K y σ2=some r'∧At E σF (Imm E G σ w) G w ps y a' w':=fun l hr kc hkp hk=>by
    obtain⟨y,σ2,k1,σL2,G2,k2,k3,k4,k5⟩:=relay hr (frm.base l kc hst hwc) hk;exact⟨y,σ2,k1,σL2,G2,k2,k3,k4,⟨fun b hb=>k5.imm b (hkp.imm b hb),fun b hb=>hkp.heap b hb,k5.n,fun id hi=>(k5.g id hi).trans (hkp.g id hi)⟩⟩
   split at hk
   ·
    rename_i id bs hbr hrt;have hbs:∀t∈bs.map (·.1),t∈writes C.An (.loop c):=fun t ht=>hsl t (by unfold slotsA;rw[hbr];exact List.mem_append_left _ (List.mem_append_right _ ht))
    obtain⟨y,hit,hk⟩:=Option.bind_eq_some_iff.1 hk;cases hlo:(an.lo&&bs.all fun p=>p.2.free)with
    | true =>
     have hback:backS an.lo bs σ2 σF={ env:=σF.env,hp:=σ2.hp }:=by unfold backS;rw[hlo]
     rw[hback]at hk;have hfree:(bs.all fun p=>p.2.free)=true:=by simp only[Bool.and_eq_true]at hlo;exact hlo.2
     have ihL:=@ih0 (Rb E G σ3 a w (fun t=>t∉wrC c)) rfl fun t ht hx=>hx.elim (hF t (by simp only[wrC];exact ht)) fun h=>h ht
     have nextL:∀ {ρ':Type} {ps:List (Nat × SK)} {K:SKs.den (ps.map (·.2))→Sg→Option ρ'} {r':ρ'} {σL σ':Sg} {G':Gh} {a':Act} {w':World},Lay (an.st.map (·.1)) σF σL→RelG (Rb E G σ3 a w (fun t=>t∉wrC c)) G' σ' a' w'→Kc (writes C.An c) σL σ' →
       Keep (Imm (Rb E G σ3 a w (fun t=>t∉wrC c)) G σ3 w) (Imm (Rb E G σ3 a w (fun t=>t∉wrC c)) G' σ' w') σF.hp.length σ'.hp.length G G' w w' →
       takeSs σ' (ps.map (·.2)) (getsA σ' ps) K=some r'→∃y σ2,K y σ2=some r'∧At (Rb E G σ3 a w (fun t=>t∉wrC c)) σF (Imm (Rb E G σ3 a w (fun t=>t∉wrC c)) G σ3 w) G w ps y a' w':=fun l hr kc hkp hk=>by
      obtain⟨y,σ2,k1,σL2,G2,k2,k3,k4,k5⟩:=relay hr (frm.base l kc hst hwc) hk;exact⟨y,σ2,k1,σL2,G2,k2,k3,k4,⟨fun b hb=>k5.imm b (hkp.imm b hb),fun b hb=>hkp.heap b hb,k5.n,fun id hi=>(k5.g id hi).trans (hkp.g id hi)⟩⟩
     refine wp_mono (loop_iter (Inv:=At (Rb E G σ3 a w (fun t=>t∉wrC c)) σF (Imm (Rb E G σ3 a w (fun t=>t∉wrC c)) G σ3 w) G w an.st) (Out:=fun y e aa ww=>e=.exit id∧At (Rb E G σ3 a w (fun t=>t∉wrC c)) σF (Imm (Rb E G σ3 a w (fun t=>t∉wrC c)) G σ3 w) G w bs y aa ww) (fun y a w hf=>by simp at hf) (fun s a w res hi hs=>?_) hit hstartL) fun e a' w' ho=>?_
     ·obtain⟨σL,G1,l1,l2,l3,l4⟩:=hi;rw[l1]at hs;refine ihL l2 hs _ fun e σ' a' w' G' h1 h2 h3 h4=>?_;cases e with
      | normal =>
       obtain⟨y,σ2,k1,k2⟩:=nextL l3 h2 h3 (kpt l4 h4) h1;obtain rfl:=Option.some.inj k1;exact⟨rfl,k2⟩
      | exit id' =>
       simp only at h1;split at h1
       ·rename_i hid;subst hid;obtain⟨y,σ2,k1,k2⟩:=nextL l3 h2 h3 (kpt l4 h4) h1;obtain rfl:=Option.some.inj k1;exact⟨rfl,k2⟩
       ·simp at h1
      | ret=>simp at h1
     ·obtain⟨rfl,σL,G1,l1,l2,l3,l4⟩:=ho;subst hsF;obtain⟨σB,G2,j1,j2,j3,j4,j5,j6,j7⟩:=loose_join (ws:=writes C.An (.loop c)) h1 tk hr3 z3 hmine (fun t ht=>.inr fun hm=>ht (hwc t (wrC_sub C.An c t hm))) hbs hfree l1 l2 l4;rw[j1]at hk;refine hQ (.exit id) σB a' w' G2 hk j2 ⟨by rw[←z1.len];exact j3,by rw[j4,z1.kp.env],fun t ht=>by rw[j5 t ht,z1.kp.env],fun id o ho hr=>j6 id o (z1.kp.ob id o ho hr) hr⟩
       ⟨fun b hb=>j7.imm b (z1.keep.imm b hb),fun b hb=>j7.heap b (z1.keep.imm b hb),by rw[←z1.len];exact j7.n,fun id hi=>j7.g id (by rw[z1.len];exact hi)⟩
    | false =>
     have hback:backS an.lo bs σ2 σF=σF:=by unfold backS;rw[hlo]
     rw[hback]at hk;refine wp_mono (loop_iter (Inv:=At E σF (Imm E G σ w) G w an.st) (Out:=fun y e aa ww=>e=.exit id∧At E σF (Imm E G σ w) G w bs y aa ww) (fun y a w hf=>by simp at hf) (fun s a w res hi hs=>?_) hit hat) fun e a' w' ho=>?_
     ·obtain⟨σL,G1,l1,l2,l3,l4⟩:=hi;rw[l1]at hs;refine ih l2 hs _ fun e σ' a' w' G' h1 h2 h3 h4=>?_;cases e with
      | normal =>
       obtain⟨y,σ2,k1,k2⟩:=next l3 h2 h3 (kpt l4 h4) h1;obtain rfl:=Option.some.inj k1;exact⟨rfl,k2⟩
      | exit id' =>
       simp only at h1;split at h1
       ·rename_i hid;subst hid;obtain⟨y,σ2,k1,k2⟩:=next l3 h2 h3 (kpt l4 h4) h1;obtain rfl:=Option.some.inj k1;exact⟨rfl,k2⟩
       ·simp at h1
      | ret=>simp at h1
     ·obtain⟨rfl,σL,G1,l1,l2,l3,l4⟩:=ho;rw[l1]at hk;exact hQ (.exit id) σL a' w' G1 hk l2 (frm.kc l3 hbs) (by rw[f1]at l4;exact l4)
   ·rename_i rs hbr hrt;have hrs:∀t∈rs.map (·.1),t∈writes C.An (.loop c):=fun t ht=>hsl t (by unfold slotsA;rw[hrt];exact List.mem_append_right _ ht)
    obtain⟨y,hit,hk⟩:=Option.bind_eq_some_iff.1 hk;refine wp_mono (loop_iter (Inv:=At E σF (Imm E G σ w) G w an.st) (Out:=fun y e aa ww=>e=.ret∧At E σF (Imm E G σ w) G w rs y aa ww) (fun y a w hf=>by simp at hf) (fun s a w res hi hs=>?_) hit hat) fun e a' w' ho=>?_
    ·obtain⟨σL,G1,l1,l2,l3,l4⟩:=hi;rw[l1]at hs;refine ih l2 hs _ fun e σ' a' w' G' h1 h2 h3 h4=>?_;cases e with
     | normal =>
      obtain⟨y,σ2,k1,k2⟩:=next l3 h2 h3 (kpt l4 h4) h1;obtain rfl:=Option.some.inj k1;exact⟨rfl,k2⟩
     | exit id'=>simp at h1
     | ret =>
      obtain⟨y,σ2,k1,k2⟩:=next l3 h2 h3 (kpt l4 h4) h1;obtain rfl:=Option.some.inj k1;exact⟨rfl,k2⟩
    ·obtain⟨rfl,σL,G1,l1,l2,l3,l4⟩:=ho;rw[l1]at hk;exact hQ .ret σL a' w' G1 hk l2 (frm.kc l3 hrs) (by rw[f1]at l4;exact l4)
   ·rename_i id bs rs hbr hrt;have hbs:∀t∈bs.map (·.1),t∈writes C.An (.loop c):=fun t ht=>hsl t (by unfold slotsA;rw[hbr];exact List.mem_append_left _ (List.mem_append_right _ ht))
    have hrs:∀t∈rs.map (·.1),t∈writes C.An (.loop c):=fun t ht=>hsl t (by unfold slotsA;rw[hrt];exact List.mem_append_right _ ht)
    obtain⟨y,hit,hk⟩:=Option.bind_eq_some_iff.1 hk;refine wp_mono (loop_iter (Inv:=At E σF (Imm E G σ w) G w an.st) (Out:=fun y e aa ww=>match y with
      | .inl y=>e=.exit id∧At E σF (Imm E G σ w) G w bs y aa ww
      | .inr y=>e=.ret∧At E σF (Imm E G σ w) G w rs y aa ww) (fun y a w hf=>by cases y<;>simp at hf) (fun s a w res hi hs=>?_) hit hat) fun e a' w' ho=>?_
    ·obtain⟨σL,G1,l1,l2,l3,l4⟩:=hi;rw[l1]at hs;refine ih l2 hs _ fun e σ' a' w' G' h1 h2 h3 h4=>?_;cases e with
     | normal =>
      obtain⟨y,σ2,k1,k2⟩:=next l3 h2 h3 (kpt l4 h4) h1;obtain rfl:=Option.some.inj k1;exact⟨rfl,k2⟩
     | exit id' =>
      simp only at h1;split at h1
      ·rename_i hid;subst hid;obtain⟨y,σ2,k1,k2⟩:=next l3 h2 h3 (kpt l4 h4) h1;obtain rfl:=Option.some.inj k1;exact⟨rfl,k2⟩
      ·simp at h1
     | ret =>
      obtain⟨y,σ2,k1,k2⟩:=next l3 h2 h3 (kpt l4 h4) h1;obtain rfl:=Option.some.inj k1;exact⟨rfl,k2⟩
    ·cases y with
     | inl y =>
      obtain⟨rfl,σL,G1,l1,l2,l3,l4⟩:=ho;simp only at hk;rw[l1]at hk;exact hQ (.exit id) σL a' w' G1 hk l2 (frm.kc l3 hbs) (by rw[f1]at l4;exact l4)
     | inr y =>
      obtain⟨rfl,σL,G1,l1,l2,l3,l4⟩:=ho;simp only at hk;rw[l1]at hk;exact hQ .ret σL a' w' G1 hk l2 (frm.kc l3 hrs) (by rw[f1]at l4;exact l4)
   ·simp at hk
 | _ =>
  intro E hd hF ρ σ G a w k r h hk Q hQ;subst hd;simp[codeK]at hk
end
open Go
set_option linter.all false
section
variable {ρ:Type}{C:Ctx}{E:En}{G:Gh}{σ σF:Sg}{a:Act}{w:World}{I U:Nat→Prop}
theorem encP_some (h:Pre E I U G σ a w):(p:PM)→{y:p.den}→{v:Value}→{bs:List Nat}→ArgV I w p y v bs→Adm E I U w [bs] →
  ∃G',Pre E I (fun b=>U b∨b∈bs) G' (encP σ p y).2 a w∧VA I (encP σ p y).2.hp.length G' w (encP σ p y).1 v∧Grow σ (encP σ p y).2 G G'
 | .d nn t,y,v,bs,hv,ha=>⟨G,h.wide fun _ hb=>.inl hb,⟨hv.1,hv.2.1⟩,Grow.refl _ _⟩
 | .f f,y,v,bs,hv,ha=>⟨G,h.wide fun _ hb=>.inl hb,hv.1,Grow.refl _ _⟩
 | .mv dp e t,y,v,bs,hv,ha=>by
  obtain⟨G',h1,h2,h3⟩:=h.add (.own false dp e t y) v bs rfl ha (fun G' _ hn=>by simp only[OR,hn];exact hv)
  exact⟨G',h1,⟨by simp[encP],by rw[h2],OwnV.one hv⟩,h3⟩
 | .io dp e t,y,v,bs,hv,ha=>by
  obtain⟨G',h1,h2,h3⟩:=h.add (.own false dp e t y) v bs rfl ha (fun G' _ hn=>by simp only[OR,hn];exact hv)
  exact⟨G',h1,⟨by simp[encP],by rw[h2],OwnV.one hv⟩,h3⟩
 | .cur e,y,v,bs,hv,ha=>by
  have hv:CurV I w e y v bs:=hv;obtain⟨G',h1,h2,h3⟩:=h.add (.box false e [.dat false (.list (.int .u8)) y.1,.dat false (.int .i64) y.2.1,.dat false (.int .i64) y.2.2]) v bs rfl ha (fun G' _ hn=>hv.box hn);obtain⟨b,arr,e1,_⟩:=hv;exact⟨G',h1,⟨by simp[encP],b,by rw[h2];exact e1,e1⟩,h3⟩
theorem encPs_some:(ps:List PM)→{σ:Sg}→{G:Gh}→{U:Nat→Prop}→Pre E I U G σ a w→{y:PMs.den ps}→{vs:List Value}→{bss:List (List Nat)}→ArgsV I w ps y vs bss→Adm E I U w bss →
  ∃G',Pre E I (fun b=>U b∨b∈bss.flatten) G' (encPs σ ps y).2 a w∧VAs I (encPs σ ps y).2.hp.length G' w (encPs σ ps y).1 vs∧Grow σ (encPs σ ps y).2 G G'
 | [],σ,G,U,h,y,[],bss,hv,ha=>⟨G,h.wide fun _ hb=>.inl hb,trivial,Grow.refl _ _⟩
 | [p],σ,G,U,h,y,[v],bss,hv,ha=>by
  obtain⟨bs,rfl,hv⟩:=hv;obtain⟨G',h1,h2,h3⟩:=encP_some h p hv ha;exact⟨G',h1.wide fun b hb=>hb.imp (fun h=>h) fun h=>by simpa using h,⟨h2,trivial⟩,h3⟩
 | p::p'::r,σ,G,U,h,y,v::vs,bss,hv,ha=>by
  obtain⟨bs,rest,rfl,hv,hvs⟩:=hv;obtain⟨G',h1,h2,h3⟩:=encP_some h p hv ha.single;obtain⟨G2,k1,k2,k3⟩:=encPs_some (p'::r) h1 hvs ha.tail;refine⟨G2,k1.wide fun b hb=>?_,⟨h2.keep k3.keep _,k2⟩,h3.trans k3⟩;rw[List.flatten_cons,List.mem_append];rcases hb with(hb | hb) | hb
  ·exact .inl hb
  ·exact .inr (.inl hb)
  ·exact .inr (.inr hb)
 | [],_,_,_,_,_,_::_,_,hv,_=>hv.elim
 | [_],_,_,_,_,_,[],_,hv,_=>hv.elim
 | [_],_,_,_,_,_,_::_::_,_,hv,_=>hv.elim
 | _::_::_,_,_,_,_,_,[],_,hv,_=>hv.elim
def resM (tmps:Array Value):ResultVar→Sem Value
 | .tmp t=>pure (tmps.getD t undef)
 | .cell a t=>do loadVar t (←asAddr (tmps.getD a undef))
theorem run_mapM {P:Program}{α:Type}{f:α→Sem Value}:(l:List α)→{vs:List Value}→(vs.length=l.length)→(∀(i:Nat) (x:α) (v:Value),l[i]? = some x→vs[i]? = some v→(f x).run P w=.ok v w)→(l.mapM f).run P w=.ok vs w
 | [],[],_,_=>by simp
 | x::l,v::vs,hl,h=>by
  have h1:=h 0 x v rfl rfl;have h2:=run_mapM l (vs:=vs) (by simpa using hl) fun i y u hi hu=>h (i+1) y u (by simpa using hi) (by simpa using hu)
  simp[List.mapM_cons,h1,h2]
 | [],_::_,hl,_=>by simp at hl
 | _::_,[],hl,_=>by simp at hl
theorem resK_some (h:RelG E G σ a w):(l:List ResultVar)→{k:List A→Option ρ}→{r:ρ}→resK C σ l k = some r →
  ∃as vs,k as=some r∧VAs (Imm E G σ w) σ.hp.length G w as vs∧vs.length=l.length∧∀(i:Nat) (x:ResultVar) (v:Value),l[i]? = some x→vs[i]? = some v→(resM a.tmps x).run C.P w=.ok v w
 | [],k,r,hk=>⟨[],[],hk,trivial,rfl,fun i x v hi=>by simp at hi⟩
 | .tmp t::l,k,r,hk=>by
  simp only[resK]at hk;obtain⟨as,vs,h1,h2,h3,h4⟩:=resK_some h l hk;refine⟨_::as,a.tmps.getD t undef::vs,h1,⟨h.get (.tmp t),h2⟩,by simp[h3],fun i x v hi hv=>?_⟩
  cases i with
  | zero=>simp at hi hv;subst hi;subst hv;simp[resM]
  | succ i=>exact h4 i x v (by simpa using hi) (by simpa using hv)
 | .cell c t::l,k,r,hk=>by
  simp only[resK]at hk;split at hk
  ·rename_i id j hg;have hv:=h.get (.tmp c);rw[hg]at hv;obtain⟨z,u,h1,h2,h3⟩:=loadK_some h hk hv;obtain⟨as,vs,k1,k2,k3,k4⟩:=resK_some h l h1;obtain⟨_,b,_,hp⟩:=hv;simp only[Act.eval]at hp h2;refine⟨_,u::vs,k1,⟨h3,k2⟩,by simp[k3],fun i x v hi hv=>?_⟩
   cases i with
   | zero =>
    simp at hi hv;subst hi;subst hv;simp only[resM];rw[hp]at h2 ⊢;simpa[Instr.loadAt,Instr.sureAddr,asAddr]using h2
   | succ i=>exact k4 i x v (by simpa using hi) (by simpa using hv)
  ·simp at hk
theorem run_results {fn:Func} {tmps:Array Value} {vs:List Value} (hl:vs.length = fn.results.toList.length) (h:∀ (i:Nat) (x:ResultVar) (v:Value),fn.results.toList[i]? = some x→vs[i]? = some v→(resM tmps x).run C.P w = .ok v w) :
  (results fn tmps).run C.P w=.ok (retV vs) w:=by
 have hm:=run_mapM (P:=C.P) (w:=w) (f:=resM tmps) fn.results.toList hl h;have e1:results fn tmps = (do
   let us ←fn.results.mapM (resM tmps)
   pure (if h:us.size=1 then us[0]else .tuple us)):=by
  unfold results;congr 1
 rw[e1,Array.mapM_eq_mapM_toList];simp only[Sem.run_bind,Sem.run_map,hm,Result.andThen_ok,Sem.run_pure];match vs with
 | []=>simp[retV]
 | [v]=>simp[retV]
 | v::v'::vs=>simp[retV]
theorem encPs_len:(ps:List PM)→(σ:Sg)→(y:PMs.den ps)→(encPs σ ps y).1.length=ps.length
 | [],_,_=>rfl
 | [p],_,_=>rfl
 | p::p'::r,σ,y=>by simp only[encPs,List.length_cons];rw[encPs_len (p'::r)];rfl
def isIo:PM→Bool
 | .io _ _ _=>true
 | .cur _=>true
 | _=>false
theorem ioK_some (h:RelG E G σ a w):(ps:List PM)→(i:Nat)→{ids:List Nat}→{σ':Sg}→{k:PMo.den ps→Sg→Option ρ}→{r:ρ}→{vs:List Value}→Gone σ σ' ids→Mine σ ids→vs.length = ps.length →
  (∀(j:Nat) (p:PM) (v:Value),ps[j]? = some p→isIo p=true→vs[j]? = some v→a.tmps.getD (i+j) undef=v)→ioK ps i σ' k=some r →
  ∃o σ2 new bss,k o σ2=some r∧Took G σ σ2 ids new bss∧IoV (Imm E G σ w) w ps o vs bss
 | [],i,ids,σ',k,r,[],hg,hm,_,_,hk=>⟨(),σ',[],[],hk,Took.none hg,rfl⟩
 | .io dp e t::ps,i,ids,σ',k,r,v::vs,hg,hm,hl,hv,hk=>by
  simp only[ioK]at hk;have hva:=h.get (.tmp i);have h0:=hv 0 _ v rfl rfl rfl;simp only[Act.eval,Nat.add_zero]at hva h0;rw[h0]at hva;have hge:getA σ' (.tmp i)=getA σ (.tmp i):=by simp[getA,hg.env]
  rw[hge]at hk;obtain⟨y,σ2,new,bss,h1,h2,h3⟩:=decS_some h hg hm hk hva;obtain⟨bs,rfl,h3⟩:=h3;obtain⟨o,σ3,n2,b2,k1,k2,k3⟩:=ioK_some h ps (i+1) (vs:=vs) h2.gone (hm.append h2.mine) (by simpa using hl) (fun j p v hp hi hj=>by
   have:=hv (j+1) p v (by simpa using hp) hi (by simpa using hj)
   rwa [show i+(j+1)=i+1+j from by omega]at this) h1
  exact⟨(y,o),σ3,new++n2,[bs]++b2,k1,Took.trans h h2 k2,bs,b2,rfl,h3,k3⟩
 | .cur e::ps,i,ids,σ',k,r,v::vs,hg,hm,hl,hv,hk=>by
  simp only[ioK]at hk;have hva:=h.get (.tmp i);have h0:=hv 0 _ v rfl rfl rfl;simp only[Act.eval,Nat.add_zero]at hva h0;rw[h0]at hva;have hge:getA σ' (.tmp i)=getA σ (.tmp i):=by simp[getA,hg.env]
  rw[hge]at hk;obtain⟨y,σ2,new,bss,h1,h2,h3⟩:=decS_some h hg hm hk hva;obtain⟨b,rfl,h3c⟩:=CurV.of h3;obtain⟨o,σ3,n2,b2,k1,k2,k3⟩:=ioK_some h ps (i+1) (vs:=vs) h2.gone (hm.append h2.mine) (by simpa using hl) (fun j p v hp hi hj=>by
   have:=hv (j+1) p v (by simpa using hp) hi (by simpa using hj)
   rwa [show i+(j+1)=i+1+j from by omega]at this) h1
  exact⟨(y,o),σ3,new++n2,[[b]]++b2,k1,Took.trans h h2.cur k2,[b],b2,rfl,h3c,k3⟩
 | .d _ _::ps,i,ids,σ',k,r,v::vs,hg,hm,hl,hv,hk=>by
  simp only[ioK]at hk;exact ioK_some h ps (i+1) (vs:=vs) hg hm (by simpa using hl) (fun j p v hp hi hj=>by
   have:=hv (j+1) p v (by simpa using hp) hi (by simpa using hj)
   rwa [show i+(j+1)=i+1+j from by omega]at this) hk
 | .f _::ps,i,ids,σ',k,r,v::vs,hg,hm,hl,hv,hk=>by
  simp only[ioK]at hk;exact ioK_some h ps (i+1) (vs:=vs) hg hm (by simpa using hl) (fun j p v hp hi hj=>by
   have:=hv (j+1) p v (by simpa using hp) hi (by simpa using hj)
   rwa [show i+(j+1)=i+1+j from by omega]at this) hk
 | .mv _ _ _::ps,i,ids,σ',k,r,v::vs,hg,hm,hl,hv,hk=>by
  simp only[ioK]at hk;exact ioK_some h ps (i+1) (vs:=vs) hg hm (by simpa using hl) (fun j p v hp hi hj=>by
   have:=hv (j+1) p v (by simpa using hp) hi (by simpa using hj)
   rwa [show i+(j+1)=i+1+j from by omega]at this) hk
 | [],_,_,_,_,_,_::_,_,_,hl,_,_=>by simp at hl
 | _::_,_,_,_,_,_,[],_,_,hl,_,_=>by simp at hl
theorem IoV.noIo {I:Nat→Prop}:(ps:List PM)→{y:PMo.den ps}→{vs:List Value}→{bss:List (List Nat)}→hasIo ps=false→IoV I w ps y vs bss→bss=[]
 | [],y,[],bss,_,h=>h
 | .io _ _ _::_,y,v::vs,bss,hn,h=>by simp[hasIo]at hn
 | .cur _::_,y,v::vs,bss,hn,h=>by simp[hasIo]at hn
 | .d _ _::ps,y,v::vs,bss,hn,h=>IoV.noIo ps (by simpa[hasIo]using hn) h
 | .f _::ps,y,v::vs,bss,hn,h=>IoV.noIo ps (by simpa[hasIo]using hn) h
 | .mv _ _ _::ps,y,v::vs,bss,hn,h=>IoV.noIo ps (by simpa[hasIo]using hn) h
 | [],y,_::_,bss,_,h=>h.elim
 | _::_,y,[],bss,_,h=>by simp[IoV]at h
theorem resB_resJ {R O:Type}(b:Bool)(r:R)(o:O):(resB b (resJ b r o)).1=r∧((resB b (resJ b r o)).2=none→b=false)∧∀o',(resB b (resJ b r o)).2=some o'→o'=o:=by
 cases b<;>simp[resB,resJ]
theorem funK_ctr {D:Prop} (hC:Ctrs D C) {e:CallE} {fn:Func} {c:Code} (hf:C.P.funcs[e.f]? = some fn) (hname:(fn.name == "runtime.NumGoroutine") = false) (hbody:fn.body = some c) (hn:e.ps.length≤fn.ntmps)
  (hio:∀(i:Nat) (p:PM),e.ps[i]? = some p→isIo p=true→i∉wrC c) (hF:∀x r,e.F x=some r→funK C fn e.ps e.rs x=some r):FnOk C.P e.f∧Ctr D C.P e:=by
 refine⟨⟨fn,c,hf,hname,hbody⟩,fun x r hx I w vs bss hin hargs=>?_⟩;have hk:=hF x r hx;have hvl:vs.length=e.ps.length:=by
  have:∀(ps:List PM) (y:PMs.den ps) (vs:List Value) (bss:List (List Nat)),ArgsV I w ps y vs bss→vs.length=ps.length:=by
   intro ps;induction ps with
   | nil=>intro y vs bss h;cases vs with
    | nil=>rfl
    | cons _ _=>exact h.elim
   | cons p ps ih =>
    intro y vs bss h;cases ps with
    | nil=>match vs,h with
     | [v],_=>rfl
    | cons p' r=>match vs,h with
     | v::vs,⟨b1,b2,_,_,h⟩=>simp only[List.length_cons];rw[ih _ _ _ h];rfl
  exact this _ _ _ _ hargs
 let a:Act:={ tmps:=vs.toArray++Array.replicate (fn.ntmps-vs.toArray.size) undef,defers:=[] }
 let E:En:=⟨w,fun b=>I b∨b∈bss.flatten,fun b=>b∈bss.flatten,fun b=>∃bs∈bss,bs.head? = some b,fun t=>t∉wrC c,fun t=>a.tmps.getD t undef,D⟩
 have hsz:a.tmps.size=fn.ntmps:=by simp[a];omega
 have h0:Pre E I (fun _=>False) (fun _=>(undef,[])) ⟨List.replicate fn.ntmps (.l .unk),[]⟩ a w :=
  {defers:=rfl
   len:=by rw[hsz];simp
   env:=fun t x hx=>by
    rw[List.getElem?_replicate]at hx;split at hx
    ·obtain rfl:=Option.some.inj hx;trivial
    ·simp at hx
   obs:=fun id o ho=>by simp[Sg.ob]at ho
   nodup:=fun id o ho=>by simp[Sg.ob]at ho
   range:=fun id o ho=>by simp[Sg.ob]at ho
   hrange:=fun id o ho=>by simp[Sg.ob]at ho
   disj:=fun id id' o o' ho=>by simp[Sg.ob]at ho
   os:=rfl
   tape:=rfl
   output:=.refl _
   size:=Nat.le_refl _
   frame:=fun _ _ _=>rfl
   xa:=⟨fun b hb=>.inr hb,hin.gl,hin.gx,fun b ⟨bs,hbs,hb⟩=>hin.gx b (List.mem_flatten.2 ⟨bs,hbs,List.mem_of_mem_head? hb⟩)⟩
   fixd:=fun _ _=>rfl
   acc:=fun b hb=>⟨hin.acc b hb,fun _=>.inl hb⟩ }
 have hadm:Adm E I (fun _=>False) w bss:=⟨hin.nodup,fun b hb=>⟨hin.range b hb,fun _=>hb,fun hf=>hf⟩,fun bs hbs b hb=>⟨fun _=>⟨bs,hbs,hb⟩,hin.head bs hbs b hb⟩⟩;obtain⟨G1,h1,h2,h3⟩:=encPs_some e.ps h0 hargs hadm;unfold funK at hk;rw[hbody]at hk;simp only at hk;have hal:=encPs_len e.ps ⟨List.replicate fn.ntmps (.l .unk),[]⟩ x;generalize encPs ⟨List.replicate fn.ntmps (.l .unk),[]⟩ e.ps x=q at hk h1 h2 h3 hal;obtain⟨as,σ1⟩:=q;simp only at hk h1 h2 h3 hal;have hstart:RelG E G1 { σ1 with env:=as++σ1.env.drop as.length } a w:=by
  have hr:=h1.rel;have h2':=h2.keep h1.keep as;refine{ hr with len:=?_,env:=fun t y hy=>?_ }
  ·show a.tmps.size=(as++σ1.env.drop as.length).length;rw[hsz,h3.env];simp;omega
  ·show VA (Imm E G1 σ1 w) σ1.hp.length G1 w y _;have hy:(as++σ1.env.drop as.length)[t]? = some y:=hy;by_cases ht:t<as.length
   ·rw[List.getElem?_append_left ht]at hy;have:∀(as:List A) (vs:List Value) (t:Nat) (y:A),VAs (Imm E G1 σ1 w) σ1.hp.length G1 w as vs→as[t]? = some y→∃v,vs[t]? = some v∧VA (Imm E G1 σ1 w) σ1.hp.length G1 w y v:=by
     intro as;induction as with
     | nil=>intro vs t y _ hy;simp at hy
     | cons a as ih =>
      intro vs t y hv hy;cases vs with
      | nil=>exact hv.elim
      | cons v vs =>
       cases t with
       | zero=>simp at hy;subst hy;exact⟨v,rfl,hv.1⟩
       | succ t=>simpa using ih vs t y hv.2 (by simpa using hy)
    obtain⟨v,hv1,hv2⟩:=this as vs t y h2' hy;have hlt:=(List.getElem?_eq_some_iff.1 hv1).1;have:a.tmps.getD t undef=v:=by
     simp only[a,Array.getD_eq_getD_getElem?];rw[Array.getElem?_append_left (by simpa using hlt)]
     simp[hv1]
    rw[this];exact hv2
   ·rw[List.getElem?_append_right (by omega),List.getElem?_drop,h3.env,List.getElem?_replicate]at hy
    split at hy
    ·obtain rfl:=Option.some.inj hy;trivial
    ·simp at hy
 refine calls_of_wp hf hbody ?_;refine codeK_some (E:=E) hC c rfl (fun t ht hf=>hf ht) hstart hk _ fun ex σ' a' w' G' hk2 hr hkc _=>?_;have fin:(resK C σ' fn.results.toList fun vs=>ioK e.ps 0 (frzSs e.rs vs σ') fun o σ=>decSs e.rs vs σ fun r _=>some (resJ (hasIo e.ps) r o)) = some r→a'.defers = []∧∃ v,(results fn a'.tmps).run C.P w' = .ok v w' ∧
   ∃(I':Nat→Prop) (rvs:List Value) (rbss ibss:List (List Nat)),Ending.returned v=.returned (retV rvs)∧CallOut D I w w' bss (ibss++rbss) I' ∧
   SVs I' w' e.rs (resB (hasIo e.ps) r).1 rvs rbss∧((resB (hasIo e.ps) r).2=none→ibss=[])∧∀o,(resB (hasIo e.ps) r).2=some o→IoV I' w' e.ps o vs ibss:=fun hk3=>by
  refine⟨hr.defers,?_⟩;obtain⟨xs,rvs,k1,k2,k3,k4⟩:=resK_some hr _ hk3;have f:=frzSs_frz e.rs xs σ';have hr2:=f.rel hr;generalize frzSs e.rs xs σ'=σ2 at k1 f hr2;obtain⟨o,σ3,new1,ibss,q1,q2,q3⟩:=ioK_some hr2 e.ps 0 (vs:=vs) (Gone.refl _) (by simp[Mine]) hvl (fun j p v hp hi hv=>by
   have hfx:=hr2.fixd (0+j) (by show 0+j∉wrC c;rw[Nat.zero_add];exact hio j p hp hi)
   rw[hfx];show a.tmps.getD (0+j) undef=v;have hlt:=(List.getElem?_eq_some_iff.1 hv).1;simp only[a,Array.getD_eq_getD_getElem?,Nat.zero_add];rw[Array.getElem?_append_left (by simpa using hlt)]
   simp[hv]) k1
  obtain⟨y,σ4,new2,rbss,q4,q5,hsv⟩:=decSs_some e.rs hr2 q2.gone (by simpa using q2.mine) q1 (k2.keep f.keep _)
  obtain rfl:=Option.some.inj q4;have tk:=Took.trans hr2 q2 q5;obtain⟨z1,z2,z3⟩:=resB_resJ (hasIo e.ps) y o;refine⟨_,run_results k3 k4,Imm E G' σ2 w',rvs,rbss,ibss,rfl,?_,?_,fun hno=>IoV.noIo e.ps (z2 hno) q3,fun o' ho=>?_⟩
  ·have had:=tk.cls.adm hr2 tk.mine (U:=fun _=>False) (fun _ _ _ _ hf=>hf);exact⟨hr2.os,hr2.tape,hr2.output,hr2.size,fun b hb hh=>hr2.frame b hb fun⟨bs,hbs,hx⟩=>hh bs hbs hx,fun b hb=>⟨hb.1,hb.2.1⟩,had.nodup,
    fun b hb=>⟨(had.range b hb).1,(had.range b hb).2.1⟩,fun bs hbs b hb=>⟨(had.head bs hbs b hb).2,(had.head bs hbs b hb).1⟩⟩
  ·rw[z1];exact hsv
  ·rw[z3 o' ho];exact q3
 cases ex with
 | normal=>exact fin hk2
 | ret=>exact fin hk2
 | exit id=>simp at hk2
end
open Go
set_option linter.all false
section
variable {ρ:Type}{C:Ctx}{σ:Sg}
theorem putK_nat {d:Option Tmp}{v:A}(K:Sg→Option ρ):putK σ d v K=(putK σ d v some).bind K:=by
 unfold putK;cases d with
 | none=>rfl
 | some d =>
  have:∀(β:Type) (l:List A) (n:Nat) (f:List A→Sg) (k:Sg→Option β),(setK l n v fun e=>k (f e))=(setK l n v fun e=>some (f e)).bind k:=by
   intro β l;induction l with
   | nil=>intro n f k;rfl
   | cons x l ih =>
    intro n f k;cases n with
    | zero=>rfl
    | succ n=>exact ih n (fun e=>f (x::e)) k
  exact this ρ σ.env d (fun env=>{ σ with env:=env }) K
theorem natThen {f:(ρ:Type)→(Sg→Option ρ)→Option ρ}(hf:∀(ρ:Type)(K:Sg→Option ρ),f ρ K=(f Sg some).bind K){β γ:Type}{K:γ→Option β}{g:Sg→Option β}{h:Sg→Option γ}(hg:∀s,g s=(h s).bind K):f β g=(f γ h).bind K:=by
 rw[hf β g,hf γ h,Option.bind_assoc];congr 1;funext s;exact hg s
theorem natOp (hN:NatI C){op:Op}{β γ:Type}{K:γ→Option β}{g:A→Sg→Option β}{h:A→Sg→Option γ}(hg:∀v s,g v s=(h v s).bind K):opK C σ op g=(opK C σ op h).bind K:=by
 rw[opK_nat hN g,opK_nat hN h,Option.bind_assoc];congr 1;funext p;exact hg p.1 p.2
theorem natPut {d:Option Tmp}{v:A}{β γ:Type}{K:γ→Option β}{g:Sg→Option β}{h:Sg→Option γ}(hg:∀s,g s=(h s).bind K):putK σ d v g=(putK σ d v h).bind K :=
 natThen (f:=fun ρ=>putK (ρ:=ρ) σ d v) (fun ρ K=>putK_nat K) hg
theorem operK_nat (hN:NatI C){ops:Array Oper}{o:Oper}(K:Sg→Option ρ):operK C ops σ o K=(operK C ops σ o some).bind K:=by
 have hr:∀(s:Sg),(opK C s o.op fun v s=>putK s o.dst v K)=(opK C s o.op fun v s=>putK s o.dst v some).bind K:=fun s=>natOp hN fun v s=>putK_nat K;unfold operK;split
 ·exact hr _
 ·split
  ·split
   ·rename_i want _ _ _ _ _ _ b _;cases b
    ·simp only[cond_false];refine natPut fun s=>?_;cases want
     ·exact hr _
     ·exact putK_nat K
    ·simp only[cond_true];refine natPut fun s=>?_;cases want
     ·exact putK_nat K
     ·exact hr _
   ·exact putK_nat K
   ·rfl
  ·rfl
theorem opersK_nat (hN:NatI C){ops:Array Oper}:(l:List Oper)→(σ:Sg)→(ρ:Type)→(K:Sg→Option ρ)→opersK C ops σ l K=(opersK C ops σ l some).bind K
 | [],_,_,_=>rfl
 | o::r,σ,ρ,K=>natThen (f:=fun ρ=>operK (ρ:=ρ) C ops σ o) (fun ρ K=>operK_nat hN K) fun s=>opersK_nat hN r s ρ K
theorem drawK_nat (hN:NatI C) {ops:Array Oper} {th ds wr:List Nat} {m base k:Nat}:(l:List Oper)→(i:Nat)→(ancL used:List Nat)→(σ:Sg)→(ρ:Type)→(K:Sg→Option ρ) →
  drawK C ops th ds wr m base k i l ancL used σ K=(drawK C ops th ds wr m base k i l ancL used σ some).bind K
 | [],_,_,_,_,_,_=>rfl
 | o::r,i,ancL,used,σ,ρ,K=>by
  have put:∀ (s:Sg) (d:Option Tmp) (v:A) (u:List Nat),(putK s d v fun s=>drawK C ops th ds wr m base k (i + 1) r (ancL ++ [ancs ancL o]) u s K) =
    (putK s d v fun s=>drawK C ops th ds wr m base k (i+1) r (ancL++[ancs ancL o]) u s some).bind K:=fun s d v u=>natPut fun s=>drawK_nat hN r (i+1) _ u s ρ K
  simp only[drawK];split
  ·split
   ·refine natOp hN fun v s=>?_;split
    ·exact put _ _ _ _
    ·rfl
   ·rfl
  ·split
   ·split
    ·rename_i want _ _ _ _ _ _ _ _ b _;cases b
     ·simp only[cond_false];refine natPut fun s=>?_;cases want
      ·simp only[cond_false];split
       ·refine natOp hN fun v s=>?_;split
        ·exact put _ _ _ _
        ·rfl
       ·rfl
      ·exact put _ _ _ _
     ·simp only[cond_true];refine natPut fun s=>?_;cases want
      ·exact put _ _ _ _
      ·simp only[cond_true];split
       ·refine natOp hN fun v s=>?_;split
        ·exact put _ _ _ _
        ·rfl
       ·rfl
    ·exact put _ _ _ _
    ·rfl
   ·rfl
theorem regionD_nat {id:Nat}(hN:NatI C){ops:Array Oper}(K:Sg→Option ρ):regionD C id ops σ K=(regionD C id ops σ some).bind K:=by
 unfold regionD;simp only;split
 ·refine natThen (f:=fun ρ=>drawK (ρ:=ρ) { C with I:=C.I.filter (·.dr) } ops _ _ _ _ _ _ 0 _ [] [] _) (fun ρ K=>drawK_nat (fun e he=>hN e (List.mem_filter.1 he).1) _ _ _ _ _ ρ K) fun s=>opersK_nat hN _ _ _ _
 ·rfl
theorem seqK_nat (hN:NatI C){ops:Array Oper}{an:List Nat}:(ord:List Nat)→(listed:Array Bool)→(σ:Sg)→(ρ:Type)→(K:Sg→Option ρ)→seqK C ops an ord listed σ K=(seqK C ops an ord listed σ some).bind K
 | [],listed,σ,ρ,K=>by
  simp only[seqK];split<;>rfl
 | i::r,listed,σ,ρ,K=>by
  simp only[seqK];split
  ·exact natThen (f:=fun ρ=>operK (ρ:=ρ) C ops σ _) (fun ρ K=>operK_nat hN K) fun s=>seqK_nat hN r _ s ρ K
  ·rfl
theorem regionX_nat {id:Nat}(hN:NatI C){ops:Array Oper}(K:Sg→Option ρ):regionX C id ops σ K=(regionX C id ops σ some).bind K:=by
 unfold regionX;split
 ·unfold regionS;split
  ·exact seqK_nat hN _ _ _ _ _
  ·rfl
 ·exact regionD_nat hN K
theorem frameK_nat {ws:List Nat}{β γ:Type}{K:γ→Option β}{g:Sg→Option β}{h:Sg→Option γ}(hg:∀s,g s=(h s).bind K):frameK ws σ g=(frameK ws σ h).bind K:=by
 rw[frameK_eq,frameK_eq];exact hg _
theorem decSs_nat:(cs:List SK)→(xs:List A)→(σ:Sg)→(ρ:Type)→(k:SKs.den cs→Sg→Option ρ)→decSs cs xs σ k=(decSs cs xs σ fun y s=>some (y,s)).bind fun p=>k p.1 p.2
 | [],[],_,_,_=>rfl
 | [],_::_,_,_,_=>rfl
 | [c],[x],σ,ρ,k=>decS_nat k
 | [_],[],_,_,_=>rfl
 | [_],_::_::_,_,_,_=>rfl
 | c::c'::r,[],_,_,_=>rfl
 | c::c'::r,x::xs,σ,ρ,k=>by
  simp only[decSs];rw[decS_nat (ρ:=ρ),decS_nat (ρ:=SKs.den (c::c'::r)×Sg),Option.bind_assoc];congr 1;funext p
  rw[decSs_nat (c'::r) xs p.2 ρ,decSs_nat (c'::r) xs p.2 (SKs.den (c::c'::r)×Sg),Option.bind_assoc];rfl
theorem takeSs_nat {cs:List SK}{xs:List A}{β γ:Type}{K:γ→Option β}{g:SKs.den cs→Sg→Option β}{h:SKs.den cs→Sg→Option γ}(hg:∀y s,g y s=(h y s).bind K):takeSs σ cs xs g=(takeSs σ cs xs h).bind K:=by
 unfold takeSs;rw[decSs_nat cs xs _ β,decSs_nat cs xs _ γ,Option.bind_assoc];congr 1;funext p;exact hg _ _
theorem putsK_nat:(ps:List (Nat×SK))→(xs:List A)→(σ:Sg)→{β γ:Type}→{K:γ→Option β}→{g:Sg→Option β}→{h:Sg→Option γ}→(hg:∀s,g s=(h s).bind K)→putsK σ ps xs g=(putsK σ ps xs h).bind K
 | [],[],σ,_,_,_,_,_,hg=>hg σ
 | [],_::_,_,_,_,_,_,_,_=>rfl
 | (p,_)::r,[],_,_,_,_,_,_,_=>rfl
 | (p,_)::r,x::xs,σ,_,_,_,_,_,hg=>natPut fun s=>putsK_nat r xs s hg
theorem layK_nat {ps:List (Nat×SK)}{x:SKs.den (ps.map (·.2))}{β γ:Type}{K:γ→Option β}{g:Sg→Option β}{h:Sg→Option γ}(hg:∀s,g s=(h s).bind K):layK σ ps x g=(layK σ ps x h).bind K:=by
 unfold layK;rw[encSs_nat (ρ:=β),encSs_nat (ρ:=γ),Option.bind_assoc];congr 1;funext p;exact putsK_nat ps _ _ hg
theorem moveK_nat {x0 x:A}{β γ:Type}{K:γ→Option β}{g:Sg→Option β}{h:Sg→Option γ}(hg:∀s,g s=(h s).bind K):moveK x0 x σ g=(moveK x0 x σ h).bind K:=by
 unfold moveK;repeat' split
 all_goals first
  | rfl
  | exact hg _
theorem layI_nat {ps:List (Nat×SK)}{t:Nat}{c:SK}{x:SKs.den ((ps++[(t,c)]).map (·.2))}{β γ:Type}{K:γ→Option β}{g:Sg→Option β}{h:Sg→Option γ}(hg:∀s,g s=(h s).bind K):layI σ ps t c x g=(layI σ ps t c x h).bind K:=by
 unfold layI;rw[encSs_nat (ρ:=β),encSs_nat (ρ:=γ),Option.bind_assoc];congr 1;funext p
 refine putsK_nat ps _ _ fun s=>?_;split
 ·exact moveK_nat hg
 ·rfl
theorem codeK_nat (hN:NatI C)(c:Code):∀(β γ:Type) (σ:Sg) (K:γ→Option β) (g:AEx→Sg→Option β) (h:AEx→Sg→Option γ),(∀e s,g e s=(h e s).bind K)→codeK C c β σ g=(codeK C c γ σ h).bind K:=by
 induction c with
 | skip=>intro β γ σ K g h hg;exact hg _ _
 | region id ops draw =>
  intro β γ σ K g h hg;cases draw with
  | true=>exact natThen (f:=fun ρ=>regionX (ρ:=ρ) C id ops σ) (fun ρ K=>regionX_nat hN K) fun s=>hg _ s
  | false=>exact natThen (f:=fun ρ=>opersK (ρ:=ρ) C ops σ ops.toList) (fun ρ K=>opersK_nat hN _ _ _ K) fun s=>hg _ s
 | seq x y ihx ihy =>
  intro β γ σ K g h hg;simp only[codeK];refine ihx _ _ _ _ _ _ fun e s=>?_;cases e with
  | normal=>exact ihy _ _ _ _ _ _ hg
  | exit id=>exact hg _ _
  | ret=>exact hg _ _
 | cond c x y ihx ihy =>
  intro β γ σ K g h hg;simp only[codeK];split
  ·rename_i b _;cases b
   ·exact ihy _ _ _ _ _ _ hg
   ·exact ihx _ _ _ _ _ _ hg
  ·rfl
 | block id c ih =>
  intro β γ σ K g h hg;simp only[codeK];refine ih _ _ _ _ _ _ fun e s=>?_;cases e with
  | normal=>exact hg _ _
  | ret=>exact hg _ _
  | exit id' =>
   simp only;split
   ·exact hg _ _
   ·exact hg _ _
 | exit id=>intro β γ σ K g h hg;exact hg _ _
 | ret=>intro β γ σ K g h hg;exact hg _ _
 | loop c ih =>
  intro β γ σ K g h hg;simp only[codeK];split
  ·rfl
  ·split
   ·split
    ·rfl
    ·refine takeSs_nat fun y s=>frameK_nat fun s=>?_;split
     ·rw[Option.bind_assoc];congr 1;funext z;exact layI_nat fun s=>hg _ s
     ·rw[Option.bind_assoc];congr 1;funext z;cases z with
      | inl z=>exact layI_nat fun s=>hg _ s
      | inr z=>exact layK_nat fun s=>hg _ s
     ·rfl
   refine takeSs_nat fun y s=>frameK_nat fun s=>?_;split
   ·rw[Option.bind_assoc];congr 1;funext z;exact layK_nat fun s=>hg _ s
   ·rw[Option.bind_assoc];congr 1;funext z;exact layK_nat fun s=>hg _ s
   ·rw[Option.bind_assoc];congr 1;funext z;cases z with
    | inl z=>exact layK_nat fun s=>hg _ s
    | inr z=>exact layK_nat fun s=>hg _ s
   ·rfl
 | _=>intro β γ σ K g h hg;simp[codeK]
theorem resK_nat:(l:List ResultVar)→{β γ:Type}→{K:γ→Option β}→{g:List A→Option β}→{h:List A→Option γ}→(hg:∀as,g as=(h as).bind K)→resK C σ l g=(resK C σ l h).bind K
 | [],_,_,_,_,_,hg=>hg _
 | .tmp t::r,_,_,_,_,_,hg=>by simp only[resK];exact resK_nat r fun as=>hg _
 | .cell a t::r,β,γ,_,g,h,hg=>by
  simp only[resK];split
  ·rename_i id j _;rw[loadK_nat (ρ:=β),loadK_nat (ρ:=γ),Option.bind_assoc];congr 1;funext x;exact resK_nat r fun as=>hg _
  ·rfl
end
section
variable {ρ:Type}{C:Ctx}{E:En}{G G':Gh}{σ σ':Sg}{a:Act}{w:World}
theorem natI {D:Prop}(hC:Ctrs D C):NatI C:=fun e he=>(hC.inl e he).2.nat
theorem inlK_nat {D:Prop}(hC:Ctrs D C){fn:Func}(xs:List A)(σ:Sg)(k:A→Sg→Option ρ):inlK C fn ρ xs σ k=(inlK C fn (A×Sg) xs σ fun v s=>some (v,s)).bind fun p=>k p.1 p.2:=by
 unfold inlK;split
 ·refine codeK_nat (natI hC) _ _ _ _ _ _ _ fun e s=>?_;cases e with
  | exit id=>rfl
  | normal =>
   refine resK_nat _ fun as=>?_;split<;>rfl
  | ret =>
   refine resK_nat _ fun as=>?_;split<;>rfl
 ·rfl
structure Kq (σ σ':Sg):Prop where
 n:σ.hp.length≤σ'.hp.length
 ob:∀id o,σ.ob id=some o→o.ro=true→σ'.ob id=some o
theorem Kq.refl (σ:Sg):Kq σ σ:=⟨Nat.le_refl _,fun _ _ h _=>h⟩
theorem Kq.trans {a b c:Sg}(h:Kq a b)(k:Kq b c):Kq a c:=⟨Nat.le_trans h.n k.n,fun id o ho hr=>k.ob id o (h.ob id o ho hr) hr⟩
theorem Kq.of {a b:Sg}(h:a.hp=b.hp):Kq a b:=⟨by rw[h];exact Nat.le_refl _,fun id o ho _=>by unfold Sg.ob at ho ⊢;rw[←h];exact ho⟩
theorem Kp.kq {a b:Sg}(h:Kp a b):Kq a b:=⟨h.n,h.ob⟩
theorem putK_kq {d:Option Tmp}{v:A}{K:Sg→Option ρ}{r:ρ}(hk:putK σ d v K=some r):∃σ',K σ'=some r∧Kq σ σ':=by
 unfold putK at hk;cases d with
 | none=>exact⟨σ,hk,Kq.refl _⟩
 | some d =>
  have:∀(l:List A) (n:Nat) (k:List A→Option ρ),setK l n v k=some r→∃l',k l'=some r:=by
   intro l;induction l with
   | nil=>intro n k h;exact⟨_,h⟩
   | cons x l ih =>
    intro n k h;cases n with
    | zero=>exact⟨_,h⟩
    | succ n=>exact(ih n (fun e=>k (x::e)) h).elim fun l' hl=>⟨_,hl⟩
  obtain⟨l',hl⟩:=this σ.env d (fun env=>K { σ with env:=env }) hk;exact⟨_,hl,Kq.of rfl⟩
theorem operK_kq (hI:KpI C)(hN:NatI C){ops:Array Oper}{o:Oper}{K:Sg→Option ρ}{r:ρ}(hk:operK C ops σ o K=some r):∃σ',K σ'=some r∧Kq σ σ':=by
 have hr:∀(s:Sg),(opK C s o.op fun v s=>putK s o.dst v K)=some r→∃σ',K σ'=some r∧Kq s σ':=fun s h=>by
  rw[opK_nat hN]at h;obtain⟨⟨v,s'⟩,h1,h2⟩:=Option.bind_eq_some_iff.1 h;obtain⟨σ',h3,h4⟩:=putK_kq h2;exact⟨σ',h3,(opK_kp hI h1).kq.trans h4⟩
 unfold operK at hk;split at hk
 ·exact hr _ hk
 ·split at hk
  ·split at hk
   ·rename_i want _ _ _ _ _ _ b _;cases b
    ·simp only[cond_false]at hk;obtain⟨s,h1,h2⟩:=putK_kq hk;cases want
     ·obtain⟨s',h3,h4⟩:=hr _ h1;exact⟨s',h3,h2.trans h4⟩
     ·obtain⟨s',h3,h4⟩:=putK_kq h1;exact⟨s',h3,h2.trans h4⟩
    ·simp only[cond_true]at hk;obtain⟨s,h1,h2⟩:=putK_kq hk;cases want
     ·obtain⟨s',h3,h4⟩:=putK_kq h1;exact⟨s',h3,h2.trans h4⟩
     ·obtain⟨s',h3,h4⟩:=hr _ h1;exact⟨s',h3,h2.trans h4⟩
   ·exact putK_kq hk
   ·simp at hk
  ·simp at hk
theorem opersK_kq (hI:KpI C)(hN:NatI C){ops:Array Oper}:(l:List Oper)→{σ:Sg}→{K:Sg→Option ρ}→{r:ρ}→opersK C ops σ l K=some r→∃σ',K σ'=some r∧Kq σ σ'
 | [],σ,K,r,hk=>⟨σ,hk,Kq.refl _⟩
 | o::l,σ,K,r,hk=>by
  simp only[opersK]at hk;obtain⟨s,h1,h2⟩:=operK_kq hI hN hk;obtain⟨s',h3,h4⟩:=opersK_kq hI hN l h1;exact⟨s',h3,h2.trans h4⟩
theorem simple_kq (hI:KpI C)(hN:NatI C)(c:Code):simpleC c=true→∀{ρ:Type} {σ:Sg} {k:AEx→Sg→Option ρ} {r:ρ},codeK C c ρ σ k=some r→∃e σ',k e σ'=some r∧Kq σ σ':=by
 induction c with
 | skip=>intro _ ρ σ k r h;exact⟨_,_,h,Kq.refl _⟩
 | region id ops draw =>
  intro hs ρ σ k r h;cases draw with
  | true=>simp[simpleC]at hs
  | false =>
   obtain⟨s,h1,h2⟩:=opersK_kq hI hN _ h;exact⟨_,s,h1,h2⟩
 | seq x y ihx ihy =>
  intro hs ρ σ k r h;simp only[simpleC,Bool.and_eq_true]at hs;simp only[codeK]at h;obtain⟨e,s,h1,h2⟩:=ihx hs.1 h;cases e with
  | normal=>obtain⟨e,s',h3,h4⟩:=ihy hs.2 h1;exact⟨e,s',h3,h2.trans h4⟩
  | exit id=>exact⟨_,s,h1,h2⟩
  | ret=>exact⟨_,s,h1,h2⟩
 | cond c x y ihx ihy =>
  intro hs ρ σ k r h;simp only[simpleC,Bool.and_eq_true]at hs;simp only[codeK]at h;split at h
  ·rename_i b _;cases b
   ·exact ihy hs.2 h
   ·exact ihx hs.1 h
  ·simp at h
 | block id c ih =>
  intro hs ρ σ k r h;simp only[codeK]at h;obtain⟨e,s,h1,h2⟩:=ih hs h;cases e with
  | normal=>exact⟨_,s,h1,h2⟩
  | ret=>exact⟨_,s,h1,h2⟩
  | exit id' =>
   simp only at h1;split at h1
   ·exact⟨_,s,h1,h2⟩
   ·exact⟨_,s,h1,h2⟩
 | exit id=>intro _ ρ σ k r h;exact⟨_,_,h,Kq.refl _⟩
 | ret=>intro _ ρ σ k r h;exact⟨_,_,h,Kq.refl _⟩
 | _=>intro hs;simp[simpleC]at hs
theorem inlK_kp (hI:C.I=[]){fn:Func}{c:Code}(hb:fn.body=some c)(hs:simpleC c=true){xs:List A}{σ σ':Sg}{x:A}(hk:inlK C fn (A×Sg) xs σ (fun v s=>some (v,s))=some (x,σ')):Kp σ σ':=by
 have hKI:KpI C:=fun e he=>by rw[hI]at he;simp at he
 have hNI:NatI C:=fun e he=>by rw[hI]at he;simp at he
 have res:∀(l:List ResultVar) (s:Sg) (k:List A→Option (A×Sg)) (r:A×Sg),resK C s l k=some r→∃as,k as=some r:=by
  intro l s;induction l with
  | nil=>intro k r h;exact⟨_,h⟩
  | cons v l ih =>
   intro k r h;cases v with
   | tmp t=>simp only[resK]at h;obtain⟨as,h⟩:=ih _ _ h;exact⟨_,h⟩
   | cell a t =>
    simp only[resK]at h;split at h
    ·rw[loadK_nat]at h;obtain⟨y,_,h⟩:=Option.bind_eq_some_iff.1 h;obtain⟨as,h⟩:=ih _ _ h;exact⟨_,h⟩
    ·simp at h
 unfold inlK at hk;rw[hb]at hk;simp only at hk;split at hk
 ·rename_i c' hcc _;obtain rfl:=Option.some.inj hcc;obtain⟨e,s,h1,h2⟩:=simple_kq hKI hNI c hs hk;have fin:(resK C s fn.results.toList fun as=>match as.all noT with
    | true=>some (retA as,({ env:=σ.env,hp:=s.hp }:Sg))
    | false=>none)=some (x,σ')→Kp σ σ':=fun h=>by
   obtain⟨as,h⟩:=res _ _ _ _ h;split at h
   ·simp only[Option.some.injEq,Prod.mk.injEq]at h;rw[←h.2];exact⟨rfl,h2.n,h2.ob⟩
   ·simp at h
  cases e with
  | normal=>exact fin h1
  | ret=>exact fin h1
  | exit id=>simp at h1
 ·simp at hk
def unF (E:En):En:={ E with F:=fun _=>False }
theorem RelG.enter (h:RelG E G σ a w) {xs:List A} {vs:List Value} {n:Nat} (hv:VAs (Imm E G σ w) σ.hp.length G w xs vs) (hn:xs.length≤n) :
  RelG (unF E) G { env:=xs++List.replicate (n-xs.length) (.l .unk),hp:=σ.hp } { tmps:=vs.toArray++Array.replicate (n-vs.toArray.size) undef,defers:=[] } w:=by
 have hl:=hv.length';exact
 {defers:=rfl
  len:=by simp;omega
  env:=fun t y hy=>by
   have hy:(xs++List.replicate (n-xs.length) (.l .unk))[t]? = some y:=hy;by_cases ht:t<xs.length
   ·rw[List.getElem?_append_left ht]at hy;have:∀(as:List A) (vs:List Value) (t:Nat) (y:A),VAs (Imm E G σ w) σ.hp.length G w as vs→as[t]? = some y→∃v,vs[t]? = some v∧VA (Imm E G σ w) σ.hp.length G w y v:=by
     intro as;induction as with
     | nil=>intro vs t y _ hy;simp at hy
     | cons a as ih =>
      intro vs t y hv hy;cases vs with
      | nil=>exact hv.elim
      | cons v vs =>
       cases t with
       | zero=>simp at hy;subst hy;exact⟨v,rfl,hv.1⟩
       | succ t=>simpa using ih vs t y hv.2 (by simpa using hy)
    obtain⟨v,hv1,hv2⟩:=this xs vs t y hv hy;have hlt:=(List.getElem?_eq_some_iff.1 hv1).1;have:(vs.toArray++Array.replicate (n-vs.toArray.size) undef).getD t undef=v:=by
     simp only[Array.getD_eq_getD_getElem?];rw[Array.getElem?_append_left (by simpa using hlt)]
     simp[hv1]
    show VA _ _ _ _ y ((vs.toArray++Array.replicate (n-vs.toArray.size) undef).getD t undef);rw[this];exact hv2
   ·rw[List.getElem?_append_right (by omega),List.getElem?_replicate]at hy
    split at hy
    ·obtain rfl:=Option.some.inj hy;trivial
    ·simp at hy
  obs:=h.obs
  nodup:=h.nodup
  range:=h.range
  hrange:=h.hrange
  disj:=h.disj
  os:=h.os
  tape:=h.tape
  output:=h.output
  size:=h.size
  frame:=h.frame
  xa:=⟨h.xa.a,h.xa.gl,h.xa.gx,h.xa.gh⟩
  fixd:=fun _ ht=>ht.elim }
theorem RelG.back (h:RelG E G σ a w) {σc:Sg} {a':Act} {w':World} (hc:σc.hp = σ.hp) (k:RelG (unF E) G' σ' a' w') (ga:GA (unF E) σc σ' G G' w w') :
  RelG E G' { env:=σ.env,hp:=σ'.hp } a w'∧GA E σ { env:=σ.env,hp:=σ'.hp } G G' w w':=by
 have g:GA E σ { env:=σ.env,hp:=σ'.hp } G G' w w':=by
  obtain⟨g1,g2,g3,g4⟩:=ga;have e:∀b,Imm E G σ w b→Imm (unF E) G σc w b:=fun b hb=>⟨hb.1,hb.2.1,fun id o ho=>hb.2.2 id o (by unfold Sg.ob at ho ⊢;rw[←hc];exact ho)⟩
  refine⟨fun b hb=>?_,fun b hb=>g2 b (e b hb),by rw[←hc];exact g3,fun id hi=>g4 id (by rw[hc];exact hi)⟩
  have:=g1 b (e b hb);exact⟨this.1,this.2.1,fun id o ho=>this.2.2 id o ho⟩
 refine⟨?_,g⟩;exact
 {defers:=h.defers
  len:=h.len
  env:=fun t x hx=>(h.env t x hx).keep g x
  obs:=k.obs
  nodup:=k.nodup
  range:=k.range
  hrange:=k.hrange
  disj:=k.disj
  os:=k.os
  tape:=k.tape
  output:=k.output
  size:=k.size
  frame:=k.frame
  xa:=⟨k.xa.a,k.xa.gl,k.xa.gx,k.xa.gh⟩
  fixd:=h.fixd }
theorem inlK_ok {D:Prop}(hC:Ctrs D C){f:FuncId}{fn:Func}{c:Code}(dr:Bool)(hdr:dr=true→simpleC c=true∧C.I=[])(hf:C.P.funcs[f]? = some fn)(hbody:fn.body=some c):InOk D C.P ⟨f,dr,inlK C fn⟩:=by
 refine⟨fun hd xs σ σ' x hk=>?_,fun ρ xs σ k=>inlK_nat hC xs σ k,@fun E G σ σ' a w xs vs x hd h hv hk=>?_⟩
 ·obtain⟨h1,h2⟩:=hdr hd;exact inlK_kp h2 hbody h1 hk
 have hl:=hv.length';simp only at hk;unfold inlK at hk;rw[hbody]at hk;simp only at hk;split at hk
 ·rename_i c' hcc hb;obtain rfl:=Option.some.inj hcc;have hle:xs.length≤fn.ntmps:=Nat.le_of_ble_eq_true hb;have hcalls:Calls C.P f vs.toArray w fun ex w'=>Kp σ σ'∧∃val,ex=.returned val∧∃G',RelG E G' σ' a w'∧GA E σ σ' G G' w w'∧VA (Imm E G' σ' w') σ'.hp.length G' w' x val:=by
   refine calls_of_wp hf hbody ?_;refine codeK_some (E:=unF E) hC c hd (fun t ht hf=>hf) (h.enter hv hle) hk _ fun ex σ1 a1 w1 G1 hk2 hr hkc hga=>?_;have fin:(resK C σ1 fn.results.toList fun as=>match as.all noT with
     | true=>some (retA as,({ env:=σ.env,hp:=σ1.hp }:Sg))
     | false=>none)=some (x,σ')→a1.defers=[]∧∃v,(results fn a1.tmps).run C.P w1=.ok v w1 ∧
      (Kp σ σ'∧∃val,Ending.returned v=.returned val∧∃G',RelG E G' σ' a w1∧GA E σ σ' G G' w w1∧VA (Imm E G' σ' w1) σ'.hp.length G' w1 x val):=fun hk3=>by
    refine⟨hr.defers,?_⟩;obtain⟨as,rvs,k1,k2,k3,k4⟩:=resK_some hr _ hk3;split at k1
    ·rename_i hall;simp only[Option.some.injEq,Prod.mk.injEq]at k1;obtain⟨rfl,rfl⟩:=k1;obtain⟨b1,b2⟩:=h.back (σc:={ env:=xs++List.replicate (fn.ntmps-xs.length) (.l .unk),hp:=σ.hp }) rfl hr hga;refine⟨retV rvs,run_results k3 k4,⟨rfl,hkc.n,hkc.ob⟩,_,rfl,G1,b1,b2,?_⟩;exact retA_VA as (fun x hx=>List.all_eq_true.1 hall x hx) k2
    ·simp at k1
   cases ex with
   | normal=>exact fin hk2
   | ret=>exact fin hk2
   | exit id=>simp at hk2
  refine⟨?_,Calls.mono hcalls fun _ _ h=>h.2⟩;obtain⟨_,_,_,⟨kp,_⟩,_⟩:=hcalls [];exact kp
 ·simp at hk
end
open Go
set_option linter.unusedVariables false
def AllC (D:Prop)(P:Program):List CallE→Prop
 | []=>True
 | e::r=>(FnOk P e.f∧Ctr D P e)∧AllC D P r
def AllI (D:Prop)(P:Program):List InE→Prop
 | []=>True
 | e::r=>(FnOk P e.f∧InOk D P e)∧AllI D P r
theorem ctrs_of {D:Prop}{C:Ctx}(hm:C.P.follows .mixedOrders=true)(h:AllC D C.P C.O)(hi:AllI D C.P C.I):Ctrs D C:=by
 refine⟨hm,?_,?_⟩
 ·generalize C.O=l at h;induction l with
  | nil=>intro e he;simp at he
  | cons a l ih =>
   intro e he;rcases List.mem_cons.1 he with rfl | he
   ·exact h.1
   ·exact ih h.2 e he
 ·generalize C.I=l at hi;induction l with
  | nil=>intro e he;simp at he
  | cons a l ih =>
   intro e he;rcases List.mem_cons.1 he with rfl | he
   ·exact hi.1
   ·exact ih hi.2 e he
def ioOk (ws:List Nat):Nat→List PM→Bool
 | _,[]=>true
 | i,p::r=>(!isIo p||!ws.contains i)&&ioOk ws (i+1) r
theorem ioOk_some {ws:List Nat}:(ps:List PM)→(i:Nat)→ioOk ws i ps=true→∀(j:Nat) (p:PM),ps[j]? = some p→isIo p=true→i+j∉ws
 | [],i,h,j,p,hp,_=>by simp at hp
 | q::ps,i,h,j,p,hp,hi=>by
  simp only[ioOk,Bool.and_eq_true,Bool.or_eq_true,Bool.not_eq_true']at h;cases j with
  | zero =>
   simp at hp;subst hp;rcases h.1 with h1 | h1
   ·rw[hi]at h1;simp at h1
   ·simpa using h1
  | succ j =>
   have:=ioOk_some ps (i+1) h.2 j p (by simpa using hp) hi
   rwa [show i+(j+1)=i+1+j from by omega]
def okFn (fn:Func)(ps:List PM):Bool:=!(fn.name == "runtime.NumGoroutine")&&(match fn.body with
 | some c=>ioOk (wrC c) 0 ps
 | none=>false)&&decide (ps.length≤fn.ntmps)
theorem mkInl {D:Prop}{C:Ctx}{fn:Func}{f:FuncId}(hm:C.P.follows .mixedOrders=true)(h:AllC D C.P C.O)(hf:C.P.funcs[f]? = some fn)(hok:okFn fn []=true)(hi:AllI D C.P C.I:=by trivial):FnOk C.P f∧InOk D C.P ⟨f,false,inlK C fn⟩:=by
 unfold okFn at hok;simp only[Bool.and_eq_true,Bool.not_eq_true',decide_eq_true_eq]at hok;obtain⟨⟨h1,h2⟩,h3⟩:=hok;split at h2
 ·rename_i c hc;exact⟨⟨fn,c,hf,h1,hc⟩,inlK_ok (ctrs_of hm h hi) false (fun hd=>by simp at hd) hf hc⟩
 ·simp at h2
theorem mkInlD {D:Prop}{C:Ctx}{fn:Func}{f:FuncId}(hm:C.P.follows .mixedOrders=true)(h:AllC D C.P C.O)(hf:C.P.funcs[f]? = some fn)(hok:okFn fn []=true)(hs:(fn.body.map simpleC)=some true)(hI:C.I=[]):FnOk C.P f∧InOk D C.P ⟨f,true,inlK C fn⟩:=by
 unfold okFn at hok;simp only[Bool.and_eq_true,Bool.not_eq_true',decide_eq_true_eq]at hok;obtain⟨⟨h1,h2⟩,h3⟩:=hok;split at h2
 ·rename_i c hc;rw[hc]at hs;exact⟨⟨fn,c,hf,h1,hc⟩,inlK_ok (ctrs_of hm h (by rw[hI];trivial)) true (fun _=>⟨by simpa using hs,hI⟩) hf hc⟩
 ·simp at h2
theorem mkCtr {D:Prop} {C:Ctx} {e:CallE} {fn:Func} (hm:C.P.follows .mixedOrders = true) (h:AllC D C.P C.O) (hf:C.P.funcs[e.f]? = some fn) (hok:okFn fn e.ps = true)
  (hF:∀x,funK C fn e.ps e.rs x=e.F x) (hi:AllI D C.P C.I:=by trivial):FnOk C.P e.f∧Ctr D C.P e:=by
 unfold okFn at hok;simp only[Bool.and_eq_true,Bool.not_eq_true',decide_eq_true_eq]at hok;obtain⟨⟨h1,h2⟩,h3⟩:=hok;split at h2
 ·rename_i c hc;exact funK_ctr (ctrs_of hm h hi) hf h1 hc h3 (fun i p hp hi=>by
   have:=ioOk_some e.ps 0 h2 i p hp hi
   rwa [Nat.zero_add]at this) fun x r hx=>(hF x).trans hx
 ·simp at h2
end Go.Proofs.YtfknaeamhcpfgaaGreat.Eng
