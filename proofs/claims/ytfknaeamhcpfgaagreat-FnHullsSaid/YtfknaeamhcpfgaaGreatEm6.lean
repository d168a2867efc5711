/-
  The engine, part 44. Rows of slices, sorted and turned round by the library. No condition.
-/
import Derived.Test.YtfknaeamhcpfgaaGreatEm5
import Derived.Shelf.SlSortCmp.NoneTotal
import Derived.Shelf.SlicesE.Reverse
namespace Go.Proofs.YtfknaeamhcpfgaaGreat.Eng
open Go Go.Sort
set_option linter.all false
section
variable {u:Ty}{w:World}{g:Nat}{I I':Nat→Prop}
def El (w:World)(g:Nat)(u:Ty):Type:={ p:Value×List u.den×List Nat // DpC 0 w (.list u) p.2.1 [p.1] p.2.2∧g∉p.2.2 }
def El.enc (p:El w g u):Value:=p.1.1
def El.dat (p:El w g u):List u.den:=p.1.2.1
def El.bs (p:El w g u):List Nat:=p.1.2.2
theorem nilDp (w:World)(u:Ty):DpC 0 w (.list u) ([]:List u.den) [.slice none 0 0] []:=by
 simp only[DpC];exact⟨none,0,0,rfl,rfl,Nat.le_refl _,Nat.zero_le _,Nat.zero_le _,.inl (by simp)⟩
instance (w:World) (g:Nat) (u:Ty):Inhabited (El w g u):=⟨⟨(.slice none 0 0,[],[]),nilDp w u,by simp⟩⟩
theorem El.one (p:El w g u):p.enc.oneCell'=true:=by
 have h:=p.2.1;simp only[DpC]at h;obtain⟨a,n,c,h1,_⟩:=h;have:p.enc=.slice a n c:=by
  have h1:[p.1.1]=[Value.slice a n c]:=h1;simpa[El.enc]using h1
 rw[this];rfl
theorem El.len (p:El w g u):p.dat.length≤lim:=by
 have h:=p.2.1;simp only[DpC]at h;obtain⟨a,n,c,h1,h2,h3,h4,h5,_⟩:=h;have h2:n=p.dat.length:=h2;omega
theorem rowWorld {α:Type} [Inhabited α] (enc:α→Value) (w:World) (g m:Nat) (d:Array α) (os:Array Obj) (hg:g < w.heap.size) :
  Out True (grow (putRow enc (Sort.ahead w m) g 0 d) os) w∧w.heap.size≤(grow (putRow enc (Sort.ahead w m) g 0 d) os).heap.size∧(∀b,b<w.heap.size→b≠g→(grow (putRow enc (Sort.ahead w m) g 0 d) os).heap[b]? = w.heap[b]?) ∧
   ∀cur e,w.heap[g]? = some (.cells cur e (0,0))→(grow (putRow enc (Sort.ahead w m) g 0 d) os).heap[g]? = some (.cells (putCells enc 0 d cur) e (0,0)):=by
 have hs:(putRow enc (Sort.ahead w m) g 0 d).heap.size=w.heap.size:=size_putRow enc (Sort.ahead w m) g 0 d;have hh:∀b,b<w.heap.size→(grow (putRow enc (Sort.ahead w m) g 0 d) os).heap[b]? = (putRow enc (Sort.ahead w m) g 0 d).heap[b]?:=fun b hb=>by
  simp only[grow];rw[Array.getElem?_append_left (by rw[hs];exact hb)]
 refine⟨⟨rfl,fun _=>Nat.le_add_right _ _⟩,?_,fun b hb hne=>?_,fun cur e hc=>?_⟩
 ·simp only[grow,Array.size_append];rw[hs];omega
 ·rw[hh b hb];simp only[putRow,mapBlock,Array.getElem?_modify,Sort.ahead];rw[if_neg (fun h=>hne h.symm)]
 ·rw[hh g hg];simp only[putRow,mapBlock,Array.getElem?_modify,Sort.ahead,if_true];rw[hc];rfl
theorem OwnV.els {e:TypeId} {x:List (List u.den)} {v:Value} {bs:List Nat} (h:OwnV I w true e (.list u) x v bs) (hn:bs.Nodup) (hx:x≠[]) :
  ∃(g cap:Nat) (d:Array (El w g u)),v=.slice (some ⟨g,0,none⟩) d.size cap∧d.size=x.length∧g<w.heap.size∧bs=g::(d.toList.map El.bs).flatten∧d.toList.map El.dat=x∧Sort.Holds El.enc w g 0 d ∧
   ∀d':Array (El w g u),d'.toList.Perm d.toList→∀(m:Nat) (os:Array Obj),OwnV I' (grow (putRow El.enc (Sort.ahead w m) g 0 d') os) true e (.list u) (d'.toList.map El.dat) v (g::(d'.toList.map El.bs).flatten):=by
 obtain⟨hl,cells,bss,⟨hcl,ho⟩,hbs,h1,_,hel⟩:=h;rcases ho with⟨rfl,h0⟩ | ⟨g,cap,cur,rfl,_,hg,hnc,hcm,hcs,htk⟩
 ·exact absurd (List.length_eq_zero_iff.1 h0) hx
 have hbl:=h1 rfl;simp only[Ty.wid,Nat.mul_one]at hcl hcs htk;have hglt:g<w.heap.size:=(Array.getElem?_eq_some_iff.1 hg).1;have hbs:bs=g::bss.flatten:=hbs;rw[hbs]at hn;have hgn:g∉bss.flatten:=(List.nodup_cons.1 hn).1;have key:∀i,i<x.length→∃p:El w g u,cells[i]? = some p.enc∧x[i]? = some p.dat∧bss[i]? = some p.bs:=fun i hi=>by
  have hxi:x[i]? = some x[i]:=List.getElem?_eq_getElem hi;obtain⟨ys,y1,y2,y3⟩:=hel i _ hxi;simp only[Ty.wid,Nat.mul_one]at y1 y2;simp only[if_true]at y3;obtain⟨c,rfl⟩:∃c,ys=[c]:=by
   match ys,y1 with
   | [c],_=>exact⟨c,rfl⟩
  have hbi:bss[i]? = some (bss[i]'(by omega)):=List.getElem?_eq_getElem (by omega)
  rw[hbi,Option.getD_some]at y3;have y2:=y2 0 (by omega)
  rw[Nat.add_zero]at y2;refine⟨⟨(c,x[i],bss[i]'(by omega)),y3,fun hm=>hgn (List.mem_flatten.2 ⟨_,List.getElem_mem _,hm⟩)⟩,y2,hxi,hbi⟩
 let f:Fin x.length→El w g u:=fun i=>(key i.1 i.2).choose
 have hf:∀i:Fin x.length,cells[i.1]? = some (f i).enc∧x[i.1]? = some (f i).dat∧bss[i.1]? = some (f i).bs:=fun i=>(key i.1 i.2).choose_spec;let d:Array (El w g u):=Array.ofFn f
 have hds:d.size=x.length:=by simp[d]
 have hdi:∀i (hi:i<x.length),d[i]! = f ⟨i,hi⟩:=fun i hi=>by
  rw[getElem!_pos d i (by rw[hds];exact hi)]
  simp[d]
 have hdl:∀i (hi:i<x.length),d.toList[i]? = some (f ⟨i,hi⟩):=fun i hi=>by
  rw[List.getElem?_eq_getElem (by simp[hds];exact hi)]
  simp[d]
 have e1:d.toList.map El.bs=bss:=by
  refine List.ext_getElem? fun i=>?_;by_cases hi:i<x.length
  ·rw[List.getElem?_map,hdl i hi,(hf ⟨i,hi⟩).2.2];rfl
  ·rw[List.getElem?_eq_none (by simp[hds];omega),List.getElem?_eq_none (by omega)]
 have e2:d.toList.map El.dat=x:=by
  refine List.ext_getElem? fun i=>?_;by_cases hi:i<x.length
  ·rw[List.getElem?_map,hdl i hi,(hf ⟨i,hi⟩).2.1];rfl
  ·rw[List.getElem?_eq_none (by simp[hds];omega),List.getElem?_eq_none (by omega)]
 refine⟨g,cap,d,by rw[hds],hds,hglt,by rw[e1];exact hbs,e2,fun j hj=>?_,fun d' hp m os=>?_⟩
 ·rw[hds]at hj;have hc:=(hf ⟨j,hj⟩).1;rw[hdi j hj,Nat.zero_add];refine⟨?_,?_⟩
  ·rw[cell_of_row w g _ cur e (0,0) hg];simp only at hc;rw[←htk,List.getElem?_take,if_pos hj]at hc;rw[←hc];simp
  ·simp[World.frozen?,hg]
 ·have hs':d'.size=x.length:=by have:=hp.length_eq;simpa[hds]using this
  obtain⟨k1,k2,k3,k4⟩:=rowWorld El.enc w g m d' os hglt;have hrow:=k4 cur e hg;have hlen:(d'.toList.map El.dat).length=x.length:=by simp[hs']
  refine⟨by rw[hlen];exact hl,d'.toList.map El.enc,d'.toList.map El.bs,⟨by simp[hs',Ty.wid],.inr ⟨g,cap,putCells El.enc 0 d' cur,by rw[hlen],Nat.zero_le _,hrow,by rw[hlen];exact hnc,hcm,by simp[putCells,Ty.wid,hcs],?_⟩⟩,rfl,fun _=>by simp,fun h=>by simp at h,fun i y hi=>?_⟩
  ·rw[hlen];simp only[Ty.wid,Nat.mul_one];refine List.ext_getElem? fun i=>?_;by_cases hi:i<x.length
   ·rw[List.getElem?_take,if_pos hi,List.getElem?_map,Array.getElem?_toList,Array.getElem?_toList];simp only[putCells,Array.getElem?_mapIdx];have hci:i<cur.size:=by omega
    rw[Array.getElem?_eq_getElem hci,Array.getElem?_eq_getElem (show i<d'.size by omega)]
    simp only[Option.map_some,Nat.zero_le,true_and,Nat.sub_zero,Nat.zero_add];rw[if_pos (by omega),getElem!_pos d' i (by omega)]
   ·rw[List.getElem?_eq_none (by simp;omega),List.getElem?_eq_none (by simp[hs'];omega)]
  ·rw[List.getElem?_map]at hi;obtain⟨p,hp1,rfl⟩:=Option.map_eq_some_iff.1 hi;refine⟨[p.enc],rfl,fun j hj=>?_,?_⟩
   ·simp only[Ty.wid]at hj;obtain rfl:j=0:=by omega
    simp only[Ty.wid,Nat.mul_one,Nat.add_zero];rw[List.getElem?_map,hp1];rfl
   ·simp only[if_true];rw[List.getElem?_map,hp1];refine DpC.mono (Nat.le_refl _) _ p.2.1 fun b hb=>?_;have hb:b∈p.bs:=hb;have hr:=DpC.range _ p.2.1 b hb;exact k3 b hr.2 fun he=>p.2.2 (he▸hb)
theorem perm_nodup {d d':Array (El w g u)}(hp:d'.toList.Perm d.toList):(d'.toList.map El.bs).flatten.Perm (d.toList.map El.bs).flatten:=(hp.map _).flatten
end
def ltL:List Int→List Int→Bool
 | [],[]=>false
 | [],_::_=>true
 | _::_,[]=>false
 | a::r,b::s=>if a<b then true else if b<a then false else ltL r s
theorem ltL_irrefl:(a:List Int)→ltL a a=false
 | []=>rfl
 | x::r=>by simp[ltL,ltL_irrefl r]
theorem ltL_trans:(a b c:List Int)→ltL a b=true→ltL b c=true→ltL a c=true
 | [],[],_,h,_=>by simp[ltL]at h
 | [],_::_,[],_,h=>by simp[ltL]at h
 | [],_::_,_::_,_,_=>rfl
 | _::_,[],_,h,_=>by simp[ltL]at h
 | _::_,_::_,[],_,h=>by simp[ltL]at h
 | x::a,y::b,z::c,h1,h2=>by
  simp only[ltL]at h1 h2 ⊢;by_cases q1:x<y
  ·by_cases q2:y<z
   ·rw[if_pos (by omega)]
   ·rw[if_neg q2]at h2;by_cases q3:z<y
    ·rw[if_pos q3]at h2;cases h2
    ·rw[if_pos (by omega)]
  ·rw[if_neg q1]at h1;by_cases q2:y<x
   ·rw[if_pos q2]at h1;cases h1
   ·rw[if_neg q2]at h1;by_cases q3:y<z
    ·rw[if_pos (by omega)]
    ·rw[if_neg q3]at h2;by_cases q4:z<y
     ·rw[if_pos q4]at h2;cases h2
     ·rw[if_neg q4]at h2;rw[if_neg (by omega),if_neg (by omega)]
      exact ltL_trans a b c h1 h2
theorem ltL_total:(a b:List Int)→ltL a b=false→ltL b a=false→a=b
 | [],[],_,_=>rfl
 | [],_::_,h,_=>by simp[ltL]at h
 | _::_,[],_,h=>by simp[ltL]at h
 | x::a,y::b,h1,h2=>by
  simp only[ltL]at h1 h2;by_cases q1:x<y
  ·rw[if_pos q1]at h1;cases h1
  ·rw[if_neg q1]at h1;by_cases q2:y<x
   ·rw[if_pos q2]at h2;cases h2
   ·rw[if_neg q2]at h1 h2;rw[if_neg q1]at h2;rw[ltL_total a b h1 h2,show x=y by omega]
theorem ltL_asymm (a b:List Int)(h:ltL a b=true):ltL b a=false:=by
 cases hb:ltL b a with
 | false=>rfl
 | true=>have:=ltL_trans a b a h hb;rw[ltL_irrefl]at this;cases this
theorem ltL_ntrans (a b c:List Int)(h1:ltL a b=false)(h2:ltL b c=false):ltL a c=false:=by
 cases hc:ltL a c with
 | false=>rfl
 | true =>
  cases hb:ltL b a with
  | true=>have:=ltL_trans b a c hb hc;rw[this]at h2;cases h2
  | false=>rw[ltL_total a b h1 hb]at hc;rw[hc]at h2;cases h2
def sortL (x:List (List Int)):List (List Int):=x.mergeSort fun a b=>!ltL b a
theorem sortL_perm (x:List (List Int)):(sortL x).Perm x:=List.mergeSort_perm x _
theorem sortL_sorted (x:List (List Int)):(sortL x).Pairwise fun a b=>ltL b a=false:=by
 have:=List.pairwise_mergeSort (le:=fun a b=>!ltL b a) (fun a b c h1 h2=>by
  simp only[Bool.not_eq_true']at h1 h2 ⊢;exact ltL_ntrans c b a h2 h1) (fun a b=>by
  cases h:ltL b a with
  | false=>rfl
  | true=>rw[ltL_asymm b a h];rfl) x
 unfold sortL;simpa using this
theorem sortL_unique {x y:List (List Int)}(hp:y.Perm x)(hs:y.Pairwise fun a b=>ltL b a=false):y=sortL x :=
 List.Perm.eq_of_pairwise (le:=fun a b=>ltL b a=false) (fun a b _ _ h1 h2=>ltL_total a b h2 h1) hs (sortL_sorted x) (hp.trans (sortL_perm x).symm)
def CmpGood (cmp:List Int→List Int→Option Int):Prop:=∀a b,a.length≤lim→b.length≤lim→∃n,cmp a b=some n∧decide (n<0)=ltL a b
open Classical in
noncomputable def sortF (cmp:List Int→List Int→Option Int)(x:List (List Int)):Option (Unit×(List (List Int)×Unit)):=if CmpGood cmp then some ((),(sortL x,()))else none
abbrev LI:Ty:=.list (.int .i64)
theorem sort_ctr {D:Prop} {P:Program} {ρ:Go.Shelf.Ren} (L:SlLaysF.n6 P ρ) {f gc:FuncId} {e:TypeId} (hf:ρ.f 6 = f) {cmp:List Int→List Int→Option Int} {nn:Bool} (hg:FnOk P gc)
  (hc:Ctr True P ⟨gc,[.d false LI,.d false LI],[.l (.d nn (.int .i64))],fun x=>cmp x.1 x.2⟩):Ctr D P ⟨f,[.io true e LI,.f gc],[],fun x=>sortF cmp x.1⟩:=by
 intro x r hx I w vs bss hin hargs;obtain⟨x,un⟩:=x;have hx:sortF cmp x=some r:=hx;unfold sortF at hx;split at hx
 ·rename_i hgood;obtain rfl:=Option.some.inj hx;match vs,hargs with
  | [v,v2],⟨bs,rest,hb1,ho,hargs⟩ =>
   obtain⟨bs2,hb2,hv2,hb3⟩:=hargs;subst hb1 hb2;have ho:OwnV I w true e LI x v bs:=ho;have hv2:v2=.func (.func gc) #[] #[]:=hv2;subst hv2;have hn:bs.Nodup:=by
    have:=hin.nodup;simp only[List.flatten_cons,List.flatten_nil,List.append_nil]at this;exact(List.nodup_append.1 this).1
   subst hf;by_cases hx0:x=[]
   ·subst hx0;have hv:∃p cap,v=.slice p 0 cap:=by
     obtain⟨_,cells,bss,⟨_,h⟩,_⟩:=ho;rcases h with⟨rfl,_⟩ | ⟨g,cap,cur,rfl,_⟩
     ·exact⟨none,0,rfl⟩
     ·exact⟨_,cap,rfl⟩
    obtain⟨p,cap,rfl⟩:=hv;refine(AnyF.slices_SortFunc_none { L with } p cap (.func (.func gc) #[] #[]) w).mono fun ex w' hpost=>?_;obtain⟨rfl,rfl⟩:=hpost;refine⟨fun _=>False,[],[],[bs],rfl,⟨rfl,rfl,.refl _,Nat.le_refl _,fun _ _ _=>rfl,fun b hb=>hb.elim,by simpa using hn,fun b hb=>?_,fun q hq b hb=>?_⟩,rfl,fun h=>by simp[resB,hasIo]at h,fun o ho'=>?_⟩
    ·have hb:b∈bs:=by simpa using hb
     exact⟨hin.range b (by simp[hb]),fun _=>by simp[hb]⟩
    ·simp only[List.append_nil,List.mem_singleton]at hq;subst hq;exact⟨fun h=>h,fun _=>⟨q,by simp,hb⟩⟩
    ·simp only[resB,hasIo]at ho';obtain rfl:=Option.some.inj ho';have e0:sortL ([]:List (List Int))=[]:=by unfold sortL;simp
     refine⟨bs,[],rfl,?_,rfl⟩;show OwnV _ _ true e LI (sortL []) _ bs;rw[e0];exact ho.alone (.inl rfl)
   ·obtain⟨g,cap,d,rfl,hds,hgl,hbs,hdx,hH,hnew⟩:=ho.els (I':=fun _=>False) hn hx0;obtain⟨fn,c,q1,q2,q3⟩:=hg;have eg:∀(args:Array Value) (w:World),(callFunc gc args).run P w=.ok (.enter gc args) w:=enters_of q1 q2 q3;let cf:El w g (.int .i64)→El w g (.int .i64)→Int:=fun p q=>(cmp p.dat q.dat).getD 0
    have hcf:∀p q:El w g (.int .i64),cmp p.dat q.dat=some (cf p q)∧ltOf cf p q=ltL p.dat q.dat:=fun p q=>by
     obtain⟨n,h1,h2⟩:=hgood p.dat q.dat p.len q.len;refine⟨by simp only[cf,h1,Option.getD_some],?_⟩
     simp only[ltOf,cf,h1,Option.getD_some];exact h2
    have hO:SWO (ltOf cf):=⟨fun p=>by rw[(hcf _ _).2];exact ltL_irrefl _,fun a b c h1 h2=>by rw[(hcf _ _).2]at *;exact ltL_trans _ _ _ h1 h2,fun a b c h1 h2=>by rw[(hcf _ _).2]at *;exact ltL_ntrans _ _ _ h1 h2⟩
    have hcmp:CmpLays1 P gc #[] El.enc cf g 0 d.size w:=fun m os dk hdk p q=>by
     obtain⟨k1,k2,k3,k4⟩:=rowWorld El.enc w g m dk os hgl;have hW:sortWorld El.enc w g 0 m dk os=grow (putRow El.enc (Sort.ahead w m) g 0 dk) os:=rfl;rw[hW];generalize grow (putRow El.enc (Sort.ahead w m) g 0 dk) os=W at k1 k2 k3 k4;have rd:∀p:El w g (.int .i64),RdV (fun b=>b<w.heap.size∧b≠g) W LI p.dat p.enc:=fun p=>by
      refine⟨[p.enc],?_,rfl⟩;refine(DpC.rd (S:=fun b=>b<w.heap.size∧b≠g) _ p.2.1 fun b hb=>⟨(DpC.range _ p.2.1 b hb).2,fun he=>p.2.2 (he▸hb)⟩).mono (fun _ h=>h) fun b hb=>k3 b hb.1 hb.2
     have:=hc (p.dat,q.dat) (cf p q) (hcf p q).1 (fun b=>b<w.heap.size∧b≠g) W [p.enc,q.enc] [[],[]] ⟨hin.gl.frame k2 fun b hb=>k3 b (Nat.lt_of_lt_of_le hb hin.gl.1) fun he=>Nat.not_lt.2 (hin.gx g (by rw[hbs];simp)) (he▸hb),fun b hb=>by simp at hb,by simp,fun b hb=>by simp at hb,fun b hb=>Nat.lt_of_lt_of_le hb.1 k2,fun q hq b hb=>by
      simp only[List.mem_cons,List.not_mem_nil,or_false,or_self]at hq;subst hq;simp at hb⟩ ⟨[],[[]],rfl,⟨rd p,(fun h=>by cases h),rfl⟩,[],rfl,rd q,(fun h=>by cases h),rfl⟩
     refine Calls.mono this fun ex w' hpost=>?_;obtain⟨I2,rvs,rbss,ibss,rfl,co,hsv,_,_⟩:=hpost;have hrv:rvs=[.int .i64 (cf p q)]:=by
      match rvs,hsv with
      | [v],hsv =>
       obtain⟨bs',_,hsv⟩:=hsv;have hsv:=hsv.1;have:=RdV_int.1 hsv;rw[this];rfl
     subst hrv;refine⟨rfl,w'.drawn-W.drawn,w'.heap.extract W.heap.size w'.heap.size,?_⟩;have hheap:w'.heap=W.heap++w'.heap.extract W.heap.size w'.heap.size:=by
      apply Array.ext_getElem?
      intro i;by_cases hi:i<W.heap.size
      ·rw[Array.getElem?_append_left hi];exact co.frame i hi fun q hq hh=>by
        simp only[List.mem_cons,List.not_mem_nil,or_false,or_self]at hq;subst hq;simp at hh
      ·rw[Array.getElem?_append_right (by omega)]
       have hsz:=co.size;by_cases hi2:i<w'.heap.size
       ·rw[Array.getElem?_extract,if_pos (by omega)]
        congr 1;omega
       ·rw[Array.getElem?_eq_none (by omega),Array.getElem?_eq_none (by simp;omega)]
     have hdr:=co.output.drawn trivial;obtain⟨h1,t1,d1,o1,u1⟩:=w';have eh:h1=_:=hheap;have et:t1=W.tape:=co.tape;have eo:o1=W.os:=co.os;have eu:u1=W.output:=co.output.eq;have hdr:W.drawn≤d1:=hdr;simp only[grow,World.drewN,World.mk.injEq];exact⟨eh,et,by omega,eo,eu⟩
    have hlim:=ho.1;refine(Any.slices_SortFunc L El.enc El.one cf hO gc #[] g 0 cap d w eg hcmp hH hgl (by rw[hds];unfold lim at hlim;omega)).mono fun ex w' hpost=>?_
    obtain⟨rfl,d',n,os,hp,hs,rfl⟩:=hpost;obtain⟨p1,p2,p3⟩:=hp;have hperm:d'.toList.Perm d.toList:=by
     have e1:d'.extract 0 d.size=d':=by rw[←p1];simp
     have e2:d.extract 0 d.size=d:=by simp
     rw[e1,e2]at p3;exact p3
    have hdat:d'.toList.map El.dat=sortL x:=by
     refine sortL_unique ?_ ?_
     ·rw[←hdx];exact hperm.map _
     ·rw[List.pairwise_map,List.pairwise_iff_getElem];intro i j hi hj hij;have:=hs i j (Nat.zero_le _) hij (by rw[←p1];simpa using hj)
      rw[(hcf _ _).2]at this;rw[getElem!_pos d' i (by simpa using hi),getElem!_pos d' j (by simpa using hj)]at this
      simpa using this
    have how:=hnew d' hperm n os;rw[hdat]at how;obtain⟨k1,k2,k3,_⟩:=rowWorld El.enc w g n d' os hgl;have hW:sortWorld El.enc w g 0 n d' os=grow (putRow El.enc (Sort.ahead w n) g 0 d') os:=rfl;rw[hW];have hpb:=perm_nodup hperm;have hmem:∀b,b∈g::(d'.toList.map El.bs).flatten→b∈bs:=fun b hb=>by
     rw[hbs];rcases List.mem_cons.1 hb with rfl | hb
     ·simp
     ·exact List.mem_cons_of_mem _ (hpb.mem_iff.1 hb)
    refine⟨fun _=>False,[],[],[g::(d'.toList.map El.bs).flatten],rfl,⟨rfl,rfl,k1.to,k2,fun b hb hh=>k3 b hb fun he=>hh bs (by simp) (by rw[hbs,he];rfl),fun b hb=>hb.elim,?_,fun b hb=>?_,fun q hq b hb=>?_⟩,rfl,fun h=>by simp[resB,hasIo]at h,fun o ho'=>?_⟩
    ·simp only[List.append_nil,List.flatten_cons,List.flatten_nil];rw[hbs]at hn;exact((List.Perm.cons g hpb).nodup_iff).2 hn
    ·have hb:b∈bs:=hmem b (by simpa using hb)
     exact⟨Nat.lt_of_lt_of_le (hin.range b (by simp[hb])) k2,fun _=>by simp[hb]⟩
    ·simp only[List.append_nil,List.mem_singleton]at hq;subst hq;refine⟨fun h=>h,fun _=>⟨bs,by simp,?_⟩⟩
     rw[hbs];simpa using hb
    ·simp only[resB,hasIo]at ho';obtain rfl:=Option.some.inj ho';exact⟨_,[],rfl,how,rfl⟩
 ·cases hx
theorem rev_ctr {D:Prop}{P:Program}{ρ:Go.Shelf.Ren}(L:SlLaysE.n35 P ρ){f:FuncId}{e:TypeId}{u:Ty}(hf:ρ.f 35=f):Ctr D P ⟨f,[.io true e (.list u)],[],fun x=>some ((),(List.reverse x,()))⟩:=by
 intro x r hx I w vs bss hin hargs;have hx:some ((),((show List (List u.den)from x).reverse,()))=some r:=hx
 obtain rfl:=Option.some.inj hx;match vs,hargs with
 | [v],⟨bs,hb1,ho⟩ =>
  subst hb1;have ho:OwnV I w true e (.list u) (show List (List u.den)from x) v bs:=ho
  have hn:bs.Nodup:=by
   have:=hin.nodup;simp only[List.flatten_cons,List.flatten_nil,List.append_nil]at this;exact this
  subst hf;by_cases hx0:(show List (List u.den)from x)=[]
  ·have hv:∃p cap,v=.slice p 0 cap:=by
    obtain⟨_,cells,bss,⟨_,h⟩,_⟩:=ho;rcases h with⟨rfl,_⟩ | ⟨g,cap,cur,rfl,_⟩
    ·exact⟨none,0,rfl⟩
    ·rw[hx0];exact⟨_,cap,rfl⟩
   obtain⟨p,cap,rfl⟩:=hv;refine(AnyE.slices_Reverse_empty L p cap w).mono fun ex w' hpost=>?_;obtain⟨rfl,rfl⟩:=hpost;refine⟨fun _=>False,[],[],[bs],rfl,⟨rfl,rfl,.refl _,Nat.le_refl _,fun _ _ _=>rfl,fun b hb=>hb.elim,by simpa using hn,fun b hb=>?_,fun q hq b hb=>?_⟩,rfl,fun h=>by simp[resB,hasIo]at h,fun o ho'=>?_⟩
   ·have hb:b∈bs:=by simpa using hb
    exact⟨hin.range b (by simp[hb]),fun _=>by simp[hb]⟩
   ·simp only[List.append_nil,List.mem_singleton]at hq;subst hq;exact⟨fun h=>h,fun _=>⟨q,by simp,hb⟩⟩
   ·simp only[resB,hasIo]at ho';obtain rfl:=Option.some.inj ho';refine⟨bs,[],rfl,?_,rfl⟩;show OwnV _ _ true e (.list u) (List.reverse (show List (List u.den)from x)) _ bs
    have:=ho.alone (I':=fun _=>False) (.inl rfl);rw[hx0]at this ⊢;exact this
  ·obtain⟨g,cap,d,rfl,hds,hgl,hbs,hdx,hH,hnew⟩:=ho.els (I':=fun _=>False) hn hx0;have hlim:=ho.1;refine(AnyE.slices_Reverse_arr L El.enc El.one g 0 cap d w hH (by rw[hds];unfold lim at hlim;omega)).mono fun ex w' hpost=>?_
   obtain⟨rfl,n,hw⟩:=hpost;have hperm:d.reverse.toList.Perm d.toList:=by rw[Array.toList_reverse];exact List.reverse_perm d.toList
   have hdat:d.reverse.toList.map El.dat=(show List (List u.den)from x).reverse:=by
    rw[Array.toList_reverse,List.map_reverse,hdx]
   have how:=hnew d.reverse hperm n #[];obtain⟨k1,k2,k3,_⟩:=rowWorld El.enc w g n d.reverse #[] hgl;rw[grow_empty,←hw]at how k1 k2 k3;rw[hdat]at how;have hos:w'.os=w.os:=by rw[hw];rfl
   have htp:w'.tape=w.tape:=by rw[hw];rfl
   clear hw;have hpb:=perm_nodup hperm;have hmem:∀b,b∈g::(d.reverse.toList.map El.bs).flatten→b∈bs:=fun b hb=>by
    rw[hbs];rcases List.mem_cons.1 hb with rfl | hb
    ·simp
    ·exact List.mem_cons_of_mem _ (hpb.mem_iff.1 hb)
   refine⟨fun _=>False,[],[],[g::(d.reverse.toList.map El.bs).flatten],rfl,⟨hos,htp,k1.to,k2,fun b hb hh=>k3 b hb fun he=>hh bs (by simp) (by rw[hbs,he];rfl),fun b hb=>hb.elim,?_,fun b hb=>?_,fun q hq b hb=>?_⟩,rfl,fun h=>by simp[resB,hasIo]at h,fun o ho'=>?_⟩
   ·simp only[List.append_nil,List.flatten_cons,List.flatten_nil];rw[hbs]at hn;exact((List.Perm.cons g hpb).nodup_iff).2 hn
   ·have hb:b∈bs:=hmem b (by simpa using hb)
    exact⟨Nat.lt_of_lt_of_le (hin.range b (by simp[hb])) k2,fun _=>by simp[hb]⟩
   ·simp only[List.append_nil,List.mem_singleton]at hq;subst hq;refine⟨fun h=>h,fun _=>⟨bs,by simp,?_⟩⟩
    rw[hbs];simpa using hb
   ·simp only[resB,hasIo]at ho';obtain rfl:=Option.some.inj ho';exact⟨_,[],rfl,how,rfl⟩
end Go.Proofs.YtfknaeamhcpfgaaGreat.Eng
