/-
  The engine, part S. Rows of structs, sorted by the library. No condition.
-/
import Derived.Test.YtfknaeamhcpfgaaGreatEm6
import Derived.Shelf.SlSortCmp.WholeK
namespace Go.Proofs.YtfknaeamhcpfgaaGreat.Eng
open Go Go.Sort
set_option linter.all false
section
variable {t:Ty}{w:World}{g:Nat}{I I':Nat→Prop}
def Ek (I:Nat→Prop)(w:World)(t:Ty)(x:List t.den):Type:={ p:List Value×t.den // RdC I w t p.2 p.1∧p.2∈x }
def Ek.enc {x:List t.den}(p:Ek I w t x):List Value:=p.1.1
def Ek.dat {x:List t.den}(p:Ek I w t x):t.den:=p.1.2
theorem Ek.len {x:List t.den}(p:Ek I w t x):p.enc.length=t.wid:=RdC.length t p.2.1
theorem Ek.one {x:List t.den}(p:Ek I w t x):∀v∈p.enc,v.oneCell'=true:=RdC.one t p.2.1
theorem OwnV.elsK {e:TypeId} {x:List t.den} {v:Value} {bs:List Nat} (h:OwnV I w false e t x v bs) (hx:x≠[]) :
  ∃(g cap:Nat) (cur:Array Value) (d:Array (Ek I w t x)),v=.slice (some ⟨g,0,none⟩) d.size cap∧d.size=x.length∧w.heap[g]? = some (.cells cur e (0,0))∧bs=[g]∧d.toList.map Ek.dat=x∧x.length≤lim∧x.length≤cap∧cap≤maxLen ∧
   cur.size=cap*t.wid∧∀i (hi:i<d.size) j,j<t.wid→cur[i*t.wid+j]? = d[i].enc[j]?:=by
 obtain⟨hl,cells,bss,⟨hcl,ho⟩,hbs,_,h2,hel⟩:=h;have hb0:=h2 rfl;subst hb0;simp only[Bool.false_eq_true,if_false]at hel;rcases ho with⟨rfl,h0⟩ | ⟨g,cap,cur,rfl,_,hg,hnc,hcm,hcs,htk⟩
 ·exact absurd (List.length_eq_zero_iff.1 h0) hx
 have key:∀i,i<x.length→∃p:Ek I w t x,x[i]? = some p.dat∧∀j,j<t.wid→cells[i*t.wid+j]? = p.enc[j]?:=fun i hi=>by
  have hxi:x[i]? = some x[i]:=List.getElem?_eq_getElem hi;obtain⟨ys,y1,y2,y3⟩:=hel i _ hxi;exact⟨⟨(ys,x[i]),y3,List.getElem_mem _⟩,hxi,y2⟩
 let f:Fin x.length→Ek I w t x:=fun i=>(key i.1 i.2).choose
 have hf:∀i:Fin x.length,x[i.1]? = some (f i).dat∧∀j,j<t.wid→cells[i.1*t.wid+j]? = (f i).enc[j]?:=fun i=>(key i.1 i.2).choose_spec;let d:Array (Ek I w t x):=Array.ofFn f
 have hds:d.size=x.length:=by simp[d]
 have hdi:∀i (hi:i<d.size),d[i]=f ⟨i,by rw[←hds];exact hi⟩:=fun i hi=>by simp[d]
 refine⟨g,cap,cur,d,by rw[hds],hds,hg,by rw[hbs];rfl,?_,hl,hnc,hcm,hcs,fun i hi j hj=>?_⟩
 ·refine List.ext_getElem? fun i=>?_;by_cases hi:i<x.length
  ·rw[List.getElem?_map,Array.getElem?_toList,Array.getElem?_eq_getElem (by rw[hds];exact hi),hdi,(hf ⟨i,hi⟩).1];rfl
  ·rw[List.getElem?_eq_none (by simp[hds];omega),List.getElem?_eq_none (by omega)]
 ·have hi':i<x.length:=hds▸hi;rw[hdi i hi,←(hf _).2 j hj,←htk,List.getElem?_take,if_pos (chunk_lt hi' hj),Array.getElem?_toList]
theorem holdsK_of {x:List t.den} [Inhabited (Ek I w t x)] {cur:Array Value} {e:TypeId} {d:Array (Ek I w t x)} (hg:w.heap[g]? = some (.cells cur e (0,0)))
  (hc:∀i (hi:i<d.size) j,j<t.wid→cur[i*t.wid+j]? = d[i].enc[j]?):HoldsK Ek.enc t.wid w g 0 d:=by
 intro j hj;rw[size_flatK]at hj;have hw:=t.wid_pos;have h1:j / t.wid<d.size:=Nat.div_lt_of_lt_mul (by rw[Nat.mul_comm];exact hj)
 have h2:=Nat.mod_lt j hw;have h3:=hc _ h1 _ h2;rw[Nat.mul_comm,Nat.div_add_mod]at h3;rw[get_flatK _ _ _ _ hj,Nat.zero_add];refine⟨?_,by simp[World.frozen?,hg]⟩
 rw[cell_of_row w g _ cur e (0,0) hg,h3,getElem!_pos d _ h1];have h4:j % t.wid<d[j / t.wid].enc.length:=by rw[Ek.len];exact h2
 rw[List.getElem?_eq_getElem h4];simp[h4]
theorem ownK_of {x:List t.den} [Inhabited (Ek I w t x)] {cur:Array Value} {e:TypeId} {d':Array (Ek I w t x)} {cap:Nat} (hg:w.heap[g]? = some (.cells cur e (0,0))) (hgI:¬ I g) (hIl:∀ b,I b→b < w.heap.size) (hl:x.length≤lim) (hnc:x.length≤cap) (hcm:cap≤maxLen)
  (hcs:cur.size=cap*t.wid) (hs:d'.size=x.length) (m:Nat) (os:Array Obj) (hI:∀b,I b→I' b):OwnV I' (grow (putRowK Ek.enc t.wid (Sort.ahead w m) g 0 d') os) false e t (d'.toList.map Ek.dat) (.slice (some ⟨g,0,none⟩) x.length cap) [g]:=by
 have hglt:g<w.heap.size:=(Array.getElem?_eq_some_iff.1 hg).1;obtain⟨k1,k2,k3,k4⟩:=rowWorld id w g m (flatK Ek.enc t.wid d') os hglt;have hrow:=k4 cur e hg;have hlen:(d'.toList.map Ek.dat).length=x.length:=by simp[hs]
 have hw:=t.wid_pos;have hle:x.length*t.wid≤cur.size:=by rw[hcs];exact Nat.mul_le_mul_right _ hnc
 have hW:grow (putRowK Ek.enc t.wid (Sort.ahead w m) g 0 d') os=grow (putRow id (Sort.ahead w m) g 0 (flatK Ek.enc t.wid d')) os:=rfl;rw[hW];refine⟨by rw[hlen];exact hl,(flatK Ek.enc t.wid d').toList,[],⟨by rw[hlen,Array.length_toList,size_flatK,hs],.inr ⟨g,cap,putCells id 0 (flatK Ek.enc t.wid d') cur,by rw[hlen],Nat.zero_le _,hrow,by rw[hlen];exact hnc,hcm,by simp[putCells,hcs],?_⟩⟩,rfl,fun h=>by simp at h,fun _=>rfl,fun i y hi=>?_⟩
 ·rw[hlen];refine List.ext_getElem? fun i=>?_;by_cases hi:i<x.length*t.wid
  ·rw[List.getElem?_take,if_pos hi,Array.getElem?_toList,Array.getElem?_toList];simp only[putCells,Array.getElem?_mapIdx];have hci:i<cur.size:=by omega
   have hsz:(flatK Ek.enc t.wid d').size=x.length*t.wid:=by rw[size_flatK,hs]
   rw[Array.getElem?_eq_getElem hci,Array.getElem?_eq_getElem (show i<(flatK Ek.enc t.wid d').size by omega)]
   simp only[Option.map_some,Nat.zero_le,true_and,Nat.sub_zero,Nat.zero_add];rw[if_pos (by omega),getElem!_pos (flatK Ek.enc t.wid d') i (by omega)];rfl
  ·rw[List.getElem?_eq_none (by rw[List.length_take];omega),List.getElem?_eq_none (by rw[Array.length_toList,size_flatK,hs];omega)]
 ·rw[List.getElem?_map]at hi;obtain⟨p,hp1,rfl⟩:=Option.map_eq_some_iff.1 hi;rw[Array.getElem?_toList]at hp1;obtain⟨hid,hp1⟩:=Array.getElem?_eq_some_iff.1 hp1;refine⟨p.enc,p.len,fun j hj=>?_,?_⟩
  ·have hlt:i*t.wid+j<d'.size*t.wid:=chunk_lt hid hj;rw[Array.getElem?_toList,Array.getElem?_eq_getElem (by rw[size_flatK];exact hlt),←getElem!_pos (flatK Ek.enc t.wid d'),get_flatK _ _ _ _ hlt]
   have e1:(i*t.wid+j) / t.wid=i:=by rw[Nat.mul_comm,Nat.mul_add_div hw,Nat.div_eq_of_lt hj,Nat.add_zero]
   have e2:(i*t.wid+j) % t.wid=j:=by rw[Nat.mul_comm,Nat.mul_add_mod,Nat.mod_eq_of_lt hj]
   rw[e1,e2,getElem!_pos d' i hid,hp1];have h4:j<p.enc.length:=by rw[Ek.len];exact hj
   rw[List.getElem?_eq_getElem h4];simp[h4]
  ·simp only[Bool.false_eq_true,if_false];exact p.2.1.mono hI fun b hb=>k3 b (hIl b hb) (fun he=>hgI (he▸hb))
end
def ltC {α:Type}(cmp:α→α→Option Int)(a b:α):Bool:=match cmp a b with
 | some n=>decide (n<0)
 | none=>false
structure CmpOn {α:Type} (cmp:α→α→Option Int) (x:List α):Prop where
 some:∀a∈x,∀b∈x,(cmp a b).isSome=true
 irrefl:∀a∈x,ltC cmp a a=false
 trans:∀a∈x,∀b∈x,∀c∈x,ltC cmp a b=true→ltC cmp b c=true→ltC cmp a c=true
 total:∀a∈x,∀b∈x,ltC cmp a b=false→ltC cmp b a=false→a=b
theorem CmpOn.asymm {α:Type}{cmp:α→α→Option Int}{x:List α}(h:CmpOn cmp x){a b:α}(ha:a∈x)(hb:b∈x)(h1:ltC cmp a b=true):ltC cmp b a=false:=by
 cases hq:ltC cmp b a with
 | false=>rfl
 | true=>have:=h.trans a ha b hb a ha h1 hq;rw[h.irrefl a ha]at this;cases this
theorem CmpOn.ntrans {α:Type}{cmp:α→α→Option Int}{x:List α}(h:CmpOn cmp x){a b c:α}(ha:a∈x)(hb:b∈x)(hc:c∈x)(h1:ltC cmp a b=false)(h2:ltC cmp b c=false):ltC cmp a c=false:=by
 cases hq:ltC cmp a c with
 | false=>rfl
 | true =>
  cases hba:ltC cmp b a with
  | true=>have:=h.trans b hb a ha c hc hba hq;rw[this]at h2;cases h2
  | false=>have:=h.total a ha b hb h1 hba;subst this;rw[hq]at h2;cases h2
def sortC {α:Type}(cmp:α→α→Option Int)(x:List α):List α:=x.mergeSort fun a b=>!ltC cmp b a
theorem sortC_perm {α:Type}(cmp:α→α→Option Int)(x:List α):(sortC cmp x).Perm x:=List.mergeSort_perm x _
theorem sortC_sorted {α:Type}{cmp:α→α→Option Int}{x:List α}(h:CmpOn cmp x):(sortC cmp x).Pairwise fun a b=>ltC cmp b a=false:=by
 let β:={ a:α // a∈x }
 let y:List β:=x.attach
 have hy:y.map (·.1)=x:=List.attach_map_subtype_val x;have hm:(y.mergeSort fun a b=>!ltC cmp b.1 a.1).map (·.1)=sortC cmp x:=by
  unfold sortC;rw[List.map_mergeSort (s:=fun a b=>!ltC cmp b a) (fun a _ b _=>rfl),hy]
 rw[←hm,List.pairwise_map];have:=List.pairwise_mergeSort (le:=fun(a b:β)=>!ltC cmp b.1 a.1) (fun a b c h1 h2=>by
  simp only[Bool.not_eq_true']at h1 h2 ⊢;exact h.ntrans c.2 b.2 a.2 h2 h1) (fun a b=>by
  cases hq:ltC cmp b.1 a.1 with
  | false=>rfl
  | true=>rw[h.asymm b.2 a.2 hq];rfl) y
 simpa using this
theorem sortC_unique {α:Type}{cmp:α→α→Option Int}{x y:List α}(h:CmpOn cmp x)(hp:y.Perm x)(hs:y.Pairwise fun a b=>ltC cmp b a=false):y=sortC cmp x :=
 List.Perm.eq_of_pairwise (le:=fun a b=>ltC cmp b a=false) (fun a b ha hb h1 h2=>h.total a (hp.mem_iff.1 ha) b ((sortC_perm cmp x).mem_iff.1 hb) h2 h1) hs (sortC_sorted h) (hp.trans (sortC_perm cmp x).symm)
theorem SVs_int {I:Nat→Prop}{w:World}{nn:Bool}{n:Int}{rvs:List Value}{rbss:List (List Nat)}(h:SVs I w [.l (.d nn (.int .i64))] n rvs rbss):rvs=[.int .i64 n]:=by
 match rvs,h with
 | [v],h =>
  obtain⟨bs',_,h⟩:=h;have:=RdV_int.1 h.1;rw[this]
open Classical in
noncomputable def sortRF {α:Type}(cmp:α→α→Option Int)(x:List α):Option (Unit×(List α×Unit)):=if CmpOn cmp x then some ((),(sortC cmp x,()))else none
theorem sortR_ctr {D:Prop} {P:Program} {ρ:Go.Shelf.Ren} (L:SlLaysF0.n6 P ρ) {f gc:FuncId} {e:TypeId} {a b:Ty} (hf:ρ.f 6 = f) (aE:∀ w,(isAgg (ρ.t 24)).run P w = .ok true w) (zE:∀ w,(Go.sizeOf (ρ.t 24)).run P w = .ok (Ty.prod a b).wid w)
  {cmp:(Ty.prod a b).den→(Ty.prod a b).den→Option Int} {nn:Bool} (hg:FnOk P gc)
  (hc:Ctr True P ⟨gc,[.d false (.prod a b),.d false (.prod a b)],[.l (.d nn (.int .i64))],fun x=>cmp x.1 x.2⟩):Ctr D P ⟨f,[.io false e (.prod a b),.f gc],[],fun x=>sortRF cmp x.1⟩:=by
 intro x r hx I w vs bss hin hargs;obtain⟨x,un⟩:=x;have hx:sortRF cmp x=some r:=hx;unfold sortRF at hx;split at hx
 ·rename_i hgood;obtain rfl:=Option.some.inj hx;match vs,hargs with
  | [v,v2],⟨bs,rest,hb1,ho,hargs⟩ =>
   obtain⟨bs2,hb2,hv2,hb3⟩:=hargs;subst hb1 hb2;have ho:OwnV I w false e (.prod a b) x v bs:=ho;have hv2:v2=.func (.func gc) #[] #[]:=hv2;subst hv2;have hbs2:bs2=[]:=hb3;subst hbs2;have hn:bs.Nodup:=by
    have:=hin.nodup;simp only[List.flatten_cons,List.flatten_nil,List.append_nil]at this;exact this
   subst hf;by_cases hx0:x=[]
   ·subst hx0;have hv:∃p cap,v=.slice p 0 cap:=by
     obtain⟨_,cells,bss,⟨_,h⟩,_⟩:=ho;rcases h with⟨rfl,_⟩ | ⟨g,cap,cur,rfl,_⟩
     ·exact⟨none,0,rfl⟩
     ·exact⟨_,cap,rfl⟩
    obtain⟨p,cap,rfl⟩:=hv;refine(AnyF.slices_SortFunc_none L p cap (.func (.func gc) #[] #[]) w).mono fun ex w' hpost=>?_;obtain⟨rfl,rfl⟩:=hpost;refine⟨I,[],[],[bs],rfl,⟨rfl,rfl,.refl _,Nat.le_refl _,fun _ _ _=>rfl,fun b hb=>⟨hin.acc b hb,fun _=>.inl hb⟩,by simpa using hn,fun b hb=>?_,fun q hq b hb=>?_⟩,rfl,fun h=>by simp[resB,hasIo]at h,fun o ho'=>?_⟩
    ·have hb:b∈bs:=by simpa using hb
     exact⟨hin.range b (by simp[hb]),fun _=>by simp[hb]⟩
    ·simp only[List.append_nil,List.mem_singleton]at hq;subst hq;exact⟨hin.head q (by simp) b hb,fun _=>⟨q,by simp,hb⟩⟩
    ·simp only[resB,hasIo]at ho';obtain rfl:=Option.some.inj ho';have e0:sortC cmp ([]:List (Ty.prod a b).den)=[]:=by unfold sortC;simp
     refine⟨bs,[],rfl,?_,rfl⟩;show OwnV _ _ false e (.prod a b) (sortC cmp []) _ bs;rw[e0];exact ho
   ·obtain⟨g,cap,cur,d,rfl,hds,hg0,rfl,hdx,hlim,hnc,hcm,hcs,hcell⟩:=ho.elsK hx0;have hgl:g<w.heap.size:=(Array.getElem?_eq_some_iff.1 hg0).1;have hgI:¬I g:=hin.head [g] (by simp) g rfl
    haveI:Inhabited (Ek I w (.prod a b) x):=⟨d[0]'(by rw[hds];exact List.length_pos_iff.2 hx0)⟩
    have hH:=holdsK_of (I:=I) (x:=x) hg0 hcell;obtain⟨fn,c,q1,q2,q3⟩:=hg;have eg:∀(args:Array Value) (w:World),(callFunc gc args).run P w=.ok (.enter gc args) w:=enters_of q1 q2 q3;let cf:Ek I w (.prod a b) x→Ek I w (.prod a b) x→Int:=fun p q=>(cmp p.dat q.dat).getD 0
    have hcf:∀p q:Ek I w (.prod a b) x,cmp p.dat q.dat=some (cf p q)∧ltOf cf p q=ltC cmp p.dat q.dat:=fun p q=>by
     obtain⟨n,h1⟩:=Option.isSome_iff_exists.1 (hgood.some p.dat p.2.2 q.dat q.2.2);exact⟨by simp only[cf,h1,Option.getD_some],by simp only[ltOf,cf,ltC,h1,Option.getD_some]⟩
    have hO:SWO (ltOf cf):=⟨fun p=>by rw[(hcf _ _).2];exact hgood.irrefl _ p.2.2,fun a b c h1 h2=>by rw[(hcf _ _).2]at *;exact hgood.trans _ a.2.2 _ b.2.2 _ c.2.2 h1 h2,fun a b c h1 h2=>by rw[(hcf _ _).2]at *;exact hgood.ntrans a.2.2 b.2.2 c.2.2 h1 h2⟩
    have hcmp:CmpLays P gc #[] Ek.enc (Ty.prod a b).wid cf g 0 d.size w:=fun m os dk hdk p q=>by
     obtain⟨k1,k2,k3,k4⟩:=rowWorld id w g m (flatK Ek.enc (Ty.prod a b).wid dk) os hgl;have hW:sortWorldK Ek.enc (Ty.prod a b).wid w g 0 m dk os=grow (putRow id (Sort.ahead w m) g 0 (flatK Ek.enc (Ty.prod a b).wid dk)) os:=rfl;rw[hW];generalize grow (putRow id (Sort.ahead w m) g 0 (flatK Ek.enc (Ty.prod a b).wid dk)) os=W at k1 k2 k3 k4;have rd:∀p:Ek I w (.prod a b) x,RdV I W (.prod a b) p.dat (.agg p.enc.toArray):=fun p =>
      ⟨p.enc,p.2.1.mono (fun _ h=>h) fun b hb=>k3 b (hin.acc b hb) fun he=>hgI (he▸hb),rfl⟩
     have:=hc (p.dat,q.dat) (cf p q) (hcf p q).1 I W [.agg p.enc.toArray,.agg q.enc.toArray] [[],[]] ⟨hin.gl.frame k2 fun b hb=>k3 b (Nat.lt_of_lt_of_le hb hin.gl.1) fun he=>Nat.not_lt.2 (hin.gx g (by simp)) (he▸hb),fun b hb=>by simp at hb,by simp,fun b hb=>by simp at hb,fun b hb=>Nat.lt_of_lt_of_le (hin.acc b hb) k2,fun q hq b hb=>by
      simp only[List.mem_cons,List.not_mem_nil,or_false,or_self]at hq;subst hq;simp at hb⟩ ⟨[],[[]],rfl,⟨rd p,(fun h=>by cases h),rfl⟩,[],rfl,rd q,(fun h=>by cases h),rfl⟩
     refine Calls.mono this fun ex w' hpost=>?_;obtain⟨I2,rvs,rbss,ibss,rfl,co,hsv,_,_⟩:=hpost;have hrv:rvs=[.int .i64 (cf p q)]:=SVs_int hsv;subst hrv;refine⟨rfl,w'.drawn-W.drawn,w'.heap.extract W.heap.size w'.heap.size,?_⟩;have hheap:w'.heap=W.heap++w'.heap.extract W.heap.size w'.heap.size:=by
      apply Array.ext_getElem?
      intro i;by_cases hi:i<W.heap.size
      ·rw[Array.getElem?_append_left hi];exact co.frame i hi fun q hq hh=>by
        simp only[List.mem_cons,List.not_mem_nil,or_false,or_self]at hq;subst hq;simp at hh
      ·rw[Array.getElem?_append_right (by omega)]
       have hsz:=co.size;by_cases hi2:i<w'.heap.size
       ·rw[Array.getElem?_extract,if_pos (by omega)]
        congr 1;omega
       ·rw[Array.getElem?_eq_none (by omega),Array.getElem?_eq_none (by simp;omega)]
     have hdr:=co.output.drawn trivial;obtain⟨h1,t1,d1,o1,u1⟩:=w';have eh:h1=_:=hheap;have et:t1=W.tape:=co.tape;have eo:o1=W.os:=co.os;have eu:u1=W.output:=co.output.eq;have hdr:W.drawn≤d1:=hdr;simp only[grow,World.drewN,World.mk.injEq];exact⟨eh,et,by omega,eo,eu⟩
    refine(AnyQ.slices_SortFunc L (Ty.prod a b).wid aE zE Ek.enc Ek.len Ek.one cf hO gc #[] g 0 cap d w eg hcmp hH hgl (by rw[hds];unfold lim at hlim;omega)).mono fun ex w' hpost=>?_
    obtain⟨rfl,d',n,os,hp,hs,rfl⟩:=hpost;obtain⟨p1,p2,p3⟩:=hp;have hperm:d'.toList.Perm d.toList:=by
     have e1:d'.extract 0 d.size=d':=by rw[←p1];simp
     have e2:d.extract 0 d.size=d:=by simp
     rw[e1,e2]at p3;exact p3
    have hdat:d'.toList.map Ek.dat=sortC cmp x:=by
     have hpx:(d'.toList.map Ek.dat).Perm x:=by
      have:=hperm.map Ek.dat
      rwa [hdx]at this
     refine sortC_unique hgood hpx ?_;rw[List.pairwise_map,List.pairwise_iff_getElem];intro i j hi hj hij;have:=hs i j (Nat.zero_le _) hij (by rw[←p1];simpa using hj)
     rw[(hcf _ _).2]at this;rw[getElem!_pos d' i (by simpa using hi),getElem!_pos d' j (by simpa using hj)]at this
     simpa using this
    have how:=ownK_of (I:=I) (I':=I) (x:=x) (d':=d') hg0 hgI hin.acc hlim hnc hcm hcs (by rw[p1,hds]) n os (fun _ h=>h)
    rw[hdat]at how;obtain⟨k1,k2,k3,_⟩:=rowWorld id w g n (flatK Ek.enc (Ty.prod a b).wid d') os hgl;have hW:sortWorldK Ek.enc (Ty.prod a b).wid w g 0 n d' os=grow (putRowK Ek.enc (Ty.prod a b).wid (Sort.ahead w n) g 0 d') os:=rfl;have hW2:grow (putRowK Ek.enc (Ty.prod a b).wid (Sort.ahead w n) g 0 d') os=grow (putRow id (Sort.ahead w n) g 0 (flatK Ek.enc (Ty.prod a b).wid d')) os:=rfl;rw[hW];rw[←hW2]at k1 k2 k3;refine⟨I,[],[],[[g]],rfl,⟨rfl,rfl,k1.to,k2,fun b hb hh=>k3 b hb fun he=>hh [g] (by simp) (by rw[he];rfl),fun b hb=>⟨Nat.lt_of_lt_of_le (hin.acc b hb) k2,fun _=>.inl hb⟩,by simp,fun b hb=>?_,fun q hq b hb=>?_⟩,rfl,fun h=>by simp[resB,hasIo]at h,fun o ho'=>?_⟩
    ·have hb:b=g:=by simpa using hb
     subst hb;exact⟨Nat.lt_of_lt_of_le hgl k2,fun _=>by simp⟩
    ·simp only[List.append_nil,List.mem_singleton]at hq;subst hq;have hb:b=g:=by simpa using hb.symm
     subst hb;exact⟨hgI,fun _=>⟨[b],by simp,rfl⟩⟩
    ·simp only[resB,hasIo]at ho';obtain rfl:=Option.some.inj ho';refine⟨_,[],rfl,?_,rfl⟩;show OwnV I _ false e (.prod a b) (sortC cmp x) _ [g];rw[hds];exact how
 ·cases hx
end Go.Proofs.YtfknaeamhcpfgaaGreat.Eng
