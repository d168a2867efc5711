/-
  The engine: a cell within a slice of one's own is written into, as the last operation of a region whose order is drawn. No condition.
-/
import Derived.Test.YtfknaeamhcpfgaaGreatEm7
namespace Go.Proofs.YtfknaeamhcpfgaaGreat.Eng
open Go
set_option linter.all false
section
variable {P:Program}
theorem wp_monoQ {o:Oper}{a:Act}{w:World}{K K':Act→World→Prop}{Q Q':Exit→Act→World→Prop}(h:∀a w,K a w→K' a w)(hQ:∀e a w,Q e a w→e=.normal)(hh:o.wp P a w K Q):o.wp P a w K' Q':=by
 unfold Oper.wp at *;generalize (execOp a.eval o).run P w=r at *;cases r with
 | ok n w' =>
  cases n<;>simp only[Oper.upon]at hh ⊢ <;>
   first
    | exact h _ _ hh
    | exact Calls.mono hh (fun e w'' he=>by
      cases e with
      | returned v=>exact h _ _ he
      | panicked c=>have:=hQ _ _ _ he;cases this
      | outgrown=>obtain⟨a,w,he⟩:=he;have:=hQ _ _ _ he;cases this)
    | exact Rows.mono hh (fun _ _ he=>h _ _ he)
 | halt x w'=>cases x<;>simp only[Oper.upon]at hh ⊢<;>first | exact hh.elim | (have:=hQ _ _ _ hh;cases this)
theorem wpOp_push {ops:Array Oper} {o:Oper} {Q Q':Exit→Act→World→Prop} {i:Nat} {a:Act} {w:World} {K K':Act→World→Prop} (hi:i < ops.size)
  (hguard:∀(j:Nat) (oj:Oper) g b,ops[j]? = some oj→oj.guard=some (g,b)→g<ops.size) (h:∀a w,K a w→K' a w) (hQ:∀e a w,Q e a w→e=.normal) (hh:wpOp P ops Q i K a w):wpOp P (ops.push o) Q' i K' a w:=by
 obtain⟨oi,ho⟩:∃oi,ops[i]? = some oi:=⟨ops[i],Array.getElem?_eq_getElem hi⟩;have ho2:(ops.push o)[i]? = some oi:=by rw[Array.getElem?_push_lt hi,←Array.getElem?_eq_getElem hi,ho]
 have hw:Region.wanted oi (yielded (ops.push o) a.tmps)=Region.wanted oi (yielded ops a.tmps):=by
  unfold Region.wanted;split
  ·rfl
  ·rename_i g b hg;have:=hguard i oi g b ho hg;unfold yielded;rw[Array.getElem?_push_lt this,←Array.getElem?_eq_getElem this]
 unfold wpOp at hh ⊢;rw[ho]at hh;rw[ho2];simp only[hw]at hh ⊢;split
 ·rename_i hc;rw[if_pos hc]at hh;rcases hh with hh | ⟨_,a,w,he⟩
  ·exact .inl (wp_monoQ h hQ hh)
  ·have:=hQ _ _ _ he;cases this
 ·rename_i hc;rw[if_neg hc]at hh;exact h _ _ hh
theorem ready_iff {ops:Array Oper}{listed:Array Bool}{i:Nat}:i∈Region.ready .any ops listed↔∃o,ops[i]? = some o∧listed.getD i true=false∧∀e∈o.after,Region.binds .any e=true→listed.getD e.on false=true:=by
 constructor
 ·intro h;obtain⟨h1,o,h2,h3⟩:=mem_ready.1 h;exact⟨o,h2,h1,h3⟩
 ·rintro⟨o,h2,h1,h3⟩
  exact mem_ready.2 ⟨h1,o,h2,h3⟩
theorem ready_nil {ops:Array Oper} {listed:Array Bool} (hs:listed.size = ops.size) (hafter:∀ (j:Nat) (oj:Oper),ops[j]? = some oj→∀ e∈oj.after,Region.binds .any e = true→e.on < j) (h:Region.ready .any ops listed = []) :
  ∀j,j<ops.size→listed.getD j false=true:=by
 intro j;induction j using Nat.strongRecOn with
 | ind j ih =>
  intro hj;cases hc:listed.getD j false with
  | true=>rfl
  | false =>
   exfalso;have:j∈Region.ready .any ops listed:=ready_iff.2 ⟨ops[j],Array.getElem?_eq_getElem hj,by
    rw[Array.getD_eq_getD_getElem?]at hc ⊢;rw[Array.getElem?_eq_getElem (by omega)]at hc ⊢
    simpa using hc,fun e he hb=>by
    have hlt:=hafter j _ (Array.getElem?_eq_getElem hj) e he hb;exact ih e.on hlt (by omega)⟩
   rw[h]at this;simp at this
theorem getD_push {l:Array Bool}{b:Bool}{i:Nat}(hi:i<l.size)(d:Bool):(l.push b).getD i d=l.getD i d:=by
 rw[Array.getD_eq_getD_getElem?,Array.getD_eq_getD_getElem?,Array.getElem?_push_lt hi,←Array.getElem?_eq_getElem hi]
theorem getD_push_last {l:Array Bool}{b:Bool}(d:Bool):(l.push b).getD l.size d=b:=by
 rw[Array.getD_eq_getD_getElem?];simp
theorem split_last {ops:Array Oper} {o:Oper} {Q1 Q:Exit→Act→World→Prop}
  (hlast:∀listed:Array Bool,Cl ops listed→(∀e∈o.after,Region.binds .any e=true→listed.getD e.on false=true)→∀j,j<ops.size→listed.getD j false=true) (hl2:∀e∈o.after,Region.binds .any e=true→e.on<ops.size)
  (hafter:∀(j:Nat) (oj:Oper),ops[j]? = some oj→∀e∈oj.after,Region.binds .any e=true→e.on<j)
  (hguard:∀(j:Nat) (oj:Oper) g b,ops[j]? = some oj→oj.guard=some (g,b)→g<ops.size)
  (hQ1:∀e a w,Q1 e a w→e=.normal)
  (hQ:∀a w,Q1 .normal a w→wpOp P (ops.push o) Q ops.size (fun a w=>Q .normal a w) a w) :
  ∀(fuel:Nat) (listed:Array Bool) (a:Act) (w:World),listed.size=ops.size→Cl ops listed→wpAny P .any ops Q1 fuel listed a w→wpAny P .any (ops.push o) Q (fuel+1) (listed.push false) a w:=by
 have low:∀{listed:Array Bool} {i:Nat},listed.size=ops.size→i<ops.size→(i∈Region.ready .any (ops.push o) (listed.push false)↔i∈Region.ready .any ops listed):=fun{listed i} hs hi=>by
  rw[ready_iff,ready_iff,Array.getElem?_push_lt hi,←Array.getElem?_eq_getElem hi,getD_push (by omega)]
  constructor
  ·rintro⟨oi,h1,h2,h3⟩
   exact⟨oi,h1,h2,fun e he hb=>by
    have:=hafter i oi h1 e he hb;rw[←getD_push (b:=false) (by omega)];exact h3 e he hb⟩
  ·rintro⟨oi,h1,h2,h3⟩
   exact⟨oi,h1,h2,fun e he hb=>by
    have:=hafter i oi h1 e he hb;rw[getD_push (by omega)];exact h3 e he hb⟩
 have top:∀{listed:Array Bool},listed.size=ops.size→Cl ops listed→(ops.size∈Region.ready .any (ops.push o) (listed.push false)↔∀j,j<ops.size→listed.getD j false=true):=fun{listed} hs hcl=>by
  rw[ready_iff];constructor
  ·rintro⟨oi,h1,h2,h3⟩
   rw[Array.getElem?_push_size]at h1;obtain rfl:=Option.some.inj h1;exact hlast listed hcl fun e he hb=>by
    have h4:=hl2 e he hb;have:=h3 e he hb
    rwa [getD_push (by omega)]at this
  ·intro h;refine⟨o,Array.getElem?_push_size,by rw[←hs];exact getD_push_last true,fun e he hb=>?_⟩
   have:=hl2 e he hb;rw[getD_push (by omega)]
   exact h e.on this
 have bnd:∀{listed:Array Bool} {i:Nat},i∈Region.ready .any (ops.push o) listed→i<ops.size∨i=ops.size:=fun{listed i} hi=>by
  obtain⟨oi,h1,_⟩:=ready_iff.1 hi;have:=(Array.getElem?_eq_some_iff.1 h1).1;rw[Array.size_push]at this;omega
 have nil_of:∀{listed:Array Bool},listed.size=ops.size→(∀j,j<ops.size→listed.getD j false=true)→Region.ready .any ops listed=[]:=fun{listed} hs h=>by
  apply List.eq_nil_iff_forall_not_mem.2
  intro i hi;obtain⟨oi,h1,h2,_⟩:=ready_iff.1 hi;have hlt:=(Array.getElem?_eq_some_iff.1 h1).1;have:=h i hlt;rw[Array.getD_eq_getD_getElem?,Array.getElem?_eq_getElem (by omega)]at this h2
  simp only[Option.getD_some]at this h2;rw[this]at h2;cases h2
 have done:∀{listed:Array Bool},listed.size=ops.size→(∀j,j<ops.size→listed.getD j false=true)→Region.ready .any (ops.push o) ((listed.push false).setIfInBounds ops.size true)=[]:=fun{listed} hs h=>by
  apply List.eq_nil_iff_forall_not_mem.2
  intro i hi;have hb:=bnd hi;obtain⟨oi,h1,h2,_⟩:=ready_iff.1 hi;rw[Array.getD_eq_getD_getElem?,Array.getElem?_setIfInBounds]at h2;rcases hb with hb | rfl
  ·rw[if_neg (by omega),Array.getElem?_push_lt (by omega)]at h2
   have:=h i hb;rw[Array.getD_eq_getD_getElem?,Array.getElem?_eq_getElem (by omega)]at this
   simp only[Option.getD_some]at this h2;rw[this]at h2;cases h2
  ·rw[if_pos rfl,if_pos (by simp;omega)]at h2
   cases h2
 have last:∀(fuel:Nat) (listed:Array Bool) (a:Act) (w:World),listed.size=ops.size→(∀j,j<ops.size→listed.getD j false=true)→Q1 .normal a w→wpOp P (ops.push o) Q ops.size (wpAny P .any (ops.push o) Q fuel ((listed.push false).setIfInBounds ops.size true)) a w:=fun fuel listed a w hs hall hq=>by
  refine wpOp_mono (fun a w h=>?_) (hQ a w hq);cases fuel with
  | zero=>exact⟨done hs hall,h⟩
  | succ fuel=>exact⟨fun _=>h,fun i hi=>by rw[done hs hall]at hi;simp at hi⟩
 intro fuel;induction fuel with
 | zero =>
  intro listed a w hs hcl h;have hall:=ready_nil hs hafter h.1;refine⟨fun hr=>?_,fun i hi=>?_⟩
  ·have:=(top hs hcl).2 hall;rw[hr]at this;simp at this
  ·rcases bnd hi with hb | rfl
   ·have:=(low hs hb).1 hi;rw[h.1]at this;simp at this
   ·exact last 0 listed a w hs hall h.2
 | succ fuel ih =>
  intro listed a w hs hcl h;refine⟨fun hr=>?_,fun i hi=>?_⟩
  ·exfalso;by_cases hn:Region.ready .any ops listed=[]
   ·have:=(top hs hcl).2 (ready_nil hs hafter hn);rw[hr]at this;simp at this
   ·obtain⟨i,hi⟩:=List.exists_mem_of_ne_nil _ hn;obtain⟨oi,h1,_⟩:=ready_iff.1 hi;have:=(low hs (Array.getElem?_eq_some_iff.1 h1).1).2 hi;rw[hr]at this;simp at this
  ·rcases bnd hi with hb | rfl
   ·have hi':=(low hs hb).1 hi;refine wpOp_push hb hguard (fun a w h=>?_) hQ1 (h.2 i hi');have hc:(listed.push false).setIfInBounds i true=(listed.setIfInBounds i true).push false:=by
     apply Array.ext_getElem?
     intro k;rw[Array.getElem?_setIfInBounds,Array.getElem?_push,Array.getElem?_push,Array.getElem?_setIfInBounds];simp only[Array.size_push,Array.size_setIfInBounds];by_cases hk:i=k
     ·subst hk;rw[if_pos rfl,if_pos (by omega),if_neg (by omega),if_pos rfl,if_pos (by omega)]
     ·rw[if_neg hk,if_neg hk]
    rw[hc];exact ih _ a w (by simp[hs]) (hcl.set hi') h
   ·have hall:=(top hs hcl).1 hi;exact last (fuel+1) listed a w hs hall (h.1 (nil_of hs hall))
end
open Go
set_option linter.all false
def seqC {ρ:Type}(C:Ctx)(ops:Array Oper)(an:List Nat):List Nat→Array Bool→Sg→(Array Bool→Sg→Option ρ)→Option ρ
 | [],listed,σ,K=>K listed σ
 | i::r,listed,σ,K=>match ops[i]?,seqOk σ ops an listed i with
  | some o,true=>operK C ops σ o fun σ=>seqC C ops an r (listed.setIfInBounds i true) σ K
  | _,_=>none
section
variable {ρ:Type}{C:Ctx}{E:En}{G:Gh}{σ:Sg}{a:Act}{w:World}{ops:Array Oper}
def Fast (E:En)(G:Gh)(σ:Sg)(w:World)(b:Nat):Prop:=Imm E G σ w b∨(b<E.B∧¬E.H b)
theorem Fast.heap {G':Gh}{σ':Sg}{a':Act}{w':World}(h:RelG E G σ a w)(h':RelG E G' σ' a' w')(hg:GA E σ σ' G G' w w'){b:Nat}(hb:Fast E G σ w b):w'.heap[b]? = w.heap[b]?∧Fast E G' σ' w' b:=by
 rcases hb with hb | hb
 ·exact⟨hg.heap b hb,.inl (hg.imm b hb)⟩
 ·exact⟨(h'.frame b hb.1 hb.2).trans (h.frame b hb.1 hb.2).symm,.inr hb⟩
theorem seqC_some (hC:Ctrs E.d C) {ws:List Nat} (hnos:Region.noSelect ops = true) (hafter:∀ (i:Nat) (o:Oper),ops[i]? = some o→∀ e∈o.after.toList,Region.binds .any e = true→e.on < i)
  {Q:Exit→Act→World→Prop} (hQp:∀c a w,¬Q (.panic c) a w) (m:Nat) :
  (ord:List Nat)→(∀i∈ord,∀o,ops[i]? = some o→(∀t,o.dst=some t→t∈ws∧¬E.F t)∧∀j b t,o.guard=some (j,b)→(ops[j]?).bind (·.dst)=some t→t∈ws)→{listed:Array Bool}→{σ:Sg}→{G:Gh}→{a:Act}→{w:World}→{K:Array Bool→Sg→Option ρ}→{r:ρ}→{I:Nat→Prop}→(∀b,I b→Fast E G σ w b)→listed.size=ops.size→Cl ops listed→RelG E G σ a w→seqC C ops (ancAll ops.toList []) ord listed σ K=some r →
   (∀listed' σ' a' w' G',K listed' σ'=some r→listed'.size=ops.size→Cl ops listed'→RelG E G' σ' a' w'→Kc ws σ σ'→GA E σ σ' G G' w w'→wpW C.P ops Q (Fast E G' σ' w') m listed' a' w')→wpW C.P ops Q I (ord.length+m) listed a w
 | [],_,listed,σ,G,a,w,K,r,I,hI,hs,hcl,h,hk,hQ=>by
  simp only[seqC]at hk;rw[List.length_nil,Nat.zero_add];exact wpW_sub hI _ _ _ _ (hQ listed σ a w G hk hs hcl h (Kc.refl _ _) (GA.refl _ _ _ _))
 | i::ord,hws,listed,σ,G,a,w,K,r,I,hI,hs,hcl,h,hk,hQ=>by
  have hws2:∀i∈ord,∀o,ops[i]? = some o→(∀t,o.dst=some t→t∈ws∧¬E.F t)∧∀j b t,o.guard=some (j,b)→(ops[j]?).bind (·.dst)=some t→t∈ws:=fun i hi=>hws i (List.mem_cons_of_mem _ hi);refine wpW_sub hI _ _ _ _ ?_;clear hI I;generalize hII:Fast E G σ w=I;simp only[seqC]at hk;rw[show(i::ord).length+m=(ord.length+m)+1 from by simp only[List.length_cons];omega]
  split at hk
  ·rename_i o ho hok;have hom:o∈ops.toList:=by rw[←Array.getElem?_toList]at ho;exact List.mem_of_getElem? ho
   unfold seqOk at hok;simp only[Bool.or_eq_true,Bool.and_eq_true,beq_iff_eq]at hok;have next:i∈Region.ready .any ops listed→∀σ' a' w' G',(seqC C ops (ancAll ops.toList []) ord (listed.setIfInBounds i true) σ' K)=some r→RelG E G' σ' a' w'→Kc ws σ σ'→GA E σ σ' G G' w w'→Agr I w w'∧wpW C.P ops Q I (ord.length+m) (listed.setIfInBounds i true) a' w':=fun hi σ' a' w' G' h1 h2 h3 h4 =>
    ⟨fun b hb=>(Fast.heap h h2 h4 (hII▸hb)).1,seqC_some hC hnos hafter hQp m ord hws2 (fun b hb=>(Fast.heap h h2 h4 (hII▸hb)).2) (by simp[hs]) (hcl.set hi) h2 h1 fun l2 σ2 a2 w2 G2 k1 ks kc k2 k3 k4=>hQ l2 σ2 a2 w2 G2 k1 ks kc k2 (h3.trans k3) (h4.trans k4)⟩
   have hst:=operK_some (a:=a) (w:=w) hC h hk (hws i (by simp) o ho).1 (hws i (by simp) o ho).2
   have still:quietO o=true→i∈Region.ready .any ops listed→∃v,YieldsW C.P ops o v a w∧wpW C.P ops Q I (ord.length+m) (listed.setIfInBounds i true) (a.put o.dst v) w:=fun hqo hi=>by
    have hn:=hst (fun a' w'=>wpW C.P ops Q I (ord.length+m) (listed.setIfInBounds i true) a' w') (fun _ _ _=>False) (fun σ' a' w' G' h1 h2 h3 h4=>(next hi σ' a' w' G' h1 h2 h3 h4).2);cases hw:Region.wanted o (yielded ops a.tmps)with
    | true =>
     rw[hw,if_pos rfl]at hn;obtain⟨u,hu⟩:=operK_quiet h hqo hk hw;refine⟨u,.inl ⟨hw,hu⟩,?_⟩;unfold Oper.wp at hn;rw[hu]at hn;exact hn
    | false =>
     rw[hw]at hn;exact⟨undef,.inr ⟨hw,rfl⟩,by simpa using hn⟩
   have hqat:quietAt ops i=quietO o:=by simp[quietAt,ho]
   rcases hok with(hone | ⟨⟨hr,hq⟩,hfree⟩) | ⟨⟨⟨hr,hq⟩,hfree⟩,hall⟩
   ·refine⟨fun h0=>by rw[hone]at h0;simp at h0,fun j hj=>?_⟩
    rw[hone,List.mem_singleton]at hj;subst hj;have hi:j∈Region.ready .any ops listed:=by rw[hone];simp
    split
    ·rename_i hq;rw[hqat]at hq;obtain⟨v,h1,h2⟩:=still hq hi;exact h1.still ho h2
    ·have hn:=hst (fun a' w'=>Agr I w w'∧wpW C.P ops Q I (ord.length+m) (listed.setIfInBounds j true) a' w') Q (next hi);unfold wpOp;rw[ho];simp only;split at hn
     ·rename_i hw;rw[if_pos hw];exact .inl hn
     ·rename_i hw;rw[if_neg hw];exact hn
   ·have hi:i∈Region.ready .any ops listed:=by simpa using hr
    have hn:=hst (fun a' w'=>wpW C.P ops Q I (ord.length+m) (listed.setIfInBounds i true) a' w') (fun _ _ _=>False) (fun σ' a' w' G' h1 h2 h3 h4=>(next hi σ' a' w' G' h1 h2 h3 h4).2);have hrun:Region.wanted o (yielded ops a.tmps)=true→∃u,∀w2,Agr I w w2→(execOp a.eval o).run C.P w2=.ok (.value u) w2:=fun hw=>by
     rcases hq with hq | hq
     ·have hqo:pureO o=true:=by simpa[pureAt,ho]using hq
      obtain⟨u,hu⟩:=operK_pure h hqo hk hw;exact⟨u,fun w2 _=>hu w2⟩
     ·have hqo:dataO σ o=true:=by simpa[dataAt,ho]using hq
      obtain⟨u,hu⟩:=operK_data h hqo hk;exact⟨u,fun w2 ha=>hu w2 fun b hb=>ha b (hII▸Or.inl hb)⟩
    have:∃v,YieldsIf C.P ops (Agr I w) o v a∧wpW C.P ops Q I (ord.length+m) (listed.setIfInBounds i true) (a.put o.dst v) w:=by
     cases hw:Region.wanted o (yielded ops a.tmps)with
     | true =>
      rw[hw,if_pos rfl]at hn;obtain⟨u,hu⟩:=hrun hw;refine⟨u,.inl ⟨hw,hu⟩,?_⟩;unfold Oper.wp at hn;rw[hu w (Agr.refl _ _)]at hn;exact hn
     | false =>
      rw[hw]at hn;exact⟨undef,.inr ⟨hw,rfl⟩,by simpa using hn⟩
    obtain⟨v,h1,h2⟩:=this;exact wpW_firstP (S:=Agr I w) (fun w1 w2 h1 h2=>h1.trans h2) hQp ho (Region.noSelect_spec hnos) (ord.length+m) listed a w hs (Agr.refl _ _) (Region.free_spec ho hfree) hi h1 h2
   ·have hi:i∈Region.ready .any ops listed:=by simpa using hr
    rw[hqat]at hq;obtain⟨v,h1,h2⟩:=still hq hi;rw[List.all_eq_true]at hall;refine wpW_first ho (by rw[hqat];exact hq) (Region.noSelect_spec hnos) hafter (ord.length+m) listed a hs hcl (Region.free_spec ho hfree) (fun j oj hj hne hun=>?_) hi h1 h2
    have:=hall j (List.mem_range.2 (Array.getElem?_eq_some_iff.1 hj).1);simp only[Bool.or_eq_true,beq_iff_eq]at this;rcases this with((h3 | h3) | h3) | h3
    ·exact absurd h3 hne
    ·rw[hun]at h3;cases h3
    ·exact .inl h3
    ·exact .inr h3
  ·simp at hk
end
open Go
set_option linter.all false
def hkL (x:L):L :=
 match x with
 | .dat nn t y=>if t.flat then .dat nn t y else match t,y with
  | .list (.int .u8),y=>.dat nn (.list (.int .u8)) y
  | _,_=>.unk
 | .cptr _ _=>.unk
 | .full _ _=>.unk
 | x=>x
def hkA (x:A):A :=
 match x with
 | .l x=>.l (hkL x)
 | .a ls=>.a (ls.map hkL)
 | .t ps=>.t (ps.map fun p=>(p.1,p.2.map hkL))
def hkO (o:Ob):Option Ob :=
 match o with
 | .own false true e t x=>some (.own false true e t x)
 | .own false false e t x=>if t.flat then some (.own false false e t x)else none
 | .box false e cs=>some (.box false e (cs.map hkL))
 | _=>none
def hkS (σ:Sg):Sg:={ env:=σ.env.map hkA,hp:=σ.hp.map fun o=>o.bind hkO }
section
variable {ρ:Type}{C:Ctx}{E:En}{G:Gh}{σ:Sg}{a:Act}{w w':World}{I I':Nat→Prop}{N:Nat}
def By (w w':World):Prop:=∀b o n,w.cell? ⟨b,o,none⟩=some (.int .u8 n)→w'.cell? ⟨b,o,none⟩=some (.int .u8 n)
theorem By.rd (hI:∀b,I b→I' b)(hu:By w w'){x:List Int}{v:Value}(h:RdV I w (.list (.int .u8)) x v):RdV I' w' (.list (.int .u8)) x v:=by
 obtain⟨cs,h1,h2⟩:=h;refine⟨cs,?_,h2⟩;simp only[RdC]at h1 ⊢;obtain⟨a,n,c,k1,k2,k3,k4,k5,k6⟩:=h1;refine⟨a,n,c,k1,k2,k3,k4,k5,fun hx=>?_⟩;obtain⟨b,o,q1,q2,q3⟩:=k6 hx;refine⟨b,o,q1,hI b q2,fun i y hi=>?_⟩;obtain⟨ys,p1,p2,rfl⟩:=q3 i y hi;refine⟨[.int .u8 y],p1,fun j hj=>?_,rfl⟩;have h0:=p2 j hj;have hw:(Ty.int .u8).wid=1:=rfl;have hj0:j=0:=by omega
 subst hj0;exact hu _ _ _ h0
theorem VL.hk {G':Gh}(hI:∀b,I b→I' b)(hu:By w w')(hG:∀i,i<N→(G' i).1=(G i).1):(l:L)→{v:Value}→VL I N G w l v→VL I' N G' w' (hkL l) v
 | .unk,_,_=>trivial
 | .nils,_,h=>h
 | .dat nn t x,v,h=>by
  simp only[hkL];by_cases hf:t.flat=true
  ·rw[if_pos hf];obtain⟨⟨cs,h1,h2⟩,h3⟩:=h;exact⟨⟨cs,flat_RdC t hf h1,h2⟩,h3⟩
  ·rw[if_neg hf];split
   ·exact⟨By.rd hI hu h.1,h.2⟩
   ·trivial
 | .cptr _ _,_,_=>trivial
 | .ref id,_,h=>⟨h.1,by rw[hG id h.1];exact h.2⟩
 | .optr id _ _,_,h=>⟨h.1,by rw[hG id h.1];exact h.2⟩
 | .bptr id _,_,h=>⟨h.1,by rw[hG id h.1];exact h.2⟩
 | .fn _,_,h=>h
 | .clo f ids,_,h=>by
  have e:(ids.map fun id=>(G' id).1)=ids.map fun id=>(G id).1:=List.map_congr_left fun id hi=>hG id (h.2 id hi).1;refine⟨by rw[e];exact h.1,fun id hi=>⟨(h.2 id hi).1,?_⟩⟩
  rw[hG id (h.2 id hi).1];exact(h.2 id hi).2
 | .und,_,h=>h
 | .sub id _ _ _,_,h=>⟨h.1,by rw[hG id h.1];exact h.2⟩
 | .full _ _,_,_=>trivial
theorem VLs.hk {G':Gh}(hI:∀b,I b→I' b)(hu:By w w')(hG:∀i,i<N→(G' i).1=(G i).1):(ls:List L)→{vs:List Value}→VLs I N G w ls vs→VLs I' N G' w' (ls.map hkL) vs
 | [],[],_=>trivial
 | l::ls,v::vs,h=>⟨⟨VL.hk hI hu hG l h.1.1,h.1.2⟩,VLs.hk hI hu hG ls h.2⟩
 | [],_::_,h=>h.elim
 | _::_,[],h=>h.elim
theorem VPs.hk {G':Gh}(hI:∀b,I b→I' b)(hu:By w w')(hG:∀i,i<N→(G' i).1=(G i).1):(ls:List (Bool×List L))→{vs:List Value}→VPs I N G w ls vs→VPs I' N G' w' (ls.map fun p=>(p.1,p.2.map hkL)) vs
 | [],[],_=>trivial
 | (true,l)::ls,v::vs,⟨⟨us,h1,h2⟩,h⟩=>⟨⟨us,h1,VLs.hk hI hu hG l h2⟩,VPs.hk hI hu hG ls h⟩
 | (false,l)::ls,v::vs,⟨⟨x,h1,h2⟩,h⟩=>⟨⟨hkL x,by rw[h1];rfl,VL.hk hI hu hG x h2⟩,VPs.hk hI hu hG ls h⟩
 | [],_::_,h=>h.elim
 | (true,_)::_,[],h=>h.elim
 | (false,_)::_,[],h=>h.elim
theorem VA.hk {G':Gh}(hI:∀b,I b→I' b)(hu:By w w')(hG:∀i,i<N→(G' i).1=(G i).1):(x:A)→{v:Value}→VA I N G w x v→VA I' N G' w' (hkA x) v
 | .l l,_,h=>VL.hk hI hu hG l h
 | .a ls,_,⟨vs,h1,h2⟩=>⟨vs,h1,VLs.hk hI hu hG ls h2⟩
 | .t ps,_,⟨vs,h1,h2⟩=>⟨vs,h1,VPs.hk hI hu hG ps h2⟩
def OwnB (G:Gh)(σ:Sg)(id jd:Nat)(b:Nat):Prop:=∃j o,(j≠id∧j≠jd)∧σ.ob j=some o∧o.ro=false∧b∈(G j).2
def OwnHd (G:Gh)(σ:Sg)(id jd:Nat)(b:Nat):Prop:=∃j o,(j≠id∧j≠jd)∧σ.ob j=some o∧o.ro=false∧(G j).2.head? = some b
theorem OwnHd.own {id jd b:Nat}(h:OwnHd G σ id jd b):OwnB G σ id jd b:=by
 obtain⟨j,o,h1,h2,h3,h4⟩:=h;exact⟨j,o,h1,h2,h3,List.mem_of_mem_head? h4⟩
def rebE (E:En)(G:Gh)(σ:Sg)(a:Act)(w:World)(id jd:Nat)(F:Nat→Prop):En :=
 ⟨w,fun b=>Imm E G σ w b∨OwnB G σ id jd b,fun b=>OwnB G σ id jd b,fun b=>OwnHd G σ id jd b,fun t=>E.F t∨F t,fun t=>a.tmps.getD t undef,E.d⟩
def drop2 (σ:Sg)(id jd:Nat):Sg:=setHp (setHp σ id none) jd none
theorem drop2_ob {id jd i:Nat}{o:Ob}(hi:(drop2 σ id jd).ob i=some o):(i≠id∧i≠jd)∧σ.ob i=some o:=by
 unfold drop2 at hi;rw[ob_setHp]at hi;split at hi
 ·cases hi
 ·rename_i hc;rw[ob_setHp]at hi;split at hi
  ·cases hi
  ·rename_i hc2;have hl:=Sg.ob_lt hi;exact⟨⟨fun he=>hc2 ⟨he,he▸hl⟩,fun he=>hc ⟨he,by simpa[setHp]using he▸hl⟩⟩,hi⟩
theorem drop2_len (σ:Sg)(id jd:Nat):(drop2 σ id jd).hp.length=σ.hp.length:=by simp[drop2,setHp]
theorem rebase (h:RelG E G σ a w)(id jd:Nat)(F:Nat→Prop):RelG (rebE E G σ a w id jd F) G (drop2 σ id jd) a w:=by
 have hob:∀i o,(drop2 σ id jd).ob i=some o→(i≠id∧i≠jd)∧σ.ob i=some o:=fun i o hi=>drop2_ob hi;have k:Keep (Imm E G σ w) (Imm (rebE E G σ a w id jd F) G (drop2 σ id jd) w) σ.hp.length (drop2 σ id jd).hp.length G G w w :=
  ⟨fun b hb=>⟨hb.1,fun _=>.inl hb,fun i o hi hr=>hb.2.2 i o (hob i o hi).2 hr⟩,fun _ _=>rfl,by rw[drop2_len];exact Nat.le_refl _,fun _ _=>rfl⟩
 exact
  {defers:=h.defers
   len:=h.len
   env:=fun t x hx=>VA.keep k x (h.env t x hx)
   obs:=fun i o hi=>OR.keep k (Sg.ob_lt (hob i o hi).2) rfl o (h.obs i o (hob i o hi).2) fun _ _ _=>rfl
   nodup:=fun i o hi hr=>h.nodup i o (hob i o hi).2 hr
   range:=fun i o hi hr b hb=>⟨(h.range i o (hob i o hi).2 hr b hb).1,fun _=>⟨i,o,(hob i o hi).1,(hob i o hi).2,hr,hb⟩⟩
   hrange:=fun i o hi hr b hb _=>⟨i,o,(hob i o hi).1,(hob i o hi).2,hr,hb⟩
   disj:=fun i j o o' hi hr hj hr' hij=>h.disj i j o o' (hob i o hi).2 hr (hob j o' hj).2 hr' hij
   os:=rfl
   tape:=rfl
   output:=.refl _
   size:=Nat.le_refl _
   frame:=fun _ _ _=>rfl
   xa:=⟨fun b hb=>.inr hb,h.gl,fun b hb=>by
    obtain⟨j,o,_,h2,h3,h4⟩:=hb;exact h.gb h2 h3 b h4,fun b hb=>by
    obtain⟨j,o,_,h2,h3,h4⟩:=OwnHd.own hb;exact h.gb h2 h3 b h4⟩
   fixd:=fun _ _=>rfl }
theorem aside2 {id jd k:Nat} {F:Nat→Prop} {o:Ob} {G2:Gh} {σ2:Sg} {a2:Act} {w2:World} (h1:RelG E G σ a w) (ho:σ.ob k = some o) (hr:o.ro = false) (hk:k = id∨k = jd)
  (h2:RelG (rebE E G σ a w id jd F) G2 σ2 a2 w2):∀b∈(G k).2,w2.heap[b]? = w.heap[b]?:=fun b hb=>h2.frame b (h1.range k _ ho hr b hb).1 fun hx=>by
 obtain⟨j,o',k1,k2,k3,k4⟩:=OwnHd.own hx;exact h1.disj j k o' _ k2 k3 ho hr (fun he=>hk.elim (fun h=>k1.1 (he.trans h)) fun h=>k1.2 (he.trans h)) b k4 hb
theorem nest_back {id jd:Nat} {F:Nat→Prop} {e e' eb:TypeId} {t t':Ty} {y:List t.den} {y':List t'.den} {cs:List L} {G2:Gh} {σ2:Sg} {a2:Act} {w2 w3:World} (h1:RelG E G σ a w) (ho:σ.ob id = some (.own false true e t y)) (hj:σ.ob jd = some (.box false eb cs)) (hXH:∀ b,E.X b→E.H b)
  (h2:RelG (rebE E G σ a w id jd F) G2 σ2 a2 w2) (hn:σ.hp.length≤σ2.hp.length) (hgv:∀i,i<σ.hp.length→(G2 i).1=(G i).1) (mo:MarkOut w2 w3 (G id).2) (hv:OwnV (fun _=>False) w3 true e' t' y' (G id).1 (G id).2) (hu:By w2 w3) :
  RelG E (fun j=>if j=id then G id else if j=jd then G jd else G2 j) (setHp (setHp (hkS σ2) jd (some (.box false eb (cs.map Eng.holdL)))) id (some (.own false true e' t' y'))) a2 w3:=by
 have hB:w.heap.size≤w2.heap.size:=h2.size;have hBE:E.B≤w.heap.size:=h1.size;have hne:jd≠id:=fun he=>by subst he;rw[ho]at hj;cases hj
 have lid:=Sg.ob_lt ho;have ljd:=Sg.ob_lt hj;have old:∀k o,σ.ob k=some o→o.ro=false→∀b∈(G k).2,b<w.heap.size:=fun k o hk hr b hb=>(h1.range k _ hk hr b hb).1;have apart:∀k o,(k=id∨k=jd)→σ.ob k=some o→o.ro=false→∀b,OwnB G σ id jd b→b∉(G k).2:=fun k o hk hok hr b hb=>by
  obtain⟨j,o',k1,k2,k3,k4⟩:=hb;exact h1.disj j k o' _ k2 k3 hok hr (fun he=>hk.elim (fun h=>k1.1 (he.trans h)) fun h=>k1.2 (he.trans h)) b k4
 have toX:∀b,OwnB G σ id jd b→b<E.B→E.X b:=fun b hb hlt=>by
  obtain⟨j,o,_,k2,k3,k4⟩:=hb;exact(h1.range j o k2 k3 b k4).2 hlt
 have toH:∀b,OwnHd G σ id jd b→b<E.B→E.H b:=fun b hb hlt=>by
  obtain⟨j,o,_,k2,k3,k4⟩:=hb;exact h1.hrange j o k2 k3 b k4 hlt
 have hob:∀i o,(setHp (setHp (hkS σ2) jd (some (.box false eb (cs.map Eng.holdL)))) id (some (.own false true e' t' y'))).ob i=some o→o.ro=false∧((i=id∧o=.own false true e' t' y')∨(i=jd∧i≠id∧o=.box false eb (cs.map Eng.holdL))∨(i≠id∧i≠jd∧∃o1,σ2.ob i=some o1∧o1.ro=false∧hkO o1=some o)):=fun i o hi=>by
  rw[ob_setHp]at hi;by_cases hii:i=id
  ·subst hii;rw[if_pos ⟨rfl,by simp[setHp,hkS];omega⟩]at hi
   obtain rfl:=Option.some.inj hi;exact⟨rfl,.inl ⟨rfl,rfl⟩⟩
  ·rw[if_neg fun hx=>hii hx.1,ob_setHp]at hi;by_cases hij:i=jd
   ·subst hij;rw[if_pos ⟨rfl,by simp[hkS];omega⟩]at hi
    obtain rfl:=Option.some.inj hi;exact⟨rfl,.inr (.inl ⟨rfl,hii,rfl⟩)⟩
   ·rw[if_neg fun hx=>hij hx.1]at hi;have hi:((σ2.hp.map fun o=>o.bind hkO)[i]?).join=some o:=hi;rw[List.getElem?_map]at hi;obtain⟨o1,k1,k2⟩:∃o1,σ2.ob i=some o1∧hkO o1=some o:=by
     unfold Sg.ob;cases hx:σ2.hp[i]? with
     | none=>rw[hx]at hi;simp at hi
     | some x =>
      rw[hx]at hi;cases x with
      | none=>simp at hi
      | some o1=>exact⟨o1,rfl,by simpa using hi⟩
    have hr:o1.ro=false∧o.ro=false:=by
     unfold hkO at k2;split at k2
     ·obtain rfl:=Option.some.inj k2;exact⟨rfl,rfl⟩
     ·split at k2
      ·obtain rfl:=Option.some.inj k2;exact⟨rfl,rfl⟩
      ·simp at k2
     ·obtain rfl:=Option.some.inj k2;exact⟨rfl,rfl⟩
     ·simp at k2
    exact⟨hr.2,.inr (.inr ⟨hii,hij,o1,k1,hr.1,k2⟩)⟩
 have far:∀k o,(k=id∨k=jd)→σ.ob k=some o→o.ro=false→∀i o1,σ2.ob i=some o1→o1.ro=false→∀b∈(G2 i).2,b∉(G k).2:=fun k o hk hok hr i o1 k1 k2 b hb hc=>by
  have:=(h2.range i o1 k1 k2 b hb).2 (old k o hok hr b hc);exact apart k o hk hok hr b this hc
 have hdij:∀b∈(G jd).2,b∉(G id).2:=h1.disj jd id _ _ hj rfl ho rfl hne;have g1:(fun j=>if j=id then G id else if j=jd then G jd else G2 j) id=G id:=by simp
 have g2:(fun j=>if j=id then G id else if j=jd then G jd else G2 j) jd=G jd:=by simp[hne]
 have g3:∀i,i≠id→i≠jd→(fun j=>if j=id then G id else if j=jd then G jd else G2 j) i=G2 i:=fun i h h'=>by simp[h,h']
 generalize hG3:(fun j=>if j=id then G id else if j=jd then G jd else G2 j)=G3 at g1 g2 g3;have hI:∀b,Imm (rebE E G σ a w id jd F) G2 σ2 w2 b→Imm E G3 (setHp (setHp (hkS σ2) jd (some (.box false eb (cs.map Eng.holdL)))) id (some (.own false true e' t' y'))) w3 b:=fun b hb=>by
  refine⟨Nat.lt_of_lt_of_le hb.1 mo.size,fun hlt=>?_,fun i o hi hr hh=>?_⟩
  ·rcases hb.2.1 (Nat.lt_of_lt_of_le hlt hBE)with h | h
   ·exact h.2.1 hlt
   ·exact h1.xa.a b (toX b h hlt)
  ·obtain⟨_,k⟩:=hob i o hi;rcases k with⟨rfl,_⟩ | ⟨rfl,_,_⟩ | ⟨hne1,hne2,o1,k1,k2,_⟩
   ·rw[g1]at hh;have hm:=List.mem_of_mem_head? hh;rcases hb.2.1 (old _ _ ho rfl b hm)with h | h
    ·exact h.2.2 i _ ho rfl hh
    ·exact apart _ _ (.inl rfl) ho rfl b h hm
   ·rw[g2]at hh;have hm:=List.mem_of_mem_head? hh;rcases hb.2.1 (old _ _ hj rfl b hm)with h | h
    ·exact h.2.2 i _ hj rfl hh
    ·exact apart _ _ (.inr rfl) hj rfl b h hm
   ·rw[g3 i hne1 hne2]at hh;exact hb.2.2 i o1 k1 k2 hh
 have hG:∀i,i<σ2.hp.length→(G3 i).1=(G2 i).1:=fun i _=>by
  by_cases hi:i=id
  ·subst hi;rw[g1];exact(hgv _ lid).symm
  ·by_cases hi2:i=jd
   ·subst hi2;rw[g2];exact(hgv _ ljd).symm
   ·rw[g3 i hi hi2]
 have hlen:(setHp (setHp (hkS σ2) jd (some (.box false eb (cs.map Eng.holdL)))) id (some (.own false true e' t' y'))).hp.length=σ2.hp.length:=by simp[hkS,setHp]
 refine { defers := h2.defers, len := ?_, env := fun i x hx => ?_, obs := fun i o hi => ?_, nodup := fun i o hi hr => ?_, range := fun i o hi hr b hb => ?_, hrange := fun i o hi hr b hb hlt => ?_, disj := fun i j o o' hi hr hj' hr' hij b hb hc => ?_,
          os:=(mo.os.trans h2.os).trans h1.os,tape:=(mo.tape.trans h2.tape).trans h1.tape,output:=(mo.output.to.trans h2.output).trans h1.output,size:=Nat.le_trans hBE (Nat.le_trans hB mo.size),frame:=fun b hb hH=>?_,xa:=h1.xa,fixd:=fun s hs=>?_ }
 ·rw[h2.len];simp[hkS]
 ·rw[hlen];simp only[setHp_env,hkS,List.getElem?_map]at hx;obtain⟨x1,k1,rfl⟩:=Option.map_eq_some_iff.1 hx;exact VA.hk hI hu hG x1 (h2.env i x1 k1)
 ·rw[hlen];obtain⟨_,k⟩:=hob i o hi;rcases k with⟨rfl,rfl⟩ | ⟨rfl,_,rfl⟩ | ⟨hne1,hne2,o1,k1,k2,k3⟩
  ·simp only[OR,g1];exact hv.alone (.inl rfl)
  ·have hb0:=h1.obs i _ hj;simp only[OR,Bool.false_eq_true,if_false]at hb0 ⊢;obtain⟨b,arr,q1,q2,q3,q4⟩:=hb0;rw[g2];have hm:b∈(G i).2:=by rw[q4];simp
   refine⟨b,arr,q1,?_,?_,q4⟩
   ·rw[mo.frame b (Nat.lt_of_lt_of_le (old _ _ hj rfl b hm) hB) (hdij b hm),aside2 h1 hj rfl (.inr rfl) h2 b hm];exact q2
   ·have k1:=VLs.holdL (I':=fun _=>False) (w':=w) _ q3;exact k1.keep (N':=σ2.hp.length) (G':=G3) (w':=w3) ⟨fun _ hf=>hf.elim,fun _ hf=>hf.elim,hn,fun k hk=>by rw[hG k (Nat.lt_of_lt_of_le hk hn)];exact hgv k hk⟩ _
  ·have hb:∀b∈(G2 i).2,w3.heap[b]? = w2.heap[b]?:=fun b hb=>mo.frame b (h2.range i o1 k1 k2 b hb).1 (far id _ (.inl rfl) ho rfl i o1 k1 k2 b hb);have ho1:=h2.obs i o1 k1;have g3':=g3 i hne1 hne2;unfold hkO at k3;split at k3
   ·obtain rfl:=Option.some.inj k3;simp only[OR,g3']at ho1 ⊢;have:=(ho1.alone (I':=fun _=>False) (.inl rfl)).keep (I':=fun _=>False) (w':=w3) (fun b hb=>hb.elim) hb;exact this.alone (.inl rfl)
   ·split at k3
    ·rename_i hf;obtain rfl:=Option.some.inj k3;simp only[OR,g3']at ho1 ⊢;have:=(ho1.alone (I':=fun _=>False) (.inr hf)).keep (I':=fun _=>False) (w':=w3) (fun b hb=>hb.elim) hb;exact this.alone (.inr hf)
    ·simp at k3
   ·obtain rfl:=Option.some.inj k3;simp only[OR,g3']at ho1 ⊢;obtain⟨b,arr,q1,q2,q3,q4⟩:=ho1;simp only[Bool.false_eq_true,if_false]at q4 ⊢;exact⟨b,arr,q1,by rw[hb b (by rw[q4];simp)];exact q2,VLs.hk hI hu hG _ q3,q4⟩
   ·simp at k3
 ·obtain⟨_,k⟩:=hob i o hi;rcases k with⟨rfl,_⟩ | ⟨rfl,_,_⟩ | ⟨hne1,hne2,o1,k1,k2,_⟩
  ·rw[g1];exact h1.nodup i _ ho rfl
  ·rw[g2];exact h1.nodup i _ hj rfl
  ·rw[g3 i hne1 hne2];exact h2.nodup i o1 k1 k2
 ·obtain⟨_,k⟩:=hob i o hi;rcases k with⟨rfl,_⟩ | ⟨rfl,_,_⟩ | ⟨hne1,hne2,o1,k1,k2,_⟩
  ·rw[g1]at hb;exact⟨Nat.lt_of_lt_of_le (old _ _ ho rfl b hb) (Nat.le_trans hB mo.size),(h1.range i _ ho rfl b hb).2⟩
  ·rw[g2]at hb;exact⟨Nat.lt_of_lt_of_le (old _ _ hj rfl b hb) (Nat.le_trans hB mo.size),(h1.range i _ hj rfl b hb).2⟩
  ·rw[g3 i hne1 hne2]at hb;have:=h2.range i o1 k1 k2 b hb;exact⟨Nat.lt_of_lt_of_le this.1 mo.size,fun hlt=>toX b (this.2 (Nat.lt_of_lt_of_le hlt hBE)) hlt⟩
 ·obtain⟨_,k⟩:=hob i o hi;rcases k with⟨rfl,_⟩ | ⟨rfl,_,_⟩ | ⟨hne1,hne2,o1,k1,k2,_⟩
  ·rw[g1]at hb;exact h1.hrange i _ ho rfl b hb hlt
  ·rw[g2]at hb;exact h1.hrange i _ hj rfl b hb hlt
  ·rw[g3 i hne1 hne2]at hb;exact toH b (h2.hrange i o1 k1 k2 b hb (Nat.lt_of_lt_of_le hlt hBE)) hlt
 ·obtain⟨_,k⟩:=hob i o hi;obtain⟨_,k'⟩:=hob j o' hj';rcases k with⟨rfl,_⟩ | ⟨rfl,_,_⟩ | ⟨hne1,hne2,o1,k1,k2,_⟩
  ·rw[g1]at hb;rcases k' with⟨rfl,_⟩ | ⟨rfl,_,_⟩ | ⟨hne1',hne2',o2,q1,q2,_⟩
   ·exact hij rfl
   ·rw[g2]at hc;exact hdij b hc hb
   ·rw[g3 j hne1' hne2']at hc;exact far _ _ (.inl rfl) ho rfl j o2 q1 q2 b hc hb
  ·rw[g2]at hb;rcases k' with⟨rfl,_⟩ | ⟨rfl,_,_⟩ | ⟨hne1',hne2',o2,q1,q2,_⟩
   ·rw[g1]at hc;exact hdij b hb hc
   ·exact hij rfl
   ·rw[g3 j hne1' hne2']at hc;exact far _ _ (.inr rfl) hj rfl j o2 q1 q2 b hc hb
  ·rw[g3 i hne1 hne2]at hb;rcases k' with⟨rfl,_⟩ | ⟨rfl,_,_⟩ | ⟨hne1',hne2',o2,q1,q2,_⟩
   ·rw[g1]at hc;exact far _ _ (.inl rfl) ho rfl i o1 k1 k2 b hb hc
   ·rw[g2]at hc;exact far _ _ (.inr rfl) hj rfl i o1 k1 k2 b hb hc
   ·rw[g3 j hne1' hne2']at hc;exact h2.disj i j o1 o2 k1 k2 q1 q2 hij b hb hc
 ·have hm:b∉(G id).2:=fun hm=>hH (hXH b ((h1.range id _ ho rfl b hm).2 hb));rw[mo.frame b (Nat.lt_of_lt_of_le hb (Nat.le_trans hBE hB)) hm,←h1.frame b hb hH];exact h2.frame b (Nat.lt_of_lt_of_le hb hBE) fun hx=>hH (toH b hx hb)
 ·rw[←h1.fixd s hs];exact h2.fixd s (.inl hs)
end
open Go
set_option linter.all false
abbrev HT:Ty:=.prod (.list (.int .i64)) (.int .i64)
section
variable {w:World}
theorem By.row {b j:Nat}{cur:Array Value}{e:TypeId}{n0:Int}{u:Value}(hh:w.heap[b]? = some (.cells cur e (0,0)))(hj:cur[j]? = some (.int .i64 n0)):By w (w.setRow b (cur.toList.set j u).toArray):=fun b1 o n h=>by
 by_cases hb:b1=b
 ·subst hb;rw[cellEq hh]at h;rw[cellEq (setRow_heap w b1 cur _ e _ hh)];by_cases ho:o=j
  ·subst ho;rw[hj]at h;cases h
  ·simp only[List.getElem?_toArray,List.getElem?_set];rw[if_neg fun hx=>ho hx.symm,Array.getElem?_toList];exact h
 ·rw[←h];exact World.cell?_of_block (setRow_other w b b1 _ hb)
theorem row_out {b:Nat}{bs:List Nat}(hb:b∈bs)(arr:Array Value):MarkOut w (w.setRow b arr) bs :=
 ⟨rfl,rfl,⟨rfl,fun _=>Nat.le_refl _⟩,by simp,fun x hx hxb=>setRow_other w b x _ fun hxe=>hxb (hxe▸hb)⟩
theorem write_bound {e:TypeId} {y:List HT.den} {v:Value} {bs:List Nat} (h:OwnV (fun _=>False) w true e HT y v bs) (hn:bs.Nodup) {i:Nat} {q:HT.den} (hi:y[i]? = some q) :
  ∃b c cur,v=.slice (some ⟨b,0,none⟩) y.length c∧w.heap[b]? = some (.cells cur e (0,0))∧i*2+1<cur.size ∧
   ∀n:Int,OwnV (fun _=>False) (w.setRow b (cur.toList.set (i*2+1) (.int .i64 n)).toArray) true e HT (y.set i (q.1,n)) v bs∧MarkOut w (w.setRow b (cur.toList.set (i*2+1) (.int .i64 n)).toArray) bs∧By w (w.setRow b (cur.toList.set (i*2+1) (.int .i64 n)).toArray):=by
 obtain⟨b,c,cur,ys,bi,e1,e2,e3,e4,e5,e6,e7,e8,e9,_,e11⟩:=h.elem2 hn hi;have hw:HT.wid=2:=rfl;rw[hw]at e3 e4 e11;have e5':=e5;simp only[DpC]at e5';obtain⟨c1,c2,b1,b2,rfl,rfl,h1,rfl,rfl⟩:=e5';obtain⟨aa,nn,cc,rfl,_⟩:=h1;have h3:=e3 1 (by omega)
 have hcell:cur[i*2+1]? = some (.int .i64 q.2):=h3;have hlt:=(Array.getElem?_eq_some_iff.1 hcell).1;refine⟨b,c,cur,e1,e2,hlt,fun n=>?_⟩;have hs:setInt HT q 1 n=some (q.1,n):=rfl;obtain⟨s1,s2⟩:=setInt_some HT e5 hs;exact⟨e11 (q.1,n) 1 (.int .i64 n) (by omega) s2,row_out e9 _,By.row e2 hcell⟩
theorem write_inner {e:TypeId} {y:List HT.den} {v:Value} {bs:List Nat} (h:OwnV (fun _=>False) w true e HT y v bs) (hn:bs.Nodup) {i j:Nat} {q:HT.den} {n0:Int} (hi:y[i]? = some q) (hj:q.1[j]? = some n0) :
  ∃b c cur b' c' cur' e',v=.slice (some ⟨b,0,none⟩) y.length c∧b∈bs∧w.heap[b]? = some (.cells cur e (0,0))∧cur[i*2]? = some (.slice (some ⟨b',0,none⟩) q.1.length c')∧w.heap[b']? = some (.cells cur' e' (0,0))∧j<cur'.size ∧
   ∀n:Int,OwnV (fun _=>False) (w.setRow b' (cur'.toList.set j (.int .i64 n)).toArray) true e HT (y.set i (q.1.set j n,q.2)) v bs∧MarkOut w (w.setRow b' (cur'.toList.set j (.int .i64 n)).toArray) bs∧By w (w.setRow b' (cur'.toList.set j (.int .i64 n)).toArray):=by
 obtain⟨b,c,cur,ys,bi,e1,e2,e3,e4,e5,e6,e7,e8,e9,e10,_⟩:=h.elem2 hn hi;have hw:HT.wid=2:=rfl;rw[hw]at e3 e4;have e5':=e5;simp only[DpC]at e5';obtain⟨c1,c2,b1,b2,rfl,rfl,h1,rfl,rfl⟩:=e5';rw[List.append_nil]at e6 e7 e8 e10;have hc1:∃u,c1=[u]:=by
  obtain⟨aa,nn,cc,rfl,_⟩:=h1;exact⟨_,rfl⟩
 obtain⟨u,rfl⟩:=hc1;have hd:DpC 0 w (.list (.int .i64)) q.1 [u] b1:=by simp only[DpC];exact h1
 obtain⟨e',ho,heo⟩:=hd.own;obtain⟨b',c',cur',zs,bj,f1,f2,f3,f4,f5,f6,f7,f8,f9,_,f11⟩:=ho.elem2 e6 hj;have hw1:(Ty.int .i64).wid=1:=rfl;rw[hw1]at f3 f4 f11;have f5':=f5;simp only[DpC]at f5';obtain⟨rfl,_⟩:=f5';have g3:=f3 0 (by omega)
 rw[show j*1+0=j from by omega]at g3
 have hcell:cur'[j]? = some (.int .i64 n0):=g3;have hlt:=(Array.getElem?_eq_some_iff.1 hcell).1;have hhead:cur[i*2]? = some u:=e3 0 (by omega)
 refine⟨b,c,cur,b',c',cur',e',e1,e9,e2,by rw[hhead,f1],f2,hlt,fun n=>?_⟩
 obtain⟨s1,s2⟩:=setInt_some (.int .i64) (x:=n0) (x':=n) (j:=0) (n:=n) f5 rfl;have h11:=f11 n 0 (.int .i64 n) s1 s2;rw[show j*1+0=j from by omega]at h11
 have mo:MarkOut w (w.setRow b' (cur'.toList.set j (.int .i64 n)).toArray) b1:=row_out f9 _;have hq:=h11.dpC (.inl rfl) heo;refine⟨e10 _ (q.1.set j n,q.2) mo ?_,mo.mono e8,By.row f2 hcell⟩;simp only[DpC];simp only[DpC]at hq;exact⟨[u],[.int .i64 q.2],b1,[],rfl,by simp,hq,rfl,rfl⟩
end
open Go
set_option linter.all false
def dep (o:Oper)(j:Nat):Bool:=o.after.toList.any fun e=>Region.binds .any e&&e.on==j
def lastOk (ops:Array Oper)(o:Oper):Bool :=
 (List.range ops.size).all (fun j=>dep o j||(List.range ops.size).any fun k=>decide (j<k)&&(match ops[k]? with
  | some o'=>dep o' j
  | none=>false))&&o.after.toList.all (fun e=>!Region.binds .any e||decide (e.on<ops.size))&&o.guard.isNone
def preOk (ops:Array Oper):Bool :=
 Region.noSelect ops&&(List.range ops.size).all fun i=>match ops[i]? with
  | some o=>o.after.toList.all (fun e=>!Region.binds .any e||decide (e.on<i))&&(match o.guard with
   | none=>true
   | some (g,_)=>decide (g<ops.size))
  | none=>false
def Shp (ops:Array Oper):Prop:=(∀(j:Nat) (oj:Oper),ops[j]? = some oj→∀e∈oj.after,Region.binds .any e=true→e.on<j)∧∀(j:Nat) (oj:Oper) g b,ops[j]? = some oj→oj.guard=some (g,b)→g<ops.size
section
variable {P:Program}{a:Act}{w:World}
theorem lastOk_spec {ops:Array Oper}{o:Oper}(h:lastOk ops o=true):(∀listed:Array Bool,Cl ops listed→(∀e∈o.after,Region.binds .any e=true→listed.getD e.on false=true)→∀j,j<ops.size→listed.getD j false=true)∧(∀e∈o.after,Region.binds .any e=true→e.on<ops.size)∧o.guard=none:=by
 unfold lastOk at h;simp only[Bool.and_eq_true,List.all_eq_true,List.mem_range,Bool.or_eq_true,Bool.not_eq_true',decide_eq_true_eq,Option.isNone_iff_eq_none]at h;obtain⟨⟨h1,h2⟩,h3⟩:=h;have hd:∀{o:Oper} {j:Nat},dep o j=true→∃e∈o.after,Region.binds .any e=true∧e.on=j:=fun{o j} hd=>by
  unfold dep at hd;simp only[List.any_eq_true,Bool.and_eq_true,beq_iff_eq]at hd;obtain⟨e,he,hb,hj⟩:=hd;exact⟨e,Array.mem_toList_iff.1 he,hb,hj⟩
 refine⟨fun listed hcl hdir=>?_,fun e he hb=>?_,h3⟩
 ·have key:∀(m j:Nat),ops.size-j≤m→j<ops.size→listed.getD j false=true:=by
   intro m;induction m with
   | zero=>intro j h1 h2;omega
   | succ m ih =>
    intro j hm hj;rcases h1 j hj with h | h
    ·obtain⟨e,he,hb,rfl⟩:=hd h;exact hdir e he hb
    ·simp only[List.any_eq_true,List.mem_range,Bool.and_eq_true,decide_eq_true_eq]at h;obtain⟨k,hk,hjk,hdep⟩:=h;have hl:=ih k (by omega) hk
     obtain⟨o',ho'⟩:∃o',ops[k]? = some o':=⟨ops[k],Array.getElem?_eq_getElem hk⟩;rw[ho']at hdep;obtain⟨e,he,hb,rfl⟩:=hd hdep;exact hcl k o' hl ho' e (Array.mem_toList_iff.2 he) hb
  exact fun j hj=>key _ j (Nat.le_refl _) hj
 ·rcases h2 e (Array.mem_toList_iff.2 he)with h | h
  ·rw[hb]at h;cases h
  ·exact h
theorem preOk_spec {ops:Array Oper}(h:preOk ops=true):Region.noSelect ops=true∧Shp ops:=by
 unfold preOk at h;simp only[Bool.and_eq_true,List.all_eq_true,List.mem_range]at h;obtain⟨h1,h2⟩:=h;refine⟨h1,fun j oj hj e he hb=>?_,fun j oj g b hj hg=>?_⟩
 ·have:=h2 j (Array.getElem?_eq_some_iff.1 hj).1;rw[hj]at this;simp only[Bool.and_eq_true,List.all_eq_true,Bool.or_eq_true,Bool.not_eq_true',decide_eq_true_eq]at this;rcases this.1 e (Array.mem_toList_iff.2 he)with h | h
  ·rw[hb]at h;cases h
  ·exact h
 ·have:=h2 j (Array.getElem?_eq_some_iff.1 hj).1;rw[hj]at this;simp only[Bool.and_eq_true,hg,decide_eq_true_eq]at this;exact this.2
theorem Shp.push {ops:Array Oper}{o:Oper}(h:Shp ops)(hl:lastOk ops o=true):Shp (ops.push o):=by
 obtain⟨_,l2,l3⟩:=lastOk_spec hl;have key:∀(j:Nat) (oj:Oper),(ops.push o)[j]? = some oj→(j<ops.size∧ops[j]? = some oj)∨(j=ops.size∧oj=o):=fun j oj hj=>by
  rw[Array.getElem?_push]at hj;split at hj
  ·rename_i he;exact .inr ⟨he,(Option.some.inj hj).symm⟩
  ·exact .inl ⟨(Array.getElem?_eq_some_iff.1 hj).1,hj⟩
 refine⟨fun j oj hj e he hb=>?_,fun j oj g b hj hg=>?_⟩
 ·rcases key j oj hj with⟨_,k⟩ | ⟨rfl,rfl⟩
  ·exact h.1 j oj k e he hb
  ·exact l2 e he hb
 ·rcases key j oj hj with⟨_,k⟩ | ⟨rfl,rfl⟩
  ·have:=h.2 j oj g b k hg;rw[Array.size_push];omega
  ·rw[l3]at hg;cases hg
theorem tail_step {ops:Array Oper} {o:Oper} (hs:Shp ops) (hl:lastOk ops o = true) {R S:Act→World→Prop} (hstep:∀ a w,R a w→wpOp P (ops.push o) (fun e a w=>e = .normal∧S a w) ops.size S a w)
  (h:wpAny P .any ops (fun e a w=>e=.normal∧R a w) ops.size (Array.replicate ops.size false) a w):wpAny P .any (ops.push o) (fun e a w=>e=.normal∧S a w) (ops.push o).size (Array.replicate (ops.push o).size false) a w:=by
 obtain⟨l1,l2,l3⟩:=lastOk_spec hl;have:=split_last (P:=P) (Q1:=fun e a w=>e=.normal∧R a w) (Q:=fun e a w=>e=.normal∧S a w) l1 l2 hs.1 hs.2 (fun e a w h=>h.1) (fun a w h=>wpOp_mono (fun a w h=>⟨rfl,h⟩) (hstep a w h.2)) ops.size (Array.replicate ops.size false) a w (by simp) (fun x o hx ho=>by
  have hlt:=(Array.getElem?_eq_some_iff.1 ho).1;simp[Array.getD_eq_getD_getElem?,hlt]at hx) h
 rw[Array.size_push,Array.replicate_succ];exact this
theorem wpOp_val {ops:Array Oper}{n:Nat}{o:Oper}{Q:Exit→Act→World→Prop}{K:Act→World→Prop}{u:Value}(ho:ops[n]? = some o)(hg:o.guard=none)(hr:(execOp a.eval o).run P w=.ok (.value u) w)(hk:K (a.put o.dst u) w):wpOp P ops Q n K a w:=by
 unfold wpOp;rw[ho];simp only[Region.wanted,hg,if_true];left;unfold Oper.wp;rw[hr];exact hk
theorem wpOp_skip {ops:Array Oper}{n:Nat}{o:Oper}{Q:Exit→Act→World→Prop}{K:Act→World→Prop}{w':World}(ho:ops[n]? = some o)(hg:o.guard=none)(hr:(execOp a.eval o).run P w=.ok .skip w')(hk:K (a.put o.dst undef) w'):wpOp P ops Q n K a w:=by
 unfold wpOp;rw[ho];simp only[Region.wanted,hg,if_true];left;unfold Oper.wp;rw[hr];exact hk
theorem eval_same {d:Tmp}{v:Value}(h:d<a.tmps.size):(a.put (some d) v).eval (.tmp d)=v:=by
 simp[Act.put,Act.eval,Array.getElem?_setIfInBounds,h]
theorem eval_other {d t:Tmp}{v:Value}(h:t≠d):(a.put (some d) v).eval (.tmp t)=a.eval (.tmp t):=by
 have hne:d≠t:=fun hx=>h hx.symm;simp[Act.put,Act.eval,Array.getElem?_setIfInBounds,hne]
end
def nestS (σ:Sg)(id jd:Nat)(eb:TypeId)(cs:List L)(e:TypeId)(y:List HT.den)(t1 t2:Tmp):Sg :=
 let s:=setHp (setHp (hkS σ) jd (some (.box false eb (cs.map holdL)))) id (some (.own false true e HT y))
 {s with env:=(s.env.set t1 (.l .unk)).set t2 (.l .unk) }
def tailB {ρ:Type}(C:Ctx)(id jd:Nat)(eb:TypeId)(cs:List L)(e:TypeId)(y:List HT.den)(oA oF oS:Oper)(σ:Sg)(K:Sg→Option ρ):Option ρ :=
 match oA.op,oA.dst,oF.op,oF.dst,oS.op,oS.dst with
 | .indexAddr tS (.tmp x) (.const (.int .i64 i)),some tA,.fieldAddr s (.tmp tA') f,some tF,.store ty (.tmp tF') (.tmp tv),none =>
  match elT C tS,C.P.underlying s,getA σ (.tmp x),getA σ (.tmp tv)with
  | some eT,some (.struct fs),.l (.ref id'),.l (.dat _ (.int .i64) (n:Int)) =>
   match fs[f]? with
   | some fd=>match szT C fd.type with
    | some (_ + 1)=>if id' = id∧tA' = tA∧tF' = tF∧tA≠tF∧tv≠tA∧tv≠tF∧tA < σ.env.length∧tF < σ.env.length∧szT C eT = some 2∧fd.offset = 1∧szT C ty = some 1 then
      (inIdx y.length i).bind fun _=>(y[i.toNat]?).bind fun q=>K (nestS σ id jd eb cs e (y.set i.toNat (q.1,n)) tA tF)
     else none
    | _=>none
   | none=>none
  | _,_,_,_=>none
 | _,_,_,_,_,_=>none
section
variable {ρ:Type}{C:Ctx}{E:En}{G:Gh}{σ:Sg}{a:Act}{w:World}
theorem aside {id jd:Nat} {F:Nat→Prop} {e:TypeId} {t:Ty} {y:List t.den} {G2:Gh} {σ2:Sg} {a2:Act} {w2:World} (h1:RelG E G σ a w) (ho:σ.ob id = some (.own false true e t y))
  (h2:RelG (rebE E G σ a w id jd F) G2 σ2 a2 w2):OwnV (fun _=>False) w2 true e t y (G id).1 (G id).2∧∀b∈(G id).2,w2.heap[b]? = w.heap[b]?:=by
 have hb:=aside2 h1 ho rfl (.inl rfl) h2;have hor:=h1.obs id _ ho;simp only[OR]at hor;exact⟨(hor.alone (I':=fun _=>False) (.inl rfl)).keep (I':=fun _=>False) (fun b hb=>hb.elim) hb,hb⟩
theorem tailB_some {id jd:Nat} {F:Nat→Prop} {eb:TypeId} {cs:List L} {e:TypeId} {y:List HT.den} {G2:Gh} {σ2:Sg} {a2:Act} {w2:World} {oA oF oS:Oper} {K:Sg→Option ρ} {r:ρ} (h1:RelG E G σ a w) (ho:σ.ob id = some (.own false true e HT y)) (hj:σ.ob jd = some (.box false eb cs)) (hXH:∀ b,E.X b→E.H b)
  (h2:RelG (rebE E G σ a w id jd F) G2 σ2 a2 w2) (hln:σ.hp.length≤σ2.hp.length) (hgv:∀i,i<σ.hp.length→(G2 i).1=(G i).1) (hFA:∀t,oA.dst=some t→¬E.F t) (hFF:∀t,oF.dst=some t→¬E.F t) (hk:tailB C id jd eb cs e y oA oF oS σ2 K=some r) :
  ∃u1 u2 w3 σ3 G3,(execOp a2.eval oA).run C.P w2=.ok (.value u1) w2∧(execOp (a2.put oA.dst u1).eval oF).run C.P w2=.ok (.value u2) w2∧(execOp ((a2.put oA.dst u1).put oF.dst u2).eval oS).run C.P w2=.ok .skip w3 ∧
   K σ3=some r∧RelG E G3 σ3 (((a2.put oA.dst u1).put oF.dst u2).put oS.dst undef) w3:=by
 obtain⟨dA,opA,_,_,_,_⟩:=oA;obtain⟨dF,opF,_,_,_,_⟩:=oF;obtain⟨dS,opS,_,_,_,_⟩:=oS;unfold tailB at hk;simp only at hk hFA hFF;split at hk
 ·rename_i tS x i tA s tA' f tF ty tF' tv;split at hk
  ·rename_i eT fs id' nn n he hs hx hv;split at hk
   ·rename_i fd hfd;split at hk
    ·rename_i m hsz;split at hk
     ·rename_i hc;obtain⟨rfl,rfl,rfl,hne,hv1,hv2,hlA,hlF,hs2,hoff,hs1⟩:=hc;unfold inIdx at hk;split at hk
      ·rename_i hin;simp only[Option.bind_some]at hk;obtain⟨q,hq,hk⟩:=Option.bind_eq_some_iff.1 hk;obtain⟨hown,hsame⟩:=aside h1 ho h2;obtain⟨b,c,cur,e1,e2,e3,e4⟩:=write_bound hown (h1.nodup _ _ ho rfl) hq;obtain⟨q1,q2,q3⟩:=e4 n;have hxv:a2.eval (.tmp x)=(G id').1:=by
        have:=h2.get (.tmp x);rw[hx]at this;rw[this.2.1,hgv _ (Sg.ob_lt ho)]
       have hvv:a2.eval (.tmp tv)=.int .i64 n:=by
        have:=h2.get (.tmp tv);rw[hv]at this;exact datInt this
       have hsz2:a2.tmps.size=σ2.env.length:=h2.len;have hso:=run_sizeOf hsz w2;have hci:a2.eval (.const (.int .i64 i))=.int .i64 i:=rfl;have lA:tA'<a2.tmps.size:=by rw[hsz2];exact hlA
       have lF:tF'<(a2.put (some tA') (.pointer (some ⟨b,i.toNat*2,none⟩))).tmps.size:=by
        rw[show(a2.put (some tA') (.pointer (some ⟨b,i.toNat*2,none⟩))).tmps.size=a2.tmps.size from by simp[Act.put],hsz2]
        exact hlF
       have eA:(a2.put (some tA') (.pointer (some ⟨b,i.toNat*2,none⟩))).eval (.tmp tA')=.pointer (some ⟨b,i.toNat*2,none⟩):=eval_same lA;have eF:((a2.put (some tA') (.pointer (some ⟨b,i.toNat*2,none⟩))).put (some tF') (.pointer (some ⟨b,i.toNat*2+1,none⟩))).eval (.tmp tF')=.pointer (some ⟨b,i.toNat*2+1,none⟩):=eval_same lF;have eV:((a2.put (some tA') (.pointer (some ⟨b,i.toNat*2,none⟩))).put (some tF') (.pointer (some ⟨b,i.toNat*2+1,none⟩))).eval (.tmp tv)=.int .i64 n:=by rw[eval_other hv2,eval_other hv1];exact hvv
       have hrun:=run_storeVar (C:=C) (w:=w2) (t:=ty) (o:=i.toNat*2+1) (v:=.int .i64 n) e2 (by simpa[Value.cells]using hs1) (by simp[Value.cells];omega) (by simp[Value.cells,Value.oneCell'])
       have hset:(cur.toList.take (i.toNat*2+1)++(Value.int IntKind.i64 n).cells.toList++cur.toList.drop (i.toNat*2+1+(Value.int IntKind.i64 n).cells.size))=cur.toList.set (i.toNat*2+1) (.int .i64 n):=by
        rw[List.set_eq_take_append_cons_drop,if_pos (by simpa using e3)]
        simp[Value.cells]
       rw[hset]at hrun;have hback:=nest_back h1 ho hj hXH h2 hln hgv q2 q1 q3;refine⟨.pointer (some ⟨b,i.toNat*2,none⟩),.pointer (some ⟨b,i.toNat*2+1,none⟩),w2.setRow b (cur.toList.set (i.toNat*2+1) (.int .i64 n)).toArray,_,(fun j=>if j=id' then G id' else if j=jd then G jd else G2 j),?_,?_,?_,hk,?_⟩
       ·simp[execOp,hxv,hci,e1,Instr.indexAt,run_underlying (elT_some he),asIntOf,hin.1,hin.2,run_sizeOf hs2,add_none]
       ·simp[execOp,eA,Instr.fieldAt,run_underlying hs,hfd,Instr.sureAddr,fieldPlace,hso,add_none,hoff]
       ·simp[execOp,eF,eV,hrun]
       ·exact(hback.put tA' (x:=.l .unk) trivial (hFA tA' rfl)).put tF' (x:=.l .unk) trivial (hFF tF' rfl)
      ·cases hk
     ·cases hk
    ·cases hk
   ·cases hk
  ·cases hk
 ·cases hk
end
open Go
set_option linter.all false
def tailI {ρ:Type}(C:Ctx)(id jd:Nat)(eb:TypeId)(cs:List L)(e:TypeId)(y:List HT.den)(i:Nat)(th:Tmp)(oI oS:Oper)(σ:Sg)(K:Sg→Option ρ):Option ρ :=
 match oI.op,oI.dst,oS.op,oS.dst with
 | .indexAddr t2 (.tmp th') (.const (.int .i64 j)),some tI,.store ty (.tmp tI') (.tmp tv),none =>
  match elT C t2,getA σ (.tmp tv)with
  | some eT,.l (.dat _ (.int .i64) (n:Int))=>if th' = th∧tI' = tI∧tv≠tI∧tI < σ.env.length∧szT C eT = some 1∧szT C ty = some 1 then
    (y[i]?).bind fun q=>(inIdx q.1.length j).bind fun _=>K (nestS σ id jd eb cs e (y.set i (q.1.set j.toNat n,q.2)) tI tI)
   else none
  | _,_=>none
 | _,_,_,_=>none
def chainI {ρ:Type}(C:Ctx)(id:Nat)(y:List HT.den)(oA oF oL:Oper)(σ:Sg)(K:Nat→Tmp→Sg→Option ρ):Option ρ :=
 match oA.op,oA.dst,oF.op,oF.dst,oL.op,oL.dst with
 | .indexAddr tS (.tmp x) (.const (.int .i64 i)),some tA,.fieldAddr s (.tmp tA') f,some tF,.load tl (.tmp tF'),some th =>
  match elT C tS,C.P.underlying s,getA σ (.tmp x)with
  | some eT,some (.struct fs),.l (.ref id') =>
   match fs[f]? with
   | some fd=>match szT C fd.type with
    | some (_ + 1)=>if id' = id∧tA' = tA∧tF' = tF∧tA < σ.env.length∧tF < σ.env.length∧th < σ.env.length∧szT C eT = some 2∧fd.offset = 0∧isAggT C tl = some false then
      (inIdx y.length i).bind fun _=>K i.toNat th { σ with env:=((σ.env.set tA (.l .unk)).set tF (.l .unk)).set th (.l .unk) }
     else none
    | _=>none
   | none=>none
  | _,_,_=>none
 | _,_,_,_,_,_=>none
section
variable {ρ:Type}{C:Ctx}{E:En}{G:Gh}{σ:Sg}{a:Act}{w:World}
theorem RelG.refix (h:RelG E G σ a w){F:Nat→Prop}{V:Nat→Value}(hf:∀t,F t→a.tmps.getD t undef=V t):RelG { E with F:=F,V:=V } G σ a w :=
 {defers:=h.defers,len:=h.len,env:=h.env,obs:=h.obs,nodup:=h.nodup,range:=h.range,hrange:=h.hrange,disj:=h.disj,os:=h.os,tape:=h.tape,output:=h.output,size:=h.size,frame:=h.frame,xa:=⟨h.xa.a,h.xa.gl,h.xa.gx,h.xa.gh⟩,fixd:=hf }
theorem chainI_some {id:Nat} {e:TypeId} {y:List HT.den} {G1:Gh} {E1:En} {oA oF oL:Oper} {K:Nat→Tmp→Sg→Option ρ} {r:ρ} {v:Value} {bs:List Nat} (h:RelG E1 G1 σ a w) (hg:(G1 id).1 = v) (hv:OwnV (fun _=>False) w true e HT y v bs) (hn:bs.Nodup)
  (hF:∀t,oA.dst=some t∨oF.dst=some t∨oL.dst=some t→¬E1.F t) (hk:chainI C id y oA oF oL σ K=some r) :
  ∃u1 u2 u3 i th σ3,(∀w2:World,(execOp a.eval oA).run C.P w2=.ok (.value u1) w2)∧(∀w2:World,(execOp (a.put oA.dst u1).eval oF).run C.P w2=.ok (.value u2) w2) ∧
   (∃b∈bs,∀w2:World,w2.heap[b]? = w.heap[b]?→(execOp ((a.put oA.dst u1).put oF.dst u2).eval oL).run C.P w2=.ok (.value u3) w2)∧K i th σ3=some r∧RelG E1 G1 σ3 (((a.put oA.dst u1).put oF.dst u2).put oL.dst u3) w∧σ3.hp=σ.hp ∧
   oL.dst=some th∧th<a.tmps.size∧(∃b n c,v=.slice (some ⟨b,0,none⟩) n c∧b∈bs∧w.cell? ⟨b,i*2,none⟩=some u3):=by
 obtain⟨dA,opA,_,_,_,_⟩:=oA;obtain⟨dF,opF,_,_,_,_⟩:=oF;obtain⟨dL,opL,_,_,_,_⟩:=oL;unfold chainI at hk;simp only at hk hF;split at hk
 ·rename_i tS x i tA s tA' f tF tl tF' th;split at hk
  ·rename_i eT fs id' he hs hx;split at hk
   ·rename_i fd hfd;split at hk
    ·rename_i m hsz;split at hk
     ·rename_i hc;obtain⟨rfl,rfl,rfl,hlA,hlF,hlT,hs2,hoff,hag⟩:=hc;unfold inIdx at hk;split at hk
      ·rename_i hin;simp only[Option.bind_some]at hk;obtain⟨q,hq⟩:∃q,y[i.toNat]? = some q:=⟨y[i.toNat]'(by omega),List.getElem?_eq_getElem (by omega)⟩
       obtain⟨b,c,cur,ys,bi,e1,e2,e3,e4,e5,e6,e7,e8,e9,_⟩:=hv.elem2 hn hq;have hw:HT.wid=2:=rfl;rw[hw]at e3 e4;obtain⟨u,hu⟩:∃u,ys[0]? = some u:=⟨ys[0]'(by omega),List.getElem?_eq_getElem (by omega)⟩
       have hcur:cur[i.toNat*2]? = some u:=by have:=e3 0 (by omega);rw[Nat.add_zero]at this;rw[this,hu]
       have hxv:a.eval (.tmp x)=v:=by
        have:=h.get (.tmp x);rw[hx]at this;rw[this.2.1,hg]
       have hsz2:a.tmps.size=σ.env.length:=h.len;have hci:a.eval (.const (.int .i64 i))=.int .i64 i:=rfl;have lA:tA'<a.tmps.size:=by rw[hsz2];exact hlA
       have lF:tF'<(a.put (some tA') (.pointer (some ⟨b,i.toNat*2,none⟩))).tmps.size:=by
        rw[show(a.put (some tA') (.pointer (some ⟨b,i.toNat*2,none⟩))).tmps.size=a.tmps.size from by simp[Act.put],hsz2]
        exact hlF
       have eA:(a.put (some tA') (.pointer (some ⟨b,i.toNat*2,none⟩))).eval (.tmp tA')=.pointer (some ⟨b,i.toNat*2,none⟩):=eval_same lA;have eF:((a.put (some tA') (.pointer (some ⟨b,i.toNat*2,none⟩))).put (some tF') (.pointer (some ⟨b,i.toNat*2,none⟩))).eval (.tmp tF')=.pointer (some ⟨b,i.toNat*2,none⟩):=eval_same lF;refine⟨.pointer (some ⟨b,i.toNat*2,none⟩),.pointer (some ⟨b,i.toNat*2,none⟩),u,i.toNat,th,_,fun w2=>?_,fun w2=>?_,⟨b,e9,fun w2 hw2=>?_⟩,hk,?_,rfl,rfl,by rw[hsz2];exact hlT,b,_,c,e1,e9,by rw[cellEq e2];exact hcur⟩
       ·simp[execOp,hxv,hci,e1,Instr.indexAt,run_underlying (elT_some he),asIntOf,hin.1,hin.2,run_sizeOf hs2,add_none]
       ·have hso:=run_sizeOf hsz w2;simp[execOp,eA,Instr.fieldAt,run_underlying hs,hfd,Instr.sureAddr,fieldPlace,hso,add_none,hoff]
       ·have hcell:w2.cell? ⟨b,i.toNat*2,none⟩=some u:=by rw[cellEq (hw2.trans e2)];exact hcur
        simp[execOp,eF,Instr.loadAt,Instr.sureAddr,loadVar,isAggT_run hag w2,load,Sem.run,hcell]
       ·exact((h.put tA' (x:=.l .unk) trivial (hF tA' (.inl rfl))).put tF' (x:=.l .unk) trivial (hF tF' (.inr (.inl rfl)))).put th (x:=.l .unk) trivial (hF th (.inr (.inr rfl)))
      ·cases hk
     ·cases hk
    ·cases hk
   ·cases hk
  ·cases hk
 ·cases hk
theorem tailI_some {id jd:Nat} {F:Nat→Prop} {eb:TypeId} {cs:List L} {e:TypeId} {y:List HT.den} {G2:Gh} {σ2:Sg} {a2:Act} {w2:World} {oI oS:Oper} {i:Nat} {th:Tmp} {K:Sg→Option ρ} {r:ρ} (h1:RelG E G σ a w) (ho:σ.ob id = some (.own false true e HT y)) (hj:σ.ob jd = some (.box false eb cs)) (hXH:∀ b,E.X b→E.H b)
  (h2:RelG (rebE E G σ a w id jd F) G2 σ2 a2 w2) (hln:σ.hp.length≤σ2.hp.length) (hgv:∀i,i<σ.hp.length→(G2 i).1=(G i).1) (hFI:∀t,oI.dst=some t→¬E.F t) (hth:∃b n c,(G id).1=.slice (some ⟨b,0,none⟩) n c∧w2.cell? ⟨b,i*2,none⟩=some (a2.eval (.tmp th))) (hk:tailI C id jd eb cs e y i th oI oS σ2 K=some r) :
  ∃u1 w3 σ3 G3,(execOp a2.eval oI).run C.P w2=.ok (.value u1) w2∧(execOp (a2.put oI.dst u1).eval oS).run C.P w2=.ok .skip w3∧K σ3=some r∧RelG E G3 σ3 ((a2.put oI.dst u1).put oS.dst undef) w3:=by
 obtain⟨dI,opI,_,_,_,_⟩:=oI;obtain⟨dS,opS,_,_,_,_⟩:=oS;unfold tailI at hk;simp only at hk hFI;split at hk
 ·rename_i t2 th' j tI ty tI' tv;split at hk
  ·rename_i eT nn n he hv;split at hk
   ·rename_i hc;obtain⟨rfl,rfl,hv1,hlI,hs1,hs2⟩:=hc;obtain⟨q,hq,hk⟩:=Option.bind_eq_some_iff.1 hk;unfold inIdx at hk;split at hk
    ·rename_i hin;simp only[Option.bind_some]at hk;obtain⟨hown,hsame⟩:=aside h1 ho h2;obtain⟨n0,hn0⟩:∃n0,q.1[j.toNat]? = some n0:=⟨q.1[j.toNat]'(by omega),List.getElem?_eq_getElem (by omega)⟩
     obtain⟨b,c,cur,b',c',cur',e',e1,eb,e2,e3,e4,e5,e6⟩:=write_inner hown (h1.nodup _ _ ho rfl) hq hn0;obtain⟨q1,q2,q3⟩:=e6 n;obtain⟨b0,n1,c1,g1,g2⟩:=hth;rw[e1]at g1;simp only[Value.slice.injEq,Option.some.injEq,Addr.mk.injEq,and_true]at g1;obtain⟨rfl,_,_⟩:=g1;rw[cellEq e2,e3]at g2;have hxv:a2.eval (.tmp th')=.slice (some ⟨b',0,none⟩) q.1.length c':=(Option.some.inj g2).symm;have hvv:a2.eval (.tmp tv)=.int .i64 n:=by
      have:=h2.get (.tmp tv);rw[hv]at this;exact datInt this
     have hsz2:a2.tmps.size=σ2.env.length:=h2.len;have hci:a2.eval (.const (.int .i64 j))=.int .i64 j:=rfl;have lI:tI'<a2.tmps.size:=by rw[hsz2];exact hlI
     have eI:(a2.put (some tI') (.pointer (some ⟨b',j.toNat,none⟩))).eval (.tmp tI')=.pointer (some ⟨b',j.toNat,none⟩):=eval_same lI;have eV:(a2.put (some tI') (.pointer (some ⟨b',j.toNat,none⟩))).eval (.tmp tv)=.int .i64 n:=by rw[eval_other hv1];exact hvv
     have hrun:=run_storeVar (C:=C) (w:=w2) (t:=ty) (o:=j.toNat) (v:=.int .i64 n) e4 (by simpa[Value.cells]using hs2) (by simp[Value.cells];omega) (by simp[Value.cells,Value.oneCell'])
     have hset:(cur'.toList.take j.toNat++(Value.int IntKind.i64 n).cells.toList++cur'.toList.drop (j.toNat+(Value.int IntKind.i64 n).cells.size))=cur'.toList.set j.toNat (.int .i64 n):=by
      rw[List.set_eq_take_append_cons_drop,if_pos (by simpa using e5)]
      simp[Value.cells]
     rw[hset]at hrun;have hback:=nest_back h1 ho hj hXH h2 hln hgv q2 q1 q3;refine⟨.pointer (some ⟨b',j.toNat,none⟩),w2.setRow b' (cur'.toList.set j.toNat (.int .i64 n)).toArray,_,(fun k=>if k=id then G id else if k=jd then G jd else G2 k),?_,?_,hk,?_⟩
     ·simp[execOp,hxv,hci,Instr.indexAt,run_underlying (elT_some he),asIntOf,hin.1,hin.2,run_sizeOf hs1,add_none]
     ·simp[execOp,eI,eV,hrun]
     ·have:=(hback.put tI' (x:=.l .unk) (v:=.pointer (some ⟨b',j.toNat,none⟩)) trivial (hFI tI' rfl));have h3:=this.put tI' (x:=.l .unk) (v:=.pointer (some ⟨b',j.toNat,none⟩)) trivial (hFI tI' rfl);have hpp:(a2.put (some tI') (.pointer (some ⟨b',j.toNat,none⟩))).put (some tI') (.pointer (some ⟨b',j.toNat,none⟩))=a2.put (some tI') (.pointer (some ⟨b',j.toNat,none⟩)):=by
       simp[Act.put,Array.setIfInBounds_setIfInBounds]
      rw[hpp]at h3;exact h3
    ·cases hk
   ·cases hk
  ·cases hk
 ·cases hk
end
open Go
set_option linter.all false
def chain0 {ρ:Type}(C:Ctx)(bx fl id:Nat)(o0 o1:Oper)(σ:Sg)(K:Sg→Option ρ):Option ρ :=
 match o0.op,o0.dst,o1.op,o1.dst with
 | .fieldAddr s (.tmp bx') f,some t0,.load tl (.tmp t0'),some t1 =>
  match C.P.underlying s with
  | some (.struct fs)=>match fs[f]? with
   | some fd=>match szT C fd.type with
    | some (_ + 1)=>if bx' = bx∧t0' = t0∧fd.offset = fl∧t0 < σ.env.length∧t1 < σ.env.length∧isAggT C tl = some false then
      K { σ with env:=(σ.env.set t0 (.l .unk)).set t1 (.l (.ref id)) }
     else none
    | _=>none
   | none=>none
  | _=>none
 | _,_,_,_=>none
section
variable {ρ:Type}{C:Ctx}{E:En}{G:Gh}{σ:Sg}{a:Act}{w:World}
theorem VLs.at_ {I:Nat→Prop}{N:Nat}:(ls:List L)→{vs:List Value}→{j:Nat}→{l:L}→VLs I N G w ls vs→ls[j]? = some l→∃v,vs[j]? = some v∧VL I N G w l v
 | [],vs,j,l,_,hj=>by simp at hj
 | x::ls,[],j,l,h,_=>h.elim
 | x::ls,v::vs,0,l,h,hj=>by
  simp only[List.getElem?_cons_zero,Option.some.injEq]at hj;subst hj;exact⟨v,rfl,h.1.1⟩
 | x::ls,v::vs,j+1,l,h,hj=>by
  rw[List.getElem?_cons_succ]at hj ⊢;exact VLs.at_ ls h.2 hj
theorem chain0_some {id jd bx fl:Nat} {eb:TypeId} {cs:List L} {E1:En} {σ1:Sg} {o0 o1:Oper} {K:Sg→Option ρ} {r:ρ} (h1:RelG E G σ a w) (hj:σ.ob jd = some (.box false eb cs)) (hb:getA σ (.tmp bx) = .l (.bptr jd 0)) (hc:cs[fl]? = some (.ref id)) (h:RelG E1 G σ1 a w) (hid:id < σ1.hp.length)
  (hF:∀t,o0.dst=some t∨o1.dst=some t→¬E1.F t) (hk:chain0 C bx fl id o0 o1 σ1 K=some r) :
  ∃u0 u1 σ3,(∀w2:World,(execOp a.eval o0).run C.P w2=.ok (.value u0) w2)∧(∃b∈(G jd).2,∀w2:World,w2.heap[b]? = w.heap[b]?→(execOp (a.put o0.dst u0).eval o1).run C.P w2=.ok (.value u1) w2)∧K σ3=some r∧RelG E1 G σ3 ((a.put o0.dst u0).put o1.dst u1) w∧σ3.hp=σ1.hp:=by
 obtain⟨d0,op0,_,_,_,_⟩:=o0;obtain⟨d1,op1,_,_,_,_⟩:=o1;unfold chain0 at hk;simp only at hk hF;split at hk
 ·rename_i s bx' f t0 tl t0' t1;split at hk
  ·rename_i fs hs;split at hk
   ·rename_i fd hfd;split at hk
    ·rename_i m hsz;split at hk
     ·rename_i hcc;obtain⟨rfl,rfl,rfl,hl0,hl1,hag⟩:=hcc;have hbox:=h1.obs jd _ hj;simp only[OR,Bool.false_eq_true,if_false]at hbox;obtain⟨b,arr,q1,q2,q3,q4⟩:=hbox;have hbv:=h1.get (.tmp bx');rw[hb]at hbv;obtain⟨_,b2,p1,p2⟩:=hbv;rw[q1]at p1;simp only[Value.pointer.injEq,Option.some.injEq,Addr.mk.injEq,and_true]at p1;subst p1;obtain⟨u,hu1,hu2⟩:=VLs.at_ cs q3 hc;rw[Array.getElem?_toList]at hu1;obtain⟨_,hu3,hu4⟩:=hu2;have l0:t0'<a.tmps.size:=by rw[h.len];exact hl0
      have e0:(a.put (some t0') (.pointer (some ⟨b,fd.offset,none⟩))).eval (.tmp t0')=.pointer (some ⟨b,fd.offset,none⟩):=eval_same l0;refine⟨.pointer (some ⟨b,fd.offset,none⟩),u,_,fun w2=>?_,⟨b,by rw[q4];simp,fun w2 hw2=>?_⟩,hk,?_,rfl⟩
      ·have hso:=run_sizeOf hsz w2;simp[execOp,p2,Instr.fieldAt,run_underlying hs,hfd,Instr.sureAddr,fieldPlace,hso,add_none]
      ·have hcell:w2.cell? ⟨b,fd.offset,none⟩=some u:=by rw[cellEq (hw2.trans q2)];exact hu1
       simp[execOp,e0,Instr.loadAt,Instr.sureAddr,loadVar,isAggT_run hag w2,load,Sem.run,hcell]
      ·exact(h.put t0' (x:=.l .unk) trivial (hF t0' (.inl rfl))).put t1 (x:=.l (.ref id)) ⟨hid,hu3,hu4⟩ (hF t1 (.inr rfl))
     ·cases hk
    ·cases hk
   ·cases hk
  ·cases hk
 ·cases hk
end
open Go
set_option linter.all false
structure NW where
 rg:Nat
 bx:Nat
 fl:Nat
 ch:List Nat
 oc:List Nat
def findN (rg:Nat):List NW→Option NW
 | []=>none
 | b::r=>if b.rg=rg then some b else findN rg r
def asideId (σ:Sg)(nw:NW):Option (Nat×TypeId×List L×Nat) :=
 match getA σ (.tmp nw.bx)with
 | .l (.bptr jd 0)=>match σ.ob jd with
  | some (.box false eb cs)=>match cs[nw.fl]? with
   | some (.ref id)=>some (jd,eb,cs,id)
   | _=>none
  | _=>none
 | _=>none
theorem asideId_some {σ:Sg}{nw:NW}{jd id:Nat}{eb:TypeId}{cs:List L}(h:asideId σ nw=some (jd,eb,cs,id)):getA σ (.tmp nw.bx)=.l (.bptr jd 0)∧σ.ob jd=some (.box false eb cs)∧cs[nw.fl]? = some (.ref id):=by
 unfold asideId at h;split at h
 ·rename_i jd' hb;split at h
  ·rename_i eb' cs' ho;split at h
   ·rename_i id' hc;simp only[Option.some.injEq,Prod.mk.injEq]at h;obtain⟨rfl,rfl,rfl,rfl⟩:=h;exact⟨hb,ho,hc⟩
   ·cases h
  ·cases h
 ·cases h
def chOk (ops:Array Oper)(listed:Array Bool)(i:Nat)(o:Oper):Bool:=(Region.ready .any ops listed).contains i&&Region.free .any ops listed i&&o.guard.isNone
def regionN {ρ:Type}(C:Ctx)(nw:NW)(ops:Array Oper)(σ:Sg)(K:Sg→Option ρ):Option ρ :=
 match asideId σ nw with
 | some (jd,eb,cs,id)=>match σ.ob id with
  | some (.own false true e t y)=>(castT (.list t) (.list HT) y).bind fun y=>match nw.ch with
   | [c0,c1]=>match ops.toList.reverse with
    | oS::oF::oA::r=>match preOk r.reverse.toArray&&lastOk r.reverse.toArray oA&&lastOk (r.reverse.toArray.push oA) oF&&lastOk ((r.reverse.toArray.push oA).push oF) oS&&2+nw.oc.length==r.reverse.toArray.size with
     | true=>match r.reverse.toArray[c0]?,r.reverse.toArray[c1]? with
      | some o0,some o1=>match chOk r.reverse.toArray (Array.replicate r.reverse.toArray.size false) c0 o0&&chOk r.reverse.toArray ((Array.replicate r.reverse.toArray.size false).setIfInBounds c0 true) c1 o1 with
       | true=>chain0 C nw.bx nw.fl id o0 o1 (drop2 σ id jd) fun σ1 =>
        seqC C r.reverse.toArray (ancAll r.reverse.toArray.toList []) nw.oc (((Array.replicate r.reverse.toArray.size false).setIfInBounds c0 true).setIfInBounds c1 true) σ1 fun listed σ2=>match Region.ready .any r.reverse.toArray listed with
         | []=>tailB C id jd eb cs e y oA oF oS σ2 K
         | _=>none
       | false=>none
      | _,_=>none
     | false=>none
    | _=>none
   | [c0,c1,c2,c3,c4]=>match ops.toList.reverse with
    | oS::oI::r=>match preOk r.reverse.toArray&&lastOk r.reverse.toArray oI&&lastOk (r.reverse.toArray.push oI) oS&&5+nw.oc.length==r.reverse.toArray.size with
     | true=>match r.reverse.toArray[c0]?,r.reverse.toArray[c1]?,r.reverse.toArray[c2]?,r.reverse.toArray[c3]?,r.reverse.toArray[c4]? with
      | some o0,some o1,some o2,some o3,some o4 =>
       match chOk r.reverse.toArray (Array.replicate r.reverse.toArray.size false) c0 o0&&chOk r.reverse.toArray ((Array.replicate r.reverse.toArray.size false).setIfInBounds c0 true) c1 o1&&chOk r.reverse.toArray (((Array.replicate r.reverse.toArray.size false).setIfInBounds c0 true).setIfInBounds c1 true) c2 o2&&chOk r.reverse.toArray ((((Array.replicate r.reverse.toArray.size false).setIfInBounds c0 true).setIfInBounds c1 true).setIfInBounds c2 true) c3 o3&&chOk r.reverse.toArray (((((Array.replicate r.reverse.toArray.size false).setIfInBounds c0 true).setIfInBounds c1 true).setIfInBounds c2 true).setIfInBounds c3 true) c4 o4 with
       | true=>chain0 C nw.bx nw.fl id o0 o1 (drop2 σ id jd) fun σ1=>chainI C id y o2 o3 o4 σ1 fun i th σ2=>match nw.oc.all (fun j=>match r.reverse.toArray[j]? with
         | some o=>o.dst != some th
         | none=>false)with
        | true=>seqC C r.reverse.toArray (ancAll r.reverse.toArray.toList []) nw.oc ((((((Array.replicate r.reverse.toArray.size false).setIfInBounds c0 true).setIfInBounds c1 true).setIfInBounds c2 true).setIfInBounds c3 true).setIfInBounds c4 true) σ2 fun l5 σ3=>match Region.ready .any r.reverse.toArray l5 with
         | []=>tailI C id jd eb cs e y i th oI oS σ3 K
         | _=>none
        | false=>none
       | false=>none
      | _,_,_,_,_=>none
     | false=>none
    | _=>none
   | _=>none
  | _=>none
 | none=>none
section
variable {ρ:Type}{C:Ctx}{E:En}{G:Gh}{σ:Sg}{a:Act}{w:World}{ops:Array Oper}
theorem act_size (a:Act)(d:Option Tmp)(v:Value):(a.put d v).tmps.size=a.tmps.size:=by
 cases d<;>simp[Act.put]
theorem peel {P:Program} {Q:Exit→Act→World→Prop} (hQp:∀ c a w,¬ Q (.panic c) a w) (hnos:Region.noSelect ops = true) {i:Nat} {oi:Oper} {v:Value} (hi:ops[i]? = some oi) {I:Nat→Prop} {m:Nat} {listed:Array Bool} (hs:listed.size = ops.size) (hc:chOk ops listed i oi = true)
  (hrun:∀w2,Agr I w w2→(execOp a.eval oi).run P w2=.ok (.value v) w2) (h:wpW P ops Q I m (listed.setIfInBounds i true) (a.put oi.dst v) w):wpW P ops Q I (m+1) listed a w:=by
 unfold chOk at hc;simp only[Bool.and_eq_true,Option.isNone_iff_eq_none]at hc;obtain⟨⟨h1,h2⟩,h3⟩:=hc;have hr:i∈Region.ready .any ops listed:=by simpa using h1
 exact wpW_firstP (S:=Agr I w) (fun w1 w2 h1 h2=>h1.trans h2) hQp hi (Region.noSelect_spec hnos) m listed a w hs (Agr.refl _ _) (Region.free_spec hi h2) hr (.inl ⟨by simp[Region.wanted,h3],hrun⟩) h
theorem ops_of {ops:Array Oper}{r:List Oper}{l:List Oper}(h:ops.toList.reverse=l++r):ops=(r.reverse++l.reverse).toArray:=by
 have:ops.toList=r.reverse++l.reverse:=by
  have:=congrArg List.reverse h
  rwa [List.reverse_reverse,List.reverse_append]at this
 rw[←this]
theorem wsOk {E:En}(hF:∀o∈ops.toList,∀t,o.dst=some t→¬E.F t)(ord:List Nat):∀i∈ord,∀o,ops[i]? = some o→(∀t,o.dst=some t→t∈ops.toList.filterMap (·.dst)∧¬E.F t)∧∀j b t,o.guard=some (j,b)→(ops[j]?).bind (·.dst)=some t→t∈ops.toList.filterMap (·.dst):=fun i _ o ho=>by
 have hm:∀{i:Nat} {o:Oper},ops[i]? = some o→o∈ops.toList:=fun{i o} ho=>by rw[←Array.getElem?_toList]at ho;exact List.mem_of_getElem? ho
 refine⟨fun t ht=>⟨List.mem_filterMap.2 ⟨o,hm ho,ht⟩,hF o (hm ho) t ht⟩,fun j b t _ hj=>?_⟩;obtain⟨oj,h1,h2⟩:=Option.bind_eq_some_iff.1 hj;exact List.mem_filterMap.2 ⟨oj,hm h1,h2⟩
theorem chOk_ready {listed:Array Bool}{i:Nat}{o:Oper}(hc:chOk ops listed i o=true):i∈Region.ready .any ops listed:=by
 unfold chOk at hc;simp only[Bool.and_eq_true]at hc;simpa using hc.1.1
theorem regionN_some (hC:Ctrs E.d C) (hXH:∀ b,E.X b→E.H b) {nw:NW} {rid:Nat} {K:Sg→Option ρ} {r:ρ} (h:RelG E G σ a w) (hk:regionN C nw ops σ K = some r) (hF:∀ o∈ops.toList,∀ t,o.dst = some t→¬ E.F t) (Q:Exit→Act→World→Prop)
  (hQ:∀σ' a' w' G',K σ'=some r→RelG E G' σ' a' w'→Q .normal a' w'):(Code.region rid ops true).wp C.P Q a w:=by
 unfold regionN at hk;split at hk
 ·rename_i jd eb cs id hai;obtain⟨hbx,hj,hcs⟩:=asideId_some hai;split at hk
  ·rename_i e t y ho;have hk0:=hk;clear hk;obtain⟨y1,hc,hk⟩:=Option.bind_eq_some_iff.1 hk0;clear hk0;obtain⟨e1,hy⟩:=castT_some hc;have e3:t=HT:=by simpa using e1
   subst e3;have hy:y=y1:=hy;subst hy;have hidl:=Sg.ob_lt ho;refine wp_mono (Q:=fun e a w=>e=.normal∧Q .normal a w) ?_ fun e a w hq=>by obtain⟨rfl,hq⟩:=hq;exact hq
   refine wp_region_any hC.mixed ?_;have h':=h.ext (Ext.drew w);have hb:=rebase h' id jd fun _=>False;have hid0:id<(drop2 σ id jd).hp.length:=by rw[drop2_len];exact hidl
   have hln0:(drop2 σ id jd).hp.length=σ.hp.length:=drop2_len _ _ _;have hdE:(rebE E G σ a w.drew id jd fun _=>False).d=E.d:=rfl;have hEF:∀t,(rebE E G σ a w.drew id jd fun _=>False).F t→E.F t:=fun t ht=>by
    rcases ht with ht | ht
    ·exact ht
    ·exact ht.elim
   have hasd:∀{G2:Gh} {σ2:Sg} {a2:Act} {w2:World} {F:Nat→Prop},RelG (rebE E G σ a w.drew id jd F) G2 σ2 a2 w2→(OwnV (fun _=>False) w2 true e HT y (G id).1 (G id).2∧∀b∈(G id).2,w2.heap[b]? = w.drew.heap[b]?):=fun h2=>aside h' ho h2;have hfast:∀(k:Nat) (o:Ob),(k=id∨k=jd)→σ.ob k=some o→o.ro=false→∀{G2:Gh} {σ2:Sg} {w2:World},∀b∈(G k).2,Fast (rebE E G σ a w.drew id jd fun _=>False) G2 σ2 w2 b:=fun k o hk hok hr {G2 σ2 w2} b hb=>.inr ⟨(h'.range k _ hok hr b hb).1,fun hx=>by
    obtain⟨j,o',p1,p2,p3,p4⟩:=OwnHd.own hx;exact h'.disj j k o' _ p2 p3 hok hr (fun he=>hk.elim (fun h=>p1.1 (he.trans h)) fun h=>p1.2 (he.trans h)) b p4 hb⟩
   have hbackF:∀{F:Nat→Prop} {V:Nat→Value} {G2:Gh} {σ2:Sg} {a2:Act} {w2:World},RelG { (rebE E G σ a w.drew id jd fun _=>False)with F:=F,V:=V } G2 σ2 a2 w2→(∀t,(rebE E G σ a w.drew id jd fun _=>False).F t→F t∧V t=(rebE E G σ a w.drew id jd fun _=>False).V t)→RelG (rebE E G σ a w.drew id jd fun _=>False) G2 σ2 a2 w2:=fun{F V G2 σ2 a2 w2} h2 hfv=>by
    have:=h2.refix (F:=(rebE E G σ a w.drew id jd fun _=>False).F) (V:=(rebE E G σ a w.drew id jd fun _=>False).V) fun t ht=>by
     obtain⟨p1,p2⟩:=hfv t ht;rw[←p2];exact h2.fixd t p1
    exact this
   split at hk
   ·
    rename_i c0 c1 _;split at hk
    ·rename_i oS oF oA rl hrev;have hops:=ops_of (l:=[oS,oF,oA]) hrev;generalize hpre:rl.reverse.toArray=pre at hk;have hops:ops=((pre.push oA).push oF).push oS:=by rw[hops,←hpre];simp
     clear hrev;subst hops;split at hk
     ·rename_i hck;simp only[Bool.and_eq_true,beq_iff_eq]at hck;obtain⟨⟨⟨⟨k1,k2⟩,k3⟩,k4⟩,k5⟩:=hck;obtain⟨hnos,hshp⟩:=preOk_spec k1;have s1:=hshp.push k2;have s2:=s1.push k3;have hFp:∀o∈pre.toList,∀t,o.dst=some t→¬E.F t:=fun o ho=>hF o (by simp[ho])
      have hFA:∀t,oA.dst=some t→¬E.F t:=hF oA (by simp)
      have hFF:∀t,oF.dst=some t→¬E.F t:=hF oF (by simp)
      have hmem:∀{i:Nat} {o:Oper},pre[i]? = some o→o∈pre.toList:=fun{i o} ho=>by rw[←Array.getElem?_toList]at ho;exact List.mem_of_getElem? ho
      have hafter:∀(i:Nat) (o:Oper),pre[i]? = some o→∀e∈o.after.toList,Region.binds .any e=true→e.on<i:=fun i o ho e he hb=>hshp.1 i o ho e (Array.mem_toList_iff.1 he) hb;split at hk
      ·rename_i o0 o1 m0 m1;split at hk
       ·rename_i hch;simp only[Bool.and_eq_true]at hch;obtain⟨hch0,hch1⟩:=hch;refine tail_step s2 k4 (R:=fun a w=>∃w3,(execOp a.eval oS).run C.P w=.ok .skip w3∧Q .normal (a.put oS.dst undef) w3) (fun a w ⟨w3,q1,q2⟩=>wpOp_skip Array.getElem?_push_size (lastOk_spec k4).2.2 q1 q2) ?_;refine tail_step s1 k3 (R:=fun a w=>∃u,(execOp a.eval oF).run C.P w=.ok (.value u) w∧∃w3,(execOp (a.put oF.dst u).eval oS).run C.P w=.ok .skip w3∧Q .normal ((a.put oF.dst u).put oS.dst undef) w3) (fun a w ⟨u,q1,q2⟩=>wpOp_val Array.getElem?_push_size (lastOk_spec k3).2.2 q1 q2) ?_;refine tail_step hshp k2 (R:=fun a w=>∃u1,(execOp a.eval oA).run C.P w=.ok (.value u1) w∧∃u,(execOp (a.put oA.dst u1).eval oF).run C.P w=.ok (.value u) w∧∃w3,(execOp ((a.put oA.dst u1).put oF.dst u).eval oS).run C.P w=.ok .skip w3∧Q .normal (((a.put oA.dst u1).put oF.dst u).put oS.dst undef) w3) (fun a w ⟨u,q1,q2⟩=>wpOp_val Array.getElem?_push_size (lastOk_spec k2).2.2 q1 q2) ?_;refine wpW_any (I:=Fast (rebE E G σ a w.drew id jd fun _=>False) G (drop2 σ id jd) w.drew) _ _ _ _ ?_;generalize hl0:Array.replicate pre.size false=l0 at hk hch0 hch1 ⊢;have hs0:l0.size=pre.size:=by rw[←hl0];simp
        have hcl0:Cl pre l0:=fun x o hx ho=>by
         have hlt:=(Array.getElem?_eq_some_iff.1 ho).1;rw[←hl0]at hx;simp[Array.getD_eq_getD_getElem?,hlt]at hx
        have hsz:pre.size=(nw.oc.length+1)+1:=by omega
        rw[hsz];have hQp:∀c a w,¬(fun(e:Exit) (a:Act) (w:World)=>e=Exit.normal∧∃u1,(execOp a.eval oA).run C.P w=.ok (.value u1) w∧∃u,(execOp (a.put oA.dst u1).eval oF).run C.P w=.ok (.value u) w∧∃w3,(execOp ((a.put oA.dst u1).put oF.dst u).eval oS).run C.P w=.ok .skip w3∧Q .normal (((a.put oA.dst u1).put oF.dst u).put oS.dst undef) w3) (.panic c) a w:=fun c a w hp=>by cases hp.1
        obtain⟨u0,u1,σ3,r0,⟨bb,hbb,r1⟩,r2,r3,r4⟩:=chain0_some h' hj hbx hcs hb hid0 (fun t ht hf=>by
         rcases ht with ht | ht
         ·exact hFp o0 (hmem m0) t ht (hEF t hf)
         ·exact hFp o1 (hmem m1) t ht (hEF t hf)) hk
        refine peel hQp hnos m0 hs0 hch0 (fun w2 _=>r0 w2) ?_;refine peel hQp hnos m1 (by simpa using hs0) hch1 (fun w2 hw2=>r1 w2 (hw2 bb (hfast jd _ (.inr rfl) hj rfl bb hbb))) ?_
        refine seqC_some (E:=rebE E G σ a w.drew id jd fun _=>False) hC hnos hafter hQp 0 nw.oc (wsOk (fun o ho t ht hf=>hFp o ho t ht (hEF t hf)) nw.oc) (fun b hb=>?_) (by simpa using hs0) ((hcl0.set (chOk_ready hch0)).set (chOk_ready hch1)) r3 r2 fun listed' σ2 a2 w2 G2 q1 q2 q3 q4 q5 q6=>?_
        ·rcases hb with hb | hb
         ·exact .inl ⟨hb.1,hb.2.1,fun k o hk hr=>hb.2.2 k o (by unfold Sg.ob at hk ⊢;rw[←r4];exact hk) hr⟩
         ·exact .inr hb
        ·split at q1
         ·rename_i hr;refine⟨hr,rfl,?_⟩;have hln:σ.hp.length≤σ2.hp.length:=by have:=q5.n;rw[r4,hln0]at this;exact this
          have hgv:∀i,i<σ.hp.length→(G2 i).1=(G i).1:=fun i hi=>q6.g i (by rw[r4,hln0];exact hi)
          obtain⟨u1,u2,w3,σ3,G3,p1,p2,p3,p4,p5⟩:=tailB_some h' ho hj hXH q4 hln hgv hFA hFF q1;exact⟨u1,p1,u2,p2,w3,p3,hQ σ3 _ w3 G3 p4 p5⟩
         ·cases q1
       ·cases hk
      ·cases hk
     ·cases hk
    ·cases hk
   ·
    rename_i c0 c1 c2 c3 c4 _;split at hk
    ·rename_i oS oI rl hrev;have hops:=ops_of (l:=[oS,oI]) hrev;generalize hpre:rl.reverse.toArray=pre at hk;have hops:ops=(pre.push oI).push oS:=by rw[hops,←hpre];simp
     clear hrev;subst hops;split at hk
     ·rename_i hck;simp only[Bool.and_eq_true,beq_iff_eq]at hck;obtain⟨⟨⟨k1,k2⟩,k3⟩,k5⟩:=hck;obtain⟨hnos,hshp⟩:=preOk_spec k1;have s1:=hshp.push k2;have hFp:∀o∈pre.toList,∀t,o.dst=some t→¬E.F t:=fun o ho=>hF o (by simp[ho])
      have hFI:∀t,oI.dst=some t→¬E.F t:=hF oI (by simp)
      have hmem:∀{i:Nat} {o:Oper},pre[i]? = some o→o∈pre.toList:=fun{i o} ho=>by rw[←Array.getElem?_toList]at ho;exact List.mem_of_getElem? ho
      have hafter:∀(i:Nat) (o:Oper),pre[i]? = some o→∀e∈o.after.toList,Region.binds .any e=true→e.on<i:=fun i o ho e he hb=>hshp.1 i o ho e (Array.mem_toList_iff.1 he) hb;split at hk
      ·rename_i o0 o1 o2 o3 o4 m0 m1 m2 m3 m4;split at hk
       ·rename_i hch;simp only[Bool.and_eq_true]at hch;obtain⟨⟨⟨⟨hch0,hch1⟩,hch2⟩,hch3⟩,hch4⟩:=hch;refine tail_step s1 k3 (R:=fun a w=>∃w3,(execOp a.eval oS).run C.P w=.ok .skip w3∧Q .normal (a.put oS.dst undef) w3) (fun a w ⟨w3,q1,q2⟩=>wpOp_skip Array.getElem?_push_size (lastOk_spec k3).2.2 q1 q2) ?_;refine tail_step hshp k2 (R:=fun a w=>∃u,(execOp a.eval oI).run C.P w=.ok (.value u) w∧∃w3,(execOp (a.put oI.dst u).eval oS).run C.P w=.ok .skip w3∧Q .normal ((a.put oI.dst u).put oS.dst undef) w3) (fun a w ⟨u,q1,q2⟩=>wpOp_val Array.getElem?_push_size (lastOk_spec k2).2.2 q1 q2) ?_;refine wpW_any (I:=Fast (rebE E G σ a w.drew id jd fun _=>False) G (drop2 σ id jd) w.drew) _ _ _ _ ?_;generalize hl0:Array.replicate pre.size false=l0 at hk hch0 hch1 hch2 hch3 hch4 ⊢;have hs0:l0.size=pre.size:=by rw[←hl0];simp
        have hcl0:Cl pre l0:=fun x o hx ho=>by
         have hlt:=(Array.getElem?_eq_some_iff.1 ho).1;rw[←hl0]at hx;simp[Array.getD_eq_getD_getElem?,hlt]at hx
        have hsz:pre.size=((((nw.oc.length+1)+1)+1)+1)+1:=by omega
        rw[hsz];have hQp:∀c a w,¬(fun(e:Exit) (a:Act) (w:World)=>e=Exit.normal∧∃u,(execOp a.eval oI).run C.P w=.ok (.value u) w∧∃w3,(execOp (a.put oI.dst u).eval oS).run C.P w=.ok .skip w3∧Q .normal ((a.put oI.dst u).put oS.dst undef) w3) (.panic c) a w:=fun c a w hp=>by cases hp.1
        obtain⟨u0,u1,σ1,r0,⟨bb,hbb,r1⟩,r2,r3,r4⟩:=chain0_some h' hj hbx hcs hb hid0 (fun t ht hf=>by
         rcases ht with ht | ht
         ·exact hFp o0 (hmem m0) t ht (hEF t hf)
         ·exact hFp o1 (hmem m1) t ht (hEF t hf)) hk
        refine peel hQp hnos m0 hs0 hch0 (fun w2 _=>r0 w2) ?_;refine peel hQp hnos m1 (by simpa using hs0) hch1 (fun w2 hw2=>r1 w2 (hw2 bb (hfast jd _ (.inr rfl) hj rfl bb hbb))) ?_
        obtain⟨v1,v2,v3,i,th,σ3,t1,t2,⟨bh,hbh,t3⟩,t4,t5,hhp,t6,t7,b0,n0,c0',g1,g2,g3⟩:=chainI_some r3 rfl (hasd r3).1 (h'.nodup id _ ho rfl) (fun t ht hf=>by
         rcases ht with ht | ht | ht
         ·exact hFp o2 (hmem m2) t ht (hEF t hf)
         ·exact hFp o3 (hmem m3) t ht (hEF t hf)
         ·exact hFp o4 (hmem m4) t ht (hEF t hf)) r2
        refine peel hQp hnos m2 (by simpa using hs0) hch2 (fun w2 _=>t1 w2) ?_
        refine peel hQp hnos m3 (by simpa using hs0) hch3 (fun w2 _=>t2 w2) ?_
        refine peel hQp hnos m4 (by simpa using hs0) hch4 (fun w2 hw2=>t3 w2 (hw2 bh (hfast id _ (.inl rfl) ho rfl bh hbh))) ?_
        split at t4
        ·rename_i hoc;rw[List.all_eq_true]at hoc;have hcl:=((((hcl0.set (chOk_ready hch0)).set (chOk_ready hch1)).set (chOk_ready hch2)).set (chOk_ready hch3)).set (chOk_ready hch4);generalize ha4:((((a.put o0.dst u0).put o1.dst u1).put o2.dst v1).put o3.dst v2).put o4.dst v3=a4 at t5;have t5':RelG { (rebE E G σ a w.drew id jd fun _=>False)with F:=fun t=>(rebE E G σ a w.drew id jd fun _=>False).F t∨t=th,V:=fun t=>a4.tmps.getD t undef } G σ3 a4 w.drew:=t5.refix fun t _=>rfl;have hhp3:σ3.hp=(drop2 σ id jd).hp:=hhp.trans r4;have fin:=seqC_some (E:={ (rebE E G σ a w.drew id jd fun _=>False)with F:=fun t=>(rebE E G σ a w.drew id jd fun _=>False).F t∨t=th,V:=fun t=>a4.tmps.getD t undef }) hC hnos hafter (Q:=fun e a w=>e=.normal∧∃u,(execOp a.eval oI).run C.P w=.ok (.value u) w∧∃w3,(execOp (a.put oI.dst u).eval oS).run C.P w=.ok .skip w3∧Q .normal ((a.put oI.dst u).put oS.dst undef) w3) hQp 0 nw.oc (fun j hj o ho=>by
          have hw:=wsOk (E:=E) hFp nw.oc j hj o ho;refine⟨fun t ht=>⟨(hw.1 t ht).1,fun hf=>?_⟩,hw.2⟩;rcases hf with hf | hf
          ·exact(hw.1 t ht).2 (hEF t hf)
          ·have:=hoc j hj;rw[ho]at this;simp only[bne_iff_ne,ne_eq]at this;exact this (by rw[ht,hf])) (I:=Fast (rebE E G σ a w.drew id jd fun _=>False) G (drop2 σ id jd) w.drew) (fun b hb=>by
          rcases hb with hb | hb
          ·exact .inl ⟨hb.1,hb.2.1,fun k o hk hr=>hb.2.2 k o (by unfold Sg.ob at hk ⊢;rw[←hhp3];exact hk) hr⟩
          ·exact .inr hb) (by simpa using hs0) hcl t5' t4 fun l5 σ5 a5 w5 G5 p1 p2 p3 p4 p5 p6=>by
          split at p1
          ·rename_i hr;refine⟨hr,rfl,?_⟩;have p4':=hbackF p4 fun t ht=>⟨.inl ht,t5.fixd t ht⟩;have hln:σ.hp.length≤σ5.hp.length:=by have:=p5.n;rw[hhp3,hln0]at this;exact this
           have hgv:∀i,i<σ.hp.length→(G5 i).1=(G i).1:=fun i hi=>p6.g i (by rw[hhp3,hln0];exact hi)
           have hth:a5.eval (.tmp th)=v3:=by
            have e1:=p4.fixd th (.inr rfl);have e2:a4.eval (.tmp th)=v3:=by
             rw[←ha4,t6];exact eval_same (by simpa[act_size]using t7)
            have e1:a5.tmps.getD th undef=a4.tmps.getD th undef:=e1;simp only[Act.eval]at e2 ⊢;rw[←e2];simpa[Array.getD_eq_getD_getElem?]using e1
           have hcell:w5.cell? ⟨b0,i*2,none⟩=some (a5.eval (.tmp th)):=by
            rw[hth,←g3];exact World.cell?_of_block ((hasd p4').2 b0 g2)
           obtain⟨z1,w3,σ6,G6,y1,y2,y3,y4⟩:=tailI_some h' ho hj hXH p4' hln hgv hFI ⟨b0,n0,c0',g1,hcell⟩ p1;exact⟨z1,y1,w3,y2,hQ σ6 _ w3 G6 y3 y4⟩
          ·cases p1
         exact fin
        ·cases t4
       ·cases hk
      ·cases hk
     ·cases hk
    ·cases hk
   ·cases hk
  ·cases hk
 ·cases hk
end
open Go
set_option linter.all false
section
variable {ρ:Type}(C:Ctx)
noncomputable def topN (Ns:List NW):Code→(ρ:Type)→Sg→(AEx→Sg→Option ρ)→Option ρ
 | .region id ops true,ρ,σ,k=>match findN id Ns with
  | some nw=>regionN C nw ops σ fun σ=>k .normal σ
  | none=>codeK C (.region id ops true) ρ σ k
 | .seq a b,ρ,σ,k=>topN Ns a ρ σ fun e σ=>match e with
  | .normal=>topN Ns b ρ σ k
  | e=>k e σ
 | .cond c a b,ρ,σ,k=>match getA σ c with
  | .l (.dat _ .bool (cb:Bool))=>cond cb (topN Ns a ρ σ k) (topN Ns b ρ σ k)
  | _=>none
 | .block id c,ρ,σ,k=>topN Ns c ρ σ fun e σ=>match e with
  | .exit id'=>if id'=id then k .normal σ else k (.exit id') σ
  | e=>k e σ
 | c,ρ,σ,k=>codeK C c ρ σ k
noncomputable def funN (Ns:List NW)(fn:Func)(ps:List PM)(rs:List SK)(x:PMs.den ps):Option (ResB (hasIo ps) (SKs.den rs) (PMo.den ps)) :=
 match fn.body with
 | none=>none
 | some c =>
  let (as,σ):=encPs ⟨List.replicate fn.ntmps (.l .unk),[]⟩ ps x
  topN C Ns c _ { σ with env:=as++σ.env.drop as.length } fun e σ=>match e with
   | .exit _=>none
   | _=>resK C σ fn.results.toList fun vs=>ioK ps 0 (frzSs rs vs σ) fun o σ=>decSs rs vs σ fun r _=>some (resJ (hasIo ps) r o)
end
def isDC:PM→Bool
 | .d _ _=>true
 | .cur _=>true
 | _=>false
section
variable {ρ:Type}{C:Ctx}{E:En}{G:Gh}{σ:Sg}{a:Act}{w:World}{I:Nat→Prop}
theorem argDC_one {p:PM}{y:p.den}{v:Value}{bs:List Nat}(hd:isDC p=true)(h:ArgV I w p y v bs):bs.length≤1:=by
 cases p with
 | d nn t=>simp only[ArgV]at h;rw[h.2.2];simp
 | cur e=>simp only[ArgV,CurV]at h;obtain⟨b,arr,_,_,_,h⟩:=h;rw[h];simp
 | f f=>simp[isDC]at hd
 | mv dp e t=>simp[isDC]at hd
 | io dp e t=>simp[isDC]at hd
theorem argsDC_one:(ps:List PM)→{y:PMs.den ps}→{vs:List Value}→{bss:List (List Nat)}→ps.all isDC=true→ArgsV I w ps y vs bss→∀bs∈bss,bs.length≤1
 | [],y,[],bss,_,h,bs,hb=>by simp only[ArgsV]at h;subst h;simp at hb
 | [p],y,[v],bss,hd,h,bs,hb=>by
  obtain⟨bs',rfl,h⟩:=h;simp only[List.mem_singleton]at hb;subst hb;exact argDC_one (by simpa using hd) h
 | p::p'::r,y,v::vs,bss,hd,h,bs,hb=>by
  obtain⟨bs',rest,rfl,h1,h2⟩:=h;simp only[List.all_cons,Bool.and_eq_true]at hd;rcases List.mem_cons.1 hb with rfl | hb
  ·exact argDC_one hd.1 h1
  ·exact argsDC_one (p'::r) (by simp[hd.2]) h2 bs hb
 | [],_,_::_,_,_,hv,_,_=>hv.elim
 | [_],_,[],_,_,hv,_,_=>hv.elim
 | [_],_,_::_::_,_,_,hv,_,_=>hv.elim
 | _::_::_,_,[],_,_,hv,_,_=>hv.elim
theorem topN_some {Ns:List NW} (hC:Ctrs E.d C) (hXH:∀ b,E.X b→E.H b) (c:Code):(∀ t∈wrC c,¬ E.F t)→∀ {ρ:Type} {σ:Sg} {G:Gh} {a:Act} {w:World} {k:AEx→Sg→Option ρ} {r:ρ},RelG E G σ a w→topN C Ns c ρ σ k = some r→∀ (Q:Exit→Act→World→Prop),
  (∀e σ' a' w' G',k e σ'=some r→RelG E G' σ' a' w'→Q e.ex a' w')→c.wp C.P Q a w:=by
 have base:∀ c:Code,(∀ t∈wrC c,¬ E.F t)→∀ {ρ:Type} {σ:Sg} {G:Gh} {a:Act} {w:World} {k:AEx→Sg→Option ρ} {r:ρ},RelG E G σ a w→codeK C c ρ σ k = some r→∀ (Q:Exit→Act→World→Prop),
   (∀e σ' a' w' G',k e σ'=some r→RelG E G' σ' a' w'→Q e.ex a' w')→c.wp C.P Q a w:=fun c hF ρ σ G a w k r h hk Q hQ =>
  codeK_some hC c rfl hF h hk Q fun e σ' a' w' G' h1 h2 _ _=>hQ e σ' a' w' G' h1 h2
 induction c with
 | region id ops draw =>
  cases draw with
  | false =>
   intro hF ρ σ G a w k r h hk Q hQ;simp only[topN]at hk;exact base _ hF h hk Q hQ
  | true =>
   intro hF ρ σ G a w k r h hk Q hQ;simp only[topN]at hk;split at hk
   ·exact regionN_some hC hXH h hk (fun o ho t ht=>hF t (by simp only[wrC,List.mem_filterMap];exact⟨o,ho,ht⟩)) Q fun σ' a' w' G' h1 h2=>hQ .normal σ' a' w' G' h1 h2
   ·exact base _ hF h hk Q hQ
 | seq x y ihx ihy =>
  intro hF;replace ihx:=@ihx fun t ht=>hF t (by simp only[wrC];exact List.mem_append_left _ ht)
  replace ihy:=@ihy fun t ht=>hF t (by simp only[wrC];exact List.mem_append_right _ ht)
  intro ρ σ G a w k r h hk Q hQ;simp only[topN]at hk;refine wp_seq (ihx h hk _ fun e σ' a' w' G' h1 h2=>?_);cases e with
  | normal=>exact ihy h2 h1 Q hQ
  | exit id=>exact hQ _ σ' a' w' G' h1 h2
  | ret=>exact hQ _ σ' a' w' G' h1 h2
 | cond c x y ihx ihy =>
  intro hF;replace ihx:=@ihx fun t ht=>hF t (by simp only[wrC];exact List.mem_append_left _ ht)
  replace ihy:=@ihy fun t ht=>hF t (by simp only[wrC];exact List.mem_append_right _ ht)
  intro ρ σ G a w k r h hk Q hQ;simp only[topN]at hk;split at hk
  ·rename_i nn cb hc;have hv:=h.get c;rw[hc]at hv;have hv:=datBool hv;cases cb with
   | true=>exact wp_cond_true hv (ihx h hk Q hQ)
   | false=>exact wp_cond_false hv (ihy h hk Q hQ)
  ·simp at hk
 | block id c ih =>
  intro hF;replace ih:=@ih fun t ht=>hF t (by simp only[wrC];exact ht)
  intro ρ σ G a w k r h hk Q hQ;simp only[topN]at hk;refine wp_block (ih h hk _ fun e σ' a' w' G' h1 h2=>?_);cases e with
  | normal=>exact hQ .normal σ' a' w' G' h1 h2
  | ret=>exact hQ .ret σ' a' w' G' h1 h2
  | exit id' =>
   simp only at h1;by_cases hid:id'=id
   ·simp only[hid,if_true]at h1;simp only[AEx.ex,Exit.inBlock,hid,if_true];exact hQ .normal σ' a' w' G' h1 h2
   ·simp only[hid,if_false]at h1;simp only[AEx.ex,Exit.inBlock,hid,if_false];exact hQ (.exit id') σ' a' w' G' h1 h2
 | _ =>
  intro hF ρ σ G a w k r h hk Q hQ;simp only[topN]at hk;exact base _ hF h hk Q hQ
theorem funN_ctr {Ns:List NW} {D:Prop} (hC:Ctrs D C) {e:CallE} {fn:Func} {c:Code} (hf:C.P.funcs[e.f]? = some fn) (hname:(fn.name == "runtime.NumGoroutine") = false) (hbody:fn.body = some c) (hn:e.ps.length≤fn.ntmps)
  (hio:∀(i:Nat) (p:PM),e.ps[i]? = some p→isIo p=true→i∉wrC c) (hd:e.ps.all isDC=true) (hF:∀x r,e.F x=some r→funN C Ns fn e.ps e.rs x=some r):FnOk C.P e.f∧Ctr D C.P e:=by
 refine⟨⟨fn,c,hf,hname,hbody⟩,fun x r hx I w vs bss hin hargs=>?_⟩;have hk:=hF x r hx;have hvl:vs.length=e.ps.length:=by
  have:∀(ps:List PM) (y:PMs.den ps) (vs:List Value) (bss:List (List Nat)),ArgsV I w ps y vs bss→vs.length=ps.length:=by
   intro ps;induction ps with
   | nil=>intro y vs bss h;cases vs with
    | nil=>rfl
    | cons _ _=>exact h.elim
   | cons p ps ih =>
    intro y vs bss h;cases ps with
    | nil=>match vs,h with
     | [v],_=>rfl
    | cons p' r=>match vs,h with
     | v::vs,⟨b1,b2,_,_,h⟩=>simp only[List.length_cons];rw[ih _ _ _ h];rfl
  exact this _ _ _ _ hargs
 let a:Act:={ tmps:=vs.toArray++Array.replicate (fn.ntmps-vs.toArray.size) undef,defers:=[] }
 let E:En:=⟨w,fun b=>I b∨b∈bss.flatten,fun b=>b∈bss.flatten,fun b=>∃bs∈bss,bs.head? = some b,fun t=>t∉wrC c,fun t=>a.tmps.getD t undef,D⟩
 have hsz:a.tmps.size=fn.ntmps:=by simp[a];omega
 have h0:Pre E I (fun _=>False) (fun _=>(undef,[])) ⟨List.replicate fn.ntmps (.l .unk),[]⟩ a w :=
  {defers:=rfl
   len:=by rw[hsz];simp
   env:=fun t x hx=>by
    rw[List.getElem?_replicate]at hx;split at hx
    ·obtain rfl:=Option.some.inj hx;trivial
    ·simp at hx
   obs:=fun id o ho=>by simp[Sg.ob]at ho
   nodup:=fun id o ho=>by simp[Sg.ob]at ho
   range:=fun id o ho=>by simp[Sg.ob]at ho
   hrange:=fun id o ho=>by simp[Sg.ob]at ho
   disj:=fun id id' o o' ho=>by simp[Sg.ob]at ho
   os:=rfl
   tape:=rfl
   output:=.refl _
   size:=Nat.le_refl _
   frame:=fun _ _ _=>rfl
   xa:=⟨fun b hb=>.inr hb,hin.gl,hin.gx,fun b ⟨bs,hbs,hb⟩=>hin.gx b (List.mem_flatten.2 ⟨bs,hbs,List.mem_of_mem_head? hb⟩)⟩
   fixd:=fun _ _=>rfl
   acc:=fun b hb=>⟨hin.acc b hb,fun _=>.inl hb⟩ }
 have hadm:Adm E I (fun _=>False) w bss:=⟨hin.nodup,fun b hb=>⟨hin.range b hb,fun _=>hb,fun hf=>hf⟩,fun bs hbs b hb=>⟨fun _=>⟨bs,hbs,hb⟩,hin.head bs hbs b hb⟩⟩;obtain⟨G1,h1,h2,h3⟩:=encPs_some e.ps h0 hargs hadm;unfold funN at hk;rw[hbody]at hk;simp only at hk;have hfl:=argsDC_one e.ps hd hargs;have hal:=encPs_len e.ps ⟨List.replicate fn.ntmps (.l .unk),[]⟩ x;generalize encPs ⟨List.replicate fn.ntmps (.l .unk),[]⟩ e.ps x=q at hk h1 h2 h3 hal;obtain⟨as,σ1⟩:=q;simp only at hk h1 h2 h3 hal;have hstart:RelG E G1 { σ1 with env:=as++σ1.env.drop as.length } a w:=by
  have hr:=h1.rel;have h2':=h2.keep h1.keep as;refine{ hr with len:=?_,env:=fun t y hy=>?_ }
  ·show a.tmps.size=(as++σ1.env.drop as.length).length;rw[hsz,h3.env];simp;omega
  ·show VA (Imm E G1 σ1 w) σ1.hp.length G1 w y _;have hy:(as++σ1.env.drop as.length)[t]? = some y:=hy;by_cases ht:t<as.length
   ·rw[List.getElem?_append_left ht]at hy;have:∀(as:List A) (vs:List Value) (t:Nat) (y:A),VAs (Imm E G1 σ1 w) σ1.hp.length G1 w as vs→as[t]? = some y→∃v,vs[t]? = some v∧VA (Imm E G1 σ1 w) σ1.hp.length G1 w y v:=by
     intro as;induction as with
     | nil=>intro vs t y _ hy;simp at hy
     | cons a as ih =>
      intro vs t y hv hy;cases vs with
      | nil=>exact hv.elim
      | cons v vs =>
       cases t with
       | zero=>simp at hy;subst hy;exact⟨v,rfl,hv.1⟩
       | succ t=>simpa using ih vs t y hv.2 (by simpa using hy)
    obtain⟨v,hv1,hv2⟩:=this as vs t y h2' hy;have hlt:=(List.getElem?_eq_some_iff.1 hv1).1;have:a.tmps.getD t undef=v:=by
     simp only[a,Array.getD_eq_getD_getElem?];rw[Array.getElem?_append_left (by simpa using hlt)]
     simp[hv1]
    rw[this];exact hv2
   ·rw[List.getElem?_append_right (by omega),List.getElem?_drop,h3.env,List.getElem?_replicate]at hy
    split at hy
    ·obtain rfl:=Option.some.inj hy;trivial
    ·simp at hy
 refine calls_of_wp hf hbody ?_;have hXH:∀b,E.X b→E.H b:=fun b hb=>by
  have hb:b∈bss.flatten:=hb;obtain⟨bs,h1,h2⟩:=List.mem_flatten.1 hb;refine⟨bs,h1,?_⟩;match bs,hfl bs h1,h2 with
  | [c],_,h2=>simp at h2;simp[h2]
 refine topN_some (E:=E) hC hXH c (fun t ht hf=>hf ht) hstart hk _ fun ex σ' a' w' G' hk2 hr=>?_;have fin:(resK C σ' fn.results.toList fun vs=>ioK e.ps 0 (frzSs e.rs vs σ') fun o σ=>decSs e.rs vs σ fun r _=>some (resJ (hasIo e.ps) r o)) = some r→a'.defers = []∧∃ v,(results fn a'.tmps).run C.P w' = .ok v w' ∧
   ∃(I':Nat→Prop) (rvs:List Value) (rbss ibss:List (List Nat)),Ending.returned v=.returned (retV rvs)∧CallOut D I w w' bss (ibss++rbss) I' ∧
   SVs I' w' e.rs (resB (hasIo e.ps) r).1 rvs rbss∧((resB (hasIo e.ps) r).2=none→ibss=[])∧∀o,(resB (hasIo e.ps) r).2=some o→IoV I' w' e.ps o vs ibss:=fun hk3=>by
  refine⟨hr.defers,?_⟩;obtain⟨xs,rvs,k1,k2,k3,k4⟩:=resK_some hr _ hk3;have f:=frzSs_frz e.rs xs σ';have hr2:=f.rel hr;generalize frzSs e.rs xs σ'=σ2 at k1 f hr2;obtain⟨o,σ3,new1,ibss,q1,q2,q3⟩:=ioK_some hr2 e.ps 0 (vs:=vs) (Gone.refl _) (by simp[Mine]) hvl (fun j p v hp hi hv=>by
   have hfx:=hr2.fixd (0+j) (by show 0+j∉wrC c;rw[Nat.zero_add];exact hio j p hp hi)
   rw[hfx];show a.tmps.getD (0+j) undef=v;have hlt:=(List.getElem?_eq_some_iff.1 hv).1;simp only[a,Array.getD_eq_getD_getElem?,Nat.zero_add];rw[Array.getElem?_append_left (by simpa using hlt)]
   simp[hv]) k1
  obtain⟨y,σ4,new2,rbss,q4,q5,hsv⟩:=decSs_some e.rs hr2 q2.gone (by simpa using q2.mine) q1 (k2.keep f.keep _)
  obtain rfl:=Option.some.inj q4;have tk:=Took.trans hr2 q2 q5;obtain⟨z1,z2,z3⟩:=resB_resJ (hasIo e.ps) y o;refine⟨_,run_results k3 k4,Imm E G' σ2 w',rvs,rbss,ibss,rfl,?_,?_,fun hno=>IoV.noIo e.ps (z2 hno) q3,fun o' ho=>?_⟩
  ·have had:=tk.cls.adm hr2 tk.mine (U:=fun _=>False) (fun _ _ _ _ hf=>hf);exact⟨hr2.os,hr2.tape,hr2.output,hr2.size,fun b hb hh=>hr2.frame b hb fun⟨bs,hbs,hx⟩=>hh bs hbs hx,fun b hb=>⟨hb.1,hb.2.1⟩,had.nodup,
    fun b hb=>⟨(had.range b hb).1,(had.range b hb).2.1⟩,fun bs hbs b hb=>⟨(had.head bs hbs b hb).2,(had.head bs hbs b hb).1⟩⟩
  ·rw[z1];exact hsv
  ·rw[z3 o' ho];exact q3
 cases ex with
 | normal=>exact fin hk2
 | ret=>exact fin hk2
 | exit id=>simp at hk2
end
theorem mkCtrN {D:Prop} {C:Ctx} {Ns:List NW} {e:CallE} {fn:Func} (hm:C.P.follows .mixedOrders = true) (h:AllC D C.P C.O) (hf:C.P.funcs[e.f]? = some fn) (hok:okFn fn e.ps = true) (hlw:e.ps.all isDC = true)
  (hF:∀x,funN C Ns fn e.ps e.rs x=e.F x) (hi:AllI D C.P C.I:=by trivial):FnOk C.P e.f∧Ctr D C.P e:=by
 unfold okFn at hok;simp only[Bool.and_eq_true,Bool.not_eq_true',decide_eq_true_eq]at hok;obtain⟨⟨h1,h2⟩,h3⟩:=hok;split at h2
 ·rename_i c hc;exact funN_ctr (ctrs_of hm h hi) hf h1 hc h3 (fun i p hp hi=>by
   have:=ioOk_some e.ps 0 h2 i p hp hi
   rwa [Nat.zero_add]at this) hlw fun x r hx=>(hF x).trans hx
 ·simp at h2
end Go.Proofs.YtfknaeamhcpfgaaGreat.Eng
