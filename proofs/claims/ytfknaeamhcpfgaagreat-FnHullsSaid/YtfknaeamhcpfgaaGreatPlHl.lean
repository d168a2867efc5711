/-
  The program's hull is the reference's. Plain, no condition.
-/
import Derived.Test.YtfknaeamhcpfgaaGreatPlU
import Derived.Test.YtfknaeamhcpfgaaGreatPlW
namespace Go.Proofs.YtfknaeamhcpfgaaGreat.Hull
open Go Go.Proofs.YtfknaeamhcpfgaaGreat.Eng
set_option linter.all false
def ddF:Option Pt→List Pt→List Pt
 | _,[]=>[]
 | p,x::r=>if p=some x then ddF p r else x::ddF (some x) r
theorem dd_spec {lt:Pt→Pt→Prop} (tri:∀ a b,lt a b∨a = b∨lt b a) (tr:∀ a b c,lt a b→lt b c→lt a c):(D:List Pt)→(p:Option Pt)→D.Pairwise (fun a b=>¬ lt b a)→(∀ q,p = some q→∀ y∈D,¬ lt y q) →
  (ddF p D).Pairwise lt∧(∀q,p=some q→∀y∈ddF p D,lt q y)∧∀y,(y∈ddF p D∨p=some y)↔(y∈D∨p=some y)
 | [],p,_,_=>⟨by simp[ddF],by simp[ddF],by simp[ddF]⟩
 | x::r,p,hD,hp=>by
  rw[List.pairwise_cons]at hD;unfold ddF;by_cases hx:p=some x
  ·rw[if_pos hx];obtain⟨h1,h2,h3⟩:=dd_spec tri tr r p hD.2 fun q hq y hy=>hp q hq y (List.mem_cons_of_mem _ hy);refine⟨h1,h2,fun y=>?_⟩;rw[h3 y,List.mem_cons];constructor
   ·rintro(h | h)
    ·exact .inl (.inr h)
    ·exact .inr h
   ·rintro((rfl | h) | h)
    ·exact .inr hx
    ·exact .inl h
    ·exact .inr h
  ·rw[if_neg hx];obtain⟨h1,h2,h3⟩:=dd_spec tri tr r (some x) hD.2 fun q hq y hy=>by
    obtain rfl:=Option.some.inj hq;exact hD.1 y hy
   refine⟨List.pairwise_cons.2 ⟨fun y hy=>h2 x rfl y hy,h1⟩,fun q hq y hy=>?_,fun y=>?_⟩
   ·have hqx:lt q x:=by
     rcases tri q x with h | h | h
     ·exact h
     ·subst h;exact absurd hq hx
     ·exact absurd h (hp q hq x (by simp))
    rcases List.mem_cons.1 hy with rfl | hy
    ·exact hqx
    ·exact tr _ _ _ hqx (h2 x rfl y hy)
   ·have:=h3 y;simp only[List.mem_cons,Option.some.injEq]at this ⊢;constructor
    ·rintro((rfl | h) | h)
     ·exact .inl (.inl rfl)
     ·rcases this.1 (.inl h)with h | h
      ·exact .inl (.inr h)
      ·exact .inl (.inl h.symm)
     ·exact .inr h
    ·rintro((rfl | h) | h)
     ·exact .inl (.inl rfl)
     ·rcases this.2 (.inl h)with h | h
      ·exact .inl (.inr h)
      ·exact .inl (.inl h.symm)
     ·exact .inr h
theorem asc_unique:(l m:List Pt)→Asc l→Asc m→(∀y,y∈l↔y∈m)→l=m
 | [],[],_,_,_=>rfl
 | [],b::m,_,_,h=>by have:=(h b).2 (by simp);simp at this
 | a::l,[],_,_,h=>by have:=(h a).1 (by simp);simp at this
 | a::l,b::m,hl,hm,h=>by
  have hab:a=b:=by
   rcases List.mem_cons.1 ((h a).1 (by simp))with h1 | h1
   ·exact h1
   ·rcases List.mem_cons.1 ((h b).2 (by simp))with h2 | h2
    ·exact h2.symm
    ·exact(lx_asym (hm.mem_lt h1) (hl.mem_lt h2)).elim
  subst hab;rw[asc_unique l m hl.tail hm.tail fun y=>?_];constructor
  ·intro hy;rcases List.mem_cons.1 ((h y).1 (List.mem_cons_of_mem _ hy))with h1 | h1
   ·subst h1;exact(lx_irr (hl.mem_lt hy)).elim
   ·exact h1
  ·intro hy;rcases List.mem_cons.1 ((h y).2 (List.mem_cons_of_mem _ hy))with h1 | h1
   ·subst h1;exact(lx_irr (hm.mem_lt hy)).elim
   ·exact h1
theorem pops_two {x t u:Pt}{r:List Pt}(h:tn u t x≤0):pops x (t::u::r)=pops x (u::r):=by
 show(if tn u t x≤0 then pops x (u::r)else t::u::r)=_;rw[if_pos h]
theorem pops_stop {x t u:Pt}{r:List Pt}(h:¬tn u t x≤0):pops x (t::u::r)=t::u::r:=by
 show(if tn u t x≤0 then pops x (u::r)else t::u::r)=_;rw[if_neg h]
theorem pops_idem (x:Pt):(s:List Pt)→pops x (pops x s)=pops x s
 | []=>rfl
 | [t]=>rfl
 | t::u::r=>by
  by_cases h:tn u t x≤0
  ·rw[pops_two h];exact pops_idem x (u::r)
  ·rw[pops_stop h,pops_stop h]
theorem tn_same (u x:Pt):tn u x x=0:=by unfold tn;grind
theorem tn_same2 (u x:Pt):tn u u x=0:=by unfold tn;grind
def Rl (s s':List Pt):Prop:=s=s'∨∃x,s'=[x]∧s=[x,x]
theorem fold_dd:(D:List Pt)→(p:Option Pt)→(s s':List Pt)→p=s'.head?→Rl s s'→(∀x u r,s'=x::u::r→pops x (u::r)=u::r)→Rl (D.foldl push s) ((ddF p D).foldl push s')
 | [],p,s,s',_,h,_=>h
 | x::r,p,s,s',hp,h,hg=>by
  unfold ddF;simp only[List.foldl_cons];by_cases hx:p=some x
  ·rw[if_pos hx];rw[hp]at hx;obtain⟨r',rfl⟩:∃r',s'=x::r':=by
    cases s' with
    | nil=>simp at hx
    | cons y r'=>simp at hx;subst hx;exact⟨r',rfl⟩
   refine fold_dd r p (push s x) (x::r') hp ?_ hg;rcases h with rfl | ⟨y,h1,rfl⟩
   ·cases r' with
    | nil=>exact .inr ⟨x,rfl,rfl⟩
    | cons u r'' =>
     left;unfold push;rw[pops_two (by rw[tn_same];exact Int.le_refl _),hg x u r'' rfl]
   ·simp only[List.cons.injEq]at h1;obtain⟨rfl,rfl⟩:=h1;right;refine⟨x,rfl,?_⟩;unfold push;rw[pops_two (by rw[tn_same];exact Int.le_refl _)]
    rfl
  ·rw[if_neg hx];simp only[List.foldl_cons];refine fold_dd r (some x) (push s x) (push s' x) rfl ?_ (fun y u r'' e=>?_)
   ·rcases h with rfl | ⟨y,rfl,rfl⟩
    ·exact .inl rfl
    ·left;unfold push;rw[pops_two (by rw[tn_same2];exact Int.le_refl _)]
   ·unfold push at e;simp only[List.cons.injEq]at e;obtain⟨rfl,e⟩:=e;rw[←e];exact pops_idem x s'
theorem pops_pos {x:Pt}:(s:List Pt)→s≠[]→pops x s≠[]
 | [],h=>absurd rfl h
 | [t],_=>by simp[pops]
 | t::u::r,_=>by
  unfold pops;split
  ·exact pops_pos (u::r) (by simp)
  ·simp
theorem fold_two:(l:List Pt)→(s:List Pt)→2≤s.length→2≤(l.foldl push s).length
 | [],s,h=>h
 | x::l,s,h=>by
  refine fold_two l (push s x) ?_;unfold push;have:=pops_pos (x:=x) s (by intro e;rw[e]at h;simp at h)
  have:=List.length_pos_iff.2 this;simp only[List.length_cons];omega
theorem chain_two {S:List Pt}(h:2≤S.length):2≤(chain S).length:=by
 match S,h with
 | a::b::r,_ =>
  unfold chain;simp only[List.foldl_cons];exact fold_two r _ (by simp[push,pops])
theorem fold_sorted {D S:List Pt}(h:ddF none D=S):(2≤S.length→D.foldl push []=chain S)∧(S.length≤1→(D.foldl push []).length≤2):=by
 have:=fold_dd D none [] [] rfl (.inl rfl) (fun x u r e=>by simp at e)
 rw[h]at this;constructor
 ·intro h2;rcases this with h3 | ⟨x,h3,_⟩
  ·exact h3
  ·have:=chain_two h2;unfold chain at this;rw[h3]at this;simp at this
 ·intro h1;rcases this with h3 | ⟨x,_,h3⟩
  ·rw[h3];match S,h1 with
   | [],_=>simp
   | [a],_=>simp[push,pops]
  ·rw[h3];simp
theorem lx_tri3 (a b:Pt):lx b a∨a=b∨lx a b:=by
 rcases lx_tri a b with h | h | h
 ·exact .inr (.inr h)
 ·exact .inr (.inl h)
 ·exact .inl h
theorem dd_asc {D:List Pt}(h:D.Pairwise fun a b=>¬lx b a):ddF none D=sorted D∧ddF none D.reverse=(sorted D).reverse:=by
 obtain⟨s1,s2⟩:=sorted_spec D;constructor
 ·obtain⟨h1,_,h3⟩:=dd_spec (lt:=lx) lx_tri (fun _ _ _=>lx_trans) D none h (fun q hq=>by cases hq)
  refine asc_unique _ _ h1 s1 fun y=>?_;have:=h3 y;simp only[reduceCtorEq,or_false]at this;rw[this,s2]
 ·obtain⟨h1,_,h3⟩:=dd_spec (lt:=fun a b=>lx b a) lx_tri3 (fun a b c h k=>lx_trans k h) D.reverse none (by rw[List.pairwise_reverse];exact h) (fun q hq=>by cases hq)
  have h1':Asc (ddF none D.reverse).reverse:=by unfold Asc;rw[List.pairwise_reverse];exact h1
  have:=asc_unique _ _ h1' s1 fun y=>by
   have:=h3 y;simp only[reduceCtorEq,or_false]at this;rw[List.mem_reverse,this,List.mem_reverse,s2]
  rw[←this,List.reverse_reverse]
end Go.Proofs.YtfknaeamhcpfgaaGreat.Hull
namespace Go.Proofs.YtfknaeamhcpfgaaGreat
open Go Go.Proofs.YtfknaeamhcpfgaaGreat.Eng Hull
set_option linter.all false
theorem cmpGood:CmpGood (fun a b=>g_slices_Compare a b):=fun a b ha hb=>by
 obtain⟨y,e,hy⟩:=iter_run (step:=g_slices_Compare_s2 a b) (fun s=>∃k:Nat,s=(k:Int)∧k≤a.length∧k≤b.length∧ltL (a.drop k) (b.drop k)=ltL a b) (fun s=>a.length-s.toNat) (fun _ y=>match y with
  | .inl _=>ltL a b=decide (a.length<b.length)
  | .inr n=>decide (n<0)=ltL a b) (fun s hs=>by
  obtain⟨k,rfl,h1,h2,h3⟩:=hs;unfold g_slices_Compare_s2;by_cases hk:k<a.length
  ·have ga:a[k]? = some a[k]:=List.getElem?_eq_getElem hk;have da:a.drop k=a[k]::a.drop (k+1):=List.drop_eq_getElem_cons hk;rw[show decide ((k:Int)<(a.length:Int))=true from by simp;omega,cond_true,idx_some ga]
   simp only[Option.bind_some];by_cases hkb:k<b.length
   ·have gb:b[k]? = some b[k]:=List.getElem?_eq_getElem hkb;have db:b.drop k=b[k]::b.drop (k+1):=List.drop_eq_getElem_cons hkb;rw[show decide ((k:Int)≥(b.length:Int))=false from by simp;omega,cond_false,idx_some gb]
    simp only[Option.bind_some,cmp_eq];rw[da,db]at h3;simp only[ltL]at h3;by_cases q1:a[k]<b[k]
    ·rw[if_pos q1]at h3 ⊢;left;exact⟨_,rfl,h3⟩
    ·rw[if_neg q1]at h3 ⊢;by_cases q2:b[k]<a[k]
     ·rw[if_pos q2]at h3;rw[if_pos (show a[k]>b[k]from q2)]
      left;exact⟨_,rfl,h3⟩
     ·rw[if_neg q2]at h3;rw[if_neg (show ¬a[k]>b[k]from q2)]
      right;refine⟨_,rfl,⟨k+1,?_,by omega,by omega,h3⟩,?_,fun y hy=>hy⟩
      ·rw[wrap_succ (by omega)];omega
      ·rw[wrap_succ (by omega)];omega
   ·rw[show decide ((k:Int)≥(b.length:Int))=true from by simp;omega,cond_true]
    left;refine⟨_,rfl,?_⟩;have db:b.drop k=[]:=List.drop_of_length_le (by omega)
    rw[da,db]at h3;rw[←h3];rfl
  ·have hk:k=a.length:=by omega
   subst hk;rw[show decide ((a.length:Int)<(a.length:Int))=false from by simp,cond_false]
   left;refine⟨_,rfl,?_⟩;simp only;rw[←h3,List.drop_length];cases hd:b.drop a.length with
   | nil =>
    have:=congrArg List.length hd;simp at this;simp[ltL];omega
   | cons z zs =>
    have:=congrArg List.length hd;simp at this;simp[ltL];omega) 0 ⟨0,rfl,by omega,by omega,rfl⟩
 show ∃n,g_slices_Compare a b=some n∧_;unfold g_slices_Compare;rw[e];cases y with
 | inl u =>
  simp only at hy;simp only[Option.bind_some];by_cases h:a.length<b.length
  ·refine⟨-1,by rw[show decide ((a.length:Int)<(b.length:Int))=true from by simp;omega];rfl,?_⟩
   rw[hy];simp[h]
  ·refine⟨0,by rw[show decide ((a.length:Int)<(b.length:Int))=false from by simp;omega];rfl,?_⟩
   rw[hy];simp[h]
 | inr n=>exact⟨n,rfl,hy⟩
theorem sortFunc_eq (x:List (List Int)):g_slices_SortFunc x=some ((),(sortL x,())):=by
 unfold g_slices_SortFunc sortF;rw[if_pos cmpGood]
theorem ltL_em (a b:Pt):ltL (em a) (em b)=decide (lx a b):=by
 unfold em lx;simp only[ltL];by_cases h1:a.1<b.1
 ·rw[if_pos h1];simp[h1]
 ·rw[if_neg h1];by_cases h2:b.1<a.1
  ·rw[if_pos h2];exact(decide_eq_false (by omega)).symm
  ·rw[if_neg h2];by_cases h3:a.2<b.2
   ·rw[if_pos h3];exact(decide_eq_true (by omega)).symm
   ·rw[if_neg h3];have:¬(a.1<b.1∨(a.1=b.1∧a.2<b.2)):=by omega
    simp[this]
theorem sort_em (P:List Pt):∃D:List Pt,sortL (P.map em)=D.map em∧D.Perm P∧D.Pairwise fun a b=>¬lx b a:=by
 have hp:=sortL_perm (P.map em);have hs:=sortL_sorted (P.map em);refine⟨(sortL (P.map em)).map toP,?_,?_,?_⟩
 ·rw[List.map_map];conv=>lhs;rw[←List.map_id (sortL (P.map em))]
  refine List.map_congr_left fun v hv=>?_;obtain⟨q,_,rfl⟩:=List.mem_map.1 (hp.mem_iff.1 hv);simp[toP_em]
 ·have:=hp.map toP
  rwa [map_toP]at this
 ·rw[List.pairwise_map];refine hs.imp_of_mem fun{a b} ha hb h=>?_;obtain⟨p,_,rfl⟩:=List.mem_map.1 (hp.mem_iff.1 ha);obtain⟨q,_,rfl⟩:=List.mem_map.1 (hp.mem_iff.1 hb);rw[ltL_em]at h;simpa[toP_em]using h
theorem sorted_perm {P D:List Pt}(h:D.Perm P):Hull.sorted D=Hull.sorted P :=
 asc_unique _ _ (sorted_spec D).1 (sorted_spec P).1 fun y=>by rw[(sorted_spec D).2,(sorted_spec P).2,h.mem_iff]
theorem copyPoints_eq {x:List (List Int)}(hl:x.length≤100000)(hx:∀v∈x,v.length≤1000):i_copyPoints x=some x:=by
 have:=iter_up (step:=i_copyPoints_s3 x) x.length (fun k=>(x.take k,(k:Int))) x (fun k hk=>by
  have hg:x[k]? = some x[k]:=List.getElem?_eq_getElem hk;unfold i_copyPoints_s3;simp only;rw[show decide ((k:Int)<(x.length:Int))=true from by simp;omega,cond_true,idx_some hg]
  simp only[Option.bind_some];rw[copyInts_eq (by have:=hx _ (List.getElem_mem hk);rw[lim_eq];omega)]
  simp only[Option.bind_some];rw[appD_some (by rw[lim_eq];simp;omega) (by rw[lim_eq];simp;omega),wrap_small (x:=(k:Int)+1) (by omega) (by omega),List.take_add_one,hg]
  rfl) (by
  unfold i_copyPoints_s3;simp)
 unfold i_copyPoints;have e:(([],0):List (List Int)×Int)=(x.take 0,((0:Nat):Int)):=by simp
 rw[e,this];rfl
theorem ihull19 {pts:List (List Int)} {side:Int} {B:List Pt} {x:Pt} (hB:B.length≤100000) (hx:Bd 50 x):(S:List Pt)→S.length≤100000→(∀ y∈S,Bd 50 y) →
  iter (i_HullOf_s19 (pts,(B.map em,side)) (em x)) ((B++S.reverse).map em)=some ((B++(Hull.pops x S).reverse).map em)
 | [],_,_=>by
  refine iter_end ?_;unfold i_HullOf_s19;simp only[List.length_map];rw[wrap_small (x:=(B.length:Int)+2) (by omega) (by omega)]
  rw[show decide (((B++([]:List Pt).reverse).length:Int)≥(B.length:Int)+2)=false from by simp;omega]
  rfl
 | [t],_,_=>by
  refine iter_end ?_;unfold i_HullOf_s19;simp only[List.length_map];rw[wrap_small (x:=(B.length:Int)+2) (by omega) (by omega)]
  rw[show decide (((B++[t].reverse).length:Int)≥(B.length:Int)+2)=false from by simp]
  rfl
 | t::u::R,hl,hb=>by
  simp only[List.length_cons]at hl;have hL:((B++(t::u::R).reverse).map em).length=B.length+R.length+2:=by simp;omega
  have g1:((B++(t::u::R).reverse).map em)[B.length+R.length]? = some (em u):=by
   rw[List.getElem?_map];have:B++(t::u::R).reverse=(B++R.reverse)++[u,t]:=by simp
   rw[this,List.getElem?_append_right (by simp)]
   have:B.length+R.length-(B++R.reverse).length=0:=by simp
   rw[this];rfl
  have g2:((B++(t::u::R).reverse).map em)[B.length+R.length+1]? = some (em t):=by
   rw[List.getElem?_map];have:B++(t::u::R).reverse=(B++R.reverse)++[u,t]:=by simp
   rw[this,List.getElem?_append_right (by simp)]
   have:B.length+R.length+1-(B++R.reverse).length=1:=by simp
   rw[this];rfl
  have e:i_HullOf_s19 (pts,(B.map em,side)) (em x) ((B++(t::u::R).reverse).map em)=if tn u t x≤0 then some (.inl ((B++(u::R).reverse).map em))else some (.inr ((B++(t::u::R).reverse).map em)):=by
   unfold i_HullOf_s19;simp only;rw[hL,wrap_small (x:=((B.map em).length:Int)+2) (by omega) (by simp;omega)]
   rw[show decide (((B.length+R.length+2:Nat):Int)≥((B.map em).length:Int)+2)=true from by simp;omega,cond_true]
   have w2:IntKind.i64.wrap (((B.length+R.length+2:Nat):Int)-2)=((B.length+R.length:Nat):Int):=by rw[wrap_small (by omega) (by omega)];omega
   have w1:IntKind.i64.wrap (((B.length+R.length+2:Nat):Int)-1)=((B.length+R.length+1:Nat):Int):=by rw[wrap_small (by omega) (by omega)];omega
   rw[w2,w1,inIdx_nat (by omega),inIdx_nat (by omega)]
   simp only[Option.bind_some,Int.toNat_natCast];rw[idx_some g1,idx_some g2];simp only[Option.bind_some];rw[turn_em (by decide) (hb u (by simp)) (hb t (by simp)) hx]
   simp only[Option.bind_some];by_cases ht:tn u t x≤0
   ·rw[if_pos ht,show decide (tn u t x≤0)=true from by simpa using ht,cond_true]
    have:=subl_nat (xs:=(B++(t::u::R).reverse).map em) (a:=0) (b:=B.length+R.length+1) (by omega) (by rw[hL];omega)
    rw[show((0:Nat):Int)=0 from rfl]at this
    rw[this,List.drop_zero,drop_last_map];have hl2:B.length+R.length+1=((B++(u::R).reverse).map em).length:=by simp;omega
    rw[hl2,List.take_left];rfl
   ·rw[if_neg ht,show decide (tn u t x≤0)=false from by simpa using ht,cond_false]
  unfold Hull.pops;by_cases ht:tn u t x≤0
  ·rw[if_pos ht]at e ⊢;rw[iter_next e];exact ihull19 hB hx (u::R) (by simp;omega) (fun y hy=>hb y (List.mem_cons_of_mem _ hy))
  ·rw[if_neg ht]at e ⊢;exact iter_end e
theorem ihull17 {D:List Pt} (hL:D.length≤10000) (hb:∀ y∈D,Bd 50 y) {B:List Pt} (hB:B.length≤20000) (side:Int) :
  iter (i_HullOf_s17 (D.map em,(B.map em,side))) (B.map em,0)=some ((B++(D.foldl Hull.push []).reverse).map em):=by
 have hst:∀k,∀y∈(D.take k).foldl Hull.push [],Bd 50 y:=fun k y hy=>by
  rcases fold_push_sub _ _ y hy with h | h
  ·exact hb y (List.mem_of_mem_take h)
  ·simp at h
 have hsl:∀k,((D.take k).foldl Hull.push []).length≤10000:=fun k=>by
  have:=fold_push_len (D.take k) [];simp at this;omega
 have:=iter_up (step:=i_HullOf_s17 (D.map em,(B.map em,side))) D.length (fun k=>((B++((D.take k).foldl Hull.push []).reverse).map em,(k:Int))) ((B++(D.foldl Hull.push []).reverse).map em) (fun k hk=>by
  have hx:D[k]? = some D[k]:=List.getElem?_eq_getElem hk;have hxb:Bd 50 D[k]:=hb _ (List.getElem_mem _);unfold i_HullOf_s17;simp only;rw[show decide ((k:Int)<((D.map em).length:Int))=true from by simp;omega,cond_true]
  have hLk:(D.map em)[k]? = some (em D[k]):=by rw[List.getElem?_map,hx];rfl
  rw[idx_some hLk];simp only[Option.bind_some];rw[ihull19 (by omega) hxb _ (by have:=hsl k;omega) (hst k)]
  simp only[Option.bind_some];rw[copyInts_eq (by simp[em,lim_eq])]
  simp only[Option.bind_some];have hpl:=pops_len D[k] ((D.take k).foldl Hull.push []);have:=hsl k;rw[appD_some (by simp[lim_eq];omega) (by simp[lim_eq];omega)]
  simp only[Option.bind_some];rw[wrap_small (x:=(k:Int)+1) (by omega) (by omega),List.take_add_one,hx]
  simp only[Option.toList_some,List.foldl_append,List.foldl_cons,List.foldl_nil];unfold Hull.push;rw[List.reverse_cons,←List.append_assoc,List.map_append (l₁:=B++_)];rfl) (by
  unfold i_HullOf_s17;simp)
 simpa using this
def hull2 (D:List Pt):List Pt:=((D.foldl Hull.push []).reverse.dropLast++(D.reverse.foldl Hull.push []).reverse).dropLast
theorem cut_last {T:List Pt}(h1:T.length≤30000):subl (T.map em) 0 (if IntKind.i64.wrap (((T.map em).length:Int)-1)>0 then IntKind.i64.wrap (((T.map em).length:Int)-1)else 0)=some (T.dropLast.map em):=by
 have w:IntKind.i64.wrap (((T.map em).length:Int)-1)=(T.length:Int)-1:=by rw[List.length_map,wrap_small (by omega) (by omega)]
 rw[w];have e:(if(T.length:Int)-1>0 then(T.length:Int)-1 else 0)=((T.length-1:Nat):Int):=by split<;>omega
 have:=subl_nat (xs:=T.map em) (a:=0) (b:=T.length-1) (by omega) (by simp)
 rw[show((0:Nat):Int)=0 from rfl]at this
 rw[e,this,List.drop_zero,List.dropLast_eq_take,List.map_take]
theorem ihull13 {D:List Pt}(hl:D.length≤200)(hb:∀y∈D,Bd 50 y):iter i_HullOf_s13 (D.map em,([],0))=some ((hull2 D).map em):=by
 have c1:=fold_push_len D [];have c2:=fold_push_len D.reverse [];simp only[List.length_nil,Nat.zero_add,List.length_reverse]at c1 c2;have s0:i_HullOf_s13 (D.map em,([],0))=some (.inl (D.reverse.map em,((D.foldl Hull.push []).reverse.dropLast.map em,1))):=by
  unfold i_HullOf_s13;simp only;rw[show decide ((0:Int)<2)=true from rfl,cond_true]
  have h:=ihull17 (D:=D) (by omega) hb (B:=[]) (by simp) 0
  simp only[List.map_nil,List.nil_append]at h;rw[h];simp only[Option.bind_some];rw[cut_last (by simp;omega)]
  simp only[Option.bind_some,g_slices_Reverse];rw[List.map_reverse];rfl
 have s1:i_HullOf_s13 (D.reverse.map em,((D.foldl Hull.push []).reverse.dropLast.map em,1))=some (.inl (D.map em,((hull2 D).map em,2))):=by
  unfold i_HullOf_s13;simp only;rw[show decide ((1:Int)<2)=true from rfl,cond_true]
  have h:=ihull17 (D:=D.reverse) (by simp;omega) (fun y hy=>hb y (by simpa using hy)) (B:=(D.foldl Hull.push []).reverse.dropLast) (by simp;omega) 1
  rw[h];simp only[Option.bind_some];rw[cut_last (by rw[List.length_append,List.length_dropLast,List.length_reverse,List.length_reverse];omega)]
  simp only[Option.bind_some,g_slices_Reverse];rw[←List.map_reverse,List.reverse_reverse];rfl
 have s2:i_HullOf_s13 (D.map em,((hull2 D).map em,2))=some (.inr ((hull2 D).map em)):=rfl;rw[iter_next s0,iter_next s1,iter_end s2]
theorem hull2_eq {D S:List Pt}(h1:ddF none D=S)(h2:ddF none D.reverse=S.reverse):(2≤S.length→hull2 D=Hull.hull S)∧(S.length≤1→(hull2 D).length≤2):=by
 have f1:=fold_sorted h1;have f2:=fold_sorted h2;rw[List.length_reverse]at f2;constructor
 ·intro h;unfold hull2;rw[f1.1 h,f2.1 h];have:=chain_two (S:=S.reverse) (by simpa using h)
  rw[List.dropLast_append_of_ne_nil (by intro e;rw[List.reverse_eq_nil_iff]at e;rw[e]at this;simp at this)]
  rfl
 ·intro h;have a1:=f1.2 h;have a2:=f2.2 h;unfold hull2;simp only[List.length_dropLast,List.length_append,List.length_reverse];omega
theorem hull_two {S:List Pt}(h:S.length=2):(Hull.hull S).length=2:=by
 match S,h with
 | [a,b],_=>rfl
theorem i_HullOf_eq {p:List (List Int)}(hl:p.length≤lim)(hx:∀v∈p,v.length≤lim):i_HullOf p=some (hullS p):=by
 unfold i_HullOf hullS;by_cases h1:p.length≤200
 ·rw[show decide ((p.length:Int)>200)=false from by simp;omega,cond_false]
  have L4:iter (i_HullOf_s4 p) 0=some (if p.all (isPt 50)then(.inl ():Unit⊕(List (List Int)×Bool))else .inr ([],false)):=by
   obtain⟨y,e,hy⟩:=iter_run (step:=i_HullOf_s4 p) (fun s=>∃k:Nat,s=(k:Int)∧k≤p.length∧(p.take k).all (isPt 50)=true) (fun s=>p.length-s.toNat) (fun _ y=>y=if p.all (isPt 50)then(.inl ():Unit⊕(List (List Int)×Bool))else .inr ([],false)) (fun s hs=>by
    obtain⟨k,rfl,k1,k2⟩:=hs;unfold i_HullOf_s4;by_cases hk:k<p.length
    ·have hg:p[k]? = some p[k]:=List.getElem?_eq_getElem hk;rw[show decide ((k:Int)<(p.length:Int))=true from by simp;omega,cond_true,idx_some hg]
     simp only[Option.bind_some];rw[isPoint_eq (hx _ (List.getElem_mem hk)) (by decide) (by decide)]
     simp only[Option.bind_some];cases hc:isPt 50 p[k]with
     | false =>
      left;refine⟨_,rfl,?_⟩;rw[if_neg];intro ha;rw[List.all_eq_true.1 ha _ (List.getElem_mem hk)]at hc;cases hc
     | true =>
      right;refine⟨_,rfl,⟨k+1,?_,by omega,?_⟩,?_,fun y hy=>hy⟩
      ·rw[wrap_small (by omega) (by omega)];omega
      ·rw[List.take_add_one,hg,Option.toList_some,List.all_append,k2,List.all_cons,hc];rfl
      ·rw[wrap_small (by omega) (by omega)];omega
    ·have hk:k=p.length:=by omega
     subst hk;rw[List.take_length]at k2;rw[show decide ((p.length:Int)<(p.length:Int))=false from by simp,cond_false]
     left;exact⟨_,rfl,by rw[if_pos k2]⟩) 0 ⟨0,rfl,by omega,by simp⟩
   rw[e,hy]
  rw[L4];cases h2:p.all (isPt 50)with
  | false=>simp[h1]
  | true =>
   obtain⟨P,rfl,hB⟩:=pts_of h2;rw[List.length_map]at h1;have hcond:(P.map em).length≤200∧true=true:=⟨by simpa using h1,rfl⟩
   rw[if_pos (rfl:true=true),if_pos hcond,map_toP];simp only[Option.bind_some];rw[copyPoints_eq (by simp;omega) (fun v hv=>by
    obtain⟨q,_,rfl⟩:=List.mem_map.1 hv;simp[em])]
   simp only[Option.bind_some];rw[sortFunc_eq];simp only[Option.bind_some];obtain⟨D,d1,d2,d3⟩:=sort_em P;have hDl:=d2.length_eq;have hDb:∀y∈D,Bd 50 y:=fun y hy=>hB y (d2.mem_iff.1 hy);rw[d1,ihull13 (by omega) hDb]
   simp only[Option.bind_some];obtain⟨e1,e2⟩:=dd_asc d3;rw[sorted_perm d2]at e1 e2;obtain⟨u1,u2⟩:=hull2_eq e1 e2;have hSb:∀y∈Hull.sorted P,Bd 50 y:=fun y hy=>hB y (((Hull.sorted_spec P).2 y).1 hy);have hsub:∀y∈hull2 D,Bd 50 y:=fun y hy=>by
    unfold hull2 at hy;have hy:=(List.dropLast_sublist _).subset hy;rcases List.mem_append.1 hy with hy | hy
    ·have hy:=(List.dropLast_sublist _).subset hy;rw[List.mem_reverse]at hy;rcases fold_push_sub _ _ y hy with h | h
     ·exact hDb y h
     ·simp at h
    ·rw[List.mem_reverse]at hy;rcases fold_push_sub _ _ y hy with h | h
     ·exact hDb y (by simpa using h)
     ·simp at h
   have hlen:(hull2 D).length≤1000:=by
    have c1:=fold_push_len D [];have c2:=fold_push_len D.reverse [];simp only[List.length_nil,Nat.zero_add,List.length_reverse]at c1 c2;unfold hull2;simp only[List.length_dropLast,List.length_append,List.length_reverse];omega
   rw[i_IsPolygon_eq (by rw[List.length_map,lim_eq];omega) (fun v hv=>by
    obtain⟨q,_,rfl⟩:=List.mem_map.1 hv;simp[em,lim_eq])]
   simp only[Option.bind_some];have hiff:=isPoly_iff hsub;by_cases h3:3≤(Hull.sorted P).length
   ·have eH:=u1 (by omega)
    rw[eH]at hiff ⊢;by_cases h4:3≤(Hull.hull (Hull.sorted P)).length∧(Hull.hull (Hull.sorted P)).length≤12
    ·rw[if_pos ⟨h3,h4⟩];have:isPoly ((Hull.hull (Hull.sorted P)).map em)=true:=hiff.2 ⟨h4.2,Hull.pol_hull (sorted_spec P).1 h4.1⟩;rw[this];rfl
    ·rw[if_neg fun h=>h4 h.2];have:isPoly ((Hull.hull (Hull.sorted P)).map em)=false:=by
      rw[Bool.eq_false_iff];intro hq;have:=hiff.1 hq;exact h4 ⟨this.2.len,this.1⟩
     rw[this];rfl
   ·rw[if_neg fun h=>h3 h.1];have h5:(hull2 D).length≤2:=by
     by_cases h6:(Hull.sorted P).length≤1
     ·exact u2 h6
     ·rw[u1 (by omega),hull_two (by omega)];omega
    have:isPoly ((hull2 D).map em)=false:=by
     rw[Bool.eq_false_iff];intro hq;have:=(hiff.1 hq).2.len;omega
    rw[this];rfl
 ·rw[show decide ((p.length:Int)>200)=true from by simp;omega,cond_true,if_neg (fun h=>h1 h.1)]
end Go.Proofs.YtfknaeamhcpfgaaGreat
