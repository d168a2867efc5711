/-
  Plain: the best corner of a region's hull. No condition.
-/
import Derived.Test.YtfknaeamhcpfgaaGreatPlWh
import Derived.Test.YtfknaeamhcpfgaaGreatPlM
namespace Go.Proofs.YtfknaeamhcpfgaaGreat
open Go Go.Proofs.YtfknaeamhcpfgaaGreat.Eng
set_option linter.all false
open Hull (Pt Pol tn lx at_ at_some at_of at_mem Asc)
def Rel (a q b:Pt):Prop:=dt a q<dt a b∨(dt a q=dt a b∧(q=b∨lx b q))
theorem Rel.refl (a q:Pt):Rel a q q:=.inr ⟨rfl,.inl rfl⟩
theorem Rel.trans {a x y z:Pt}(h:Rel a x y)(k:Rel a y z):Rel a x z:=by
 rcases h with h | ⟨h,h'⟩<;>rcases k with k | ⟨k,k'⟩
 ·exact .inl (by omega)
 ·exact .inl (by omega)
 ·exact .inl (by omega)
 ·refine .inr ⟨by omega,?_⟩
  rcases h' with rfl | h'<;>rcases k' with rfl | k'
  ·exact .inl rfl
  ·exact .inr k'
  ·exact .inr h'
  ·exact .inr (Hull.lx_trans k' h')
theorem Rel.uniq {a x y:Pt}(h:Rel a x y)(k:Rel a y x):x=y:=by
 rcases h with h | ⟨h,h'⟩<;>rcases k with k | ⟨k,k'⟩
 ·omega
 ·omega
 ·omega
 ·rcases h' with rfl | h'
  ·rfl
  ·rcases k' with rfl | k'
   ·rfl
   ·exact(Hull.lx_asym h' k').elim
def btr (a x b:Pt):Bool:=decide (dt a x>dt a b)||(dt a x==dt a b&&decide (lx x b))
theorem btr_rel {a x b:Pt}:(btr a x b=true→Rel a b x)∧(btr a x b=false→Rel a x b):=by
 unfold btr Rel;constructor
 ·intro h;simp only[Bool.or_eq_true,decide_eq_true_eq,Bool.and_eq_true,beq_iff_eq]at h;rcases h with h | ⟨h,k⟩
  ·exact .inl h
  ·exact .inr ⟨h.symm,.inr k⟩
 ·intro h;simp only[Bool.or_eq_false_iff,decide_eq_false_iff_not,Bool.and_eq_false_imp,beq_iff_eq]at h;obtain⟨h1,h2⟩:=h;rcases(by omega:dt a x<dt a b∨dt a x=dt a b)with h | h
  ·exact .inl h
  ·refine .inr ⟨h,?_⟩;have:=h2 h;rcases Hull.lx_tri x b with k | k | k
   ·exact absurd k this
   ·exact .inl k
   ·exact .inr k
def bix (H:List Pt)(a:Pt):Nat→Nat
 | 0=>0
 | k+1=>cond (btr a (at_ H k) (at_ H (bix H a k))) k (bix H a k)
theorem bix_ok {H:List Pt}{a:Pt}(h0:0<H.length):∀k,k≤H.length→bix H a k<H.length∧∀j,j<k→Rel a (at_ H j) (at_ H (bix H a k))
 | 0,_=>⟨h0,fun j hj=>by omega⟩
 | k+1,hk=>by
  obtain⟨h1,h2⟩:=bix_ok h0 k (by omega)
  simp only[bix];cases hb:btr a (at_ H k) (at_ H (bix H a k))with
  | true =>
   rw[cond_true];refine⟨by omega,fun j hj=>?_⟩
   by_cases e:j=k
   ·rw[e];exact .refl _ _
   ·exact(h2 j (by omega)).trans (btr_rel.1 hb)
  | false =>
   rw[cond_false];refine⟨h1,fun j hj=>?_⟩;by_cases e:j=k
   ·rw[e];exact btr_rel.2 hb
   ·exact h2 j (by omega)
theorem before_vec {x y:Pt}(hx:Bd 1000 x)(hy:Bd 1000 y):i_BeforeVector (em x) (em y)=some (decide (lx x y)):=by
 unfold i_BeforeVector;rw[i_IsVector_eq (by simp[em,lim_eq]),i_IsVector_eq (by simp[em,lim_eq]),vecB_em hx,vecB_em hy]
 simp only[Option.bind_some,cond_true,show(((em x).length:Int)==((em y).length:Int))=true from rfl,compare_em]
 congr 1
 by_cases h:lx x y
 ·rw[if_pos h];simp[h]
 ·rw[if_neg h];by_cases k:lx y x
  ·rw[if_pos k];simp[h]
  ·rw[if_neg k];simp[h]
theorem i_best {H:List Pt}{a:Pt}(h0:0<H.length)(h12:H.length≤12)(hB:∀q∈H,Bd 50 q)(ha:Bd 1000 a):iter (i_BestCorner_s6 (em a) (H.map em)) (0,[0])=some [bix H a H.length]:=by
 have:=iter_up (step:=i_BestCorner_s6 (em a) (H.map em)) H.length (fun k=>((k:Int),[bix H a k])) [bix H a H.length] (fun k hk=>by
  obtain⟨b1,_⟩:=bix_ok (a:=a) h0 k (by omega)
  have gk:(H.map em)[k]? = some (em (at_ H k)):=by rw[List.getElem?_map,at_some hk];rfl
  have gb:(H.map em)[bix H a k]? = some (em (at_ H (bix H a k))):=by rw[List.getElem?_map,at_some b1];rfl
  have d1:=(dot_em (ha.mono (by decide)) ((hB _ (at_mem hk)).mono (by decide))).1
  have d2:=(dot_em (ha.mono (by decide)) ((hB _ (at_mem b1)).mono (by decide))).1
  have bf:=before_vec ((hB _ (at_mem hk)).mono (by decide)) ((hB _ (at_mem b1)).mono (by decide:(50:Int)≤1000))
  unfold i_BestCorner_s6;simp only;rw[show decide ((k:Int)<((H.map em).length:Int))=true from by simp;omega,cond_true,inIdx_nat (by simpa using hk)]
  simp only[Option.bind_some,Int.toNat_natCast,List.length_map,hk,if_true,gk,i_BestCorner_at,gb,d1,d2,bf];rw[wrap_small (by omega) (by omega)]
  simp only[bix,btr];generalize decide (dt a (at_ H k)>dt a (at_ H (bix H a k)))=p1;generalize (dt a (at_ H k)==dt a (at_ H (bix H a k)))=p2;generalize decide (lx (at_ H k) (at_ H (bix H a k)))=p3;cases p1<;>cases p2<;>cases p3<;>rfl) (by
  unfold i_BestCorner_s6;simp)
 exact this
def bst2 (S:List Pt)(a:Pt):Nat→Pt
 | 0=>at_ S 0
 | k+1=>if dt a (at_ S (k+1))>dt a (bst2 S a k)then at_ S (k+1)else bst2 S a k
theorem asc_at {S:List Pt}(hA:Asc S){i j:Nat}(hij:i<j)(hj:j<S.length):lx (at_ S i) (at_ S j):=by
 have h:=List.pairwise_iff_getElem.1 hA i j (by omega) hj hij
 rwa [←at_of (List.getElem?_eq_getElem (by omega:i<S.length)),←at_of (List.getElem?_eq_getElem hj)]at h
theorem bst2_ok {S:List Pt}{a:Pt}(hA:Asc S):∀k,k<S.length→(∃i,i≤k∧bst2 S a k=at_ S i)∧∀j,j≤k→Rel a (at_ S j) (bst2 S a k)
 | 0,h=>⟨⟨0,by omega,rfl⟩,fun j hj=>by
   rw[show j=0 by omega];exact .refl _ _⟩
 | k+1,h=>by
  obtain⟨⟨i,hi,e⟩,h2⟩:=bst2_ok hA k (by omega)
  simp only[bst2];by_cases c:dt a (at_ S (k+1))>dt a (bst2 S a k)
  ·rw[if_pos c];refine⟨⟨k+1,by omega,rfl⟩,fun j hj=>?_⟩
   by_cases ej:j=k+1
   ·rw[ej];exact .refl _ _
   ·exact(h2 j (by omega)).trans (.inl c)
  ·rw[if_neg c];refine⟨⟨i,by omega,e⟩,fun j hj=>?_⟩
   by_cases ej:j=k+1
   ·rw[ej];rcases(by omega:dt a (at_ S (k+1))<dt a (bst2 S a k)∨dt a (at_ S (k+1))=dt a (bst2 S a k))with q | q
    ·exact .inl q
    ·refine .inr ⟨q,.inr ?_⟩;rw[e];exact asc_at hA (by omega) h
   ·exact h2 j (by omega)
theorem s_best {S:List Pt}{a:Pt}(h0:0<S.length)(h12:S.length≤12)(hB:∀q∈S,Bd 50 q)(ha:Bd 1000 a)(hA:Asc S):iter (s_BestCorner_s11 (em a) (S.map em)) (em (at_ S 0),1)=some (em (bst2 S a (S.length-1))):=by
 have:=iter_up (step:=s_BestCorner_s11 (em a) (S.map em)) (S.length-1) (fun k=>(em (bst2 S a k),((k+1:Nat):Int))) (em (bst2 S a (S.length-1))) (fun k hk=>by
  obtain⟨⟨i,hi,e⟩,_⟩:=bst2_ok (a:=a) hA k (by omega)
  have hk1:k+1<S.length:=by omega
  have bb:Bd 50 (bst2 S a k):=by rw[e];exact hB _ (at_mem (by omega))
  have d1:=(dot_em (ha.mono (by decide)) ((hB _ (at_mem hk1)).mono (by decide))).2
  have d2:=(dot_em (ha.mono (by decide)) (bb.mono (by decide))).2
  unfold s_BestCorner_s11;simp only;rw[show decide (((k+1:Nat):Int)<((S.map em).length:Int))=true from by simp;omega,cond_true,idxP hk1]
  simp only[Option.bind_some,d1,d2];rw[wrap_small (x:=((k+1:Nat):Int)+1) (by omega) (by omega)]
  simp only[bst2];by_cases c:dt a (at_ S (k+1))>dt a (bst2 S a k)
  ·rw[if_pos c,show decide (dt a (at_ S (k+1))>dt a (bst2 S a k))=true from by simpa using c,cond_true]
   simp
  ·rw[if_neg c,show decide (dt a (at_ S (k+1))>dt a (bst2 S a k))=false from by simpa using c,cond_false]
   simp) (by
  unfold s_BestCorner_s11;simp only;rw[show decide (((S.length-1+1:Nat):Int)<((S.map em).length:Int))=false from by simp;omega,cond_false])
 exact this
def bestS (r:Rg)(a:List Int):List Int×Bool :=
 if(wholeS r).2&&(vecB a&&a.length==2)then(em (at_ ((wholeS r).1.map toP) (bix ((wholeS r).1.map toP) (toP a) (wholeS r).1.length)),true)else([],false)
theorem best_eqS {r:Rg}(hl:r.2.length≤lim)(hh:∀h∈r.2,h.1.length≤lim){a:List Int}(ha:a.length≤lim):s_BestCorner r a=some (bestS r a)∧i_BestCorner r a=some (bestS r a):=by
 obtain⟨w1,w2⟩:=whole_eq hl hh;unfold s_BestCorner i_BestCorner bestS;have w1:s_WholeHull (r.1,r.2)=_:=w1;rw[w1,w2];simp only[Option.bind_some];cases hw:(wholeS r).2 with
 | false=>exact⟨rfl,rfl⟩
 | true =>
  rw[Bool.not_true,cond_false,cond_false,s_IsVector_eq ha,i_IsVector_eq ha];simp only[Option.bind_some,Bool.true_and];cases hv:vecB a with
  | false=>exact⟨rfl,rfl⟩
  | true =>
   rw[Bool.not_true,cond_false,cond_false,Bool.true_and];by_cases h2:a.length=2
   ·obtain⟨A,rfl,bA⟩:=vec2 hv h2;rw[show(((em A).length:Int) != (2:Int))=false from rfl,cond_false,cond_false,show((em A).length==2)=true from rfl,if_pos rfl]
    have hpp:isPoly (wholeS r).1=true:=by
     unfold wholeS at hw ⊢;split
     ·rename_i hc;rw[if_pos hc]at hw;exact hullS_poly hw
     ·rename_i hc;rw[if_neg hc]at hw;cases hw
    obtain⟨H,eH,hB,g3,g12,hpol⟩:=poly_of hpp;rw[eH,map_toP,toP_em];have e1:s_BestCorner_s6 (wholeS r)=s_HullOf_s5 (H.map em):=by
     rw[←eH];rfl
    have e2:=i_best (a:=A) (by omega) g12 hB bA
    obtain⟨sA,sm⟩:=Hull.sorted_spec H;have sl:=sorted_len H;have s0:0<(Hull.sorted H).length:=by
     cases hs:Hull.sorted H with
     | nil =>
      have:=(sm (at_ H 0)).2 (at_mem (by omega))
      rw[hs]at this;cases this
     | cons _ _=>simp
    have e3:=s_best (a:=A) s0 (by omega) (fun q hq=>hB q ((sm q).1 hq)) bA sA
    obtain⟨b1,b2⟩:=bix_ok (a:=A) (H:=H) (by omega) H.length (Nat.le_refl _)
    obtain⟨⟨i,hi,c1⟩,c2⟩:=bst2_ok (a:=A) sA ((Hull.sorted H).length-1) (by omega)
    have same:bst2 (Hull.sorted H) A ((Hull.sorted H).length-1)=at_ H (bix H A H.length):=by
     refine Rel.uniq (a:=A) ?_ ?_
     ·rw[c1];have hm:=(sm _).1 (at_mem (P:=Hull.sorted H) (k:=i) (by omega))
      obtain⟨j,hj,e⟩:=List.getElem_of_mem hm;rw[←e,←at_of (List.getElem?_eq_getElem hj)];exact b2 j hj
     ·have hm:=(sm _).2 (at_mem (P:=H) b1);obtain⟨j,hj,e⟩:=List.getElem_of_mem hm;rw[←e,←at_of (List.getElem?_eq_getElem hj)];exact c2 j (by omega)
    have gi:(H.map em)[bix H A H.length]? = some (em (at_ H (bix H A H.length))):=by rw[List.getElem?_map,at_some b1];rfl
    rw[e1,sorted_loop (by omega)]
    simp only[Option.bind_some,List.length_map];rw[show inIdx (Hull.sorted H).length (0:Int)=some ()from inIdx_nat (k:=0) s0,show inIdx H.length (0:Int)=some ()from inIdx_nat (k:=0) (by omega),show((0:Int).toNat:Int)=((0:Nat):Int)from rfl,idxP s0]
    simp only[Option.bind_some,e3,e2,show(0:Int).toNat<H.length from by simp;omega,if_true,gi,same,and_self]
   ·have h2':(((a.length:Nat):Int) != (2:Int))=true:=by simp;omega
    rw[h2',cond_true,cond_true,if_neg (by simp[h2])]
    exact⟨rfl,rfl⟩
end Go.Proofs.YtfknaeamhcpfgaaGreat
