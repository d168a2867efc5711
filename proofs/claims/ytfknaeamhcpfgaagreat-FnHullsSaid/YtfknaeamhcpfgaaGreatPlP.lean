/-
  Polygons: both ways to tell one. Plain, no condition.
-/
import Derived.Test.YtfknaeamhcpfgaaGreatPlQ
namespace Go.Proofs.YtfknaeamhcpfgaaGreat
open Go Go.Proofs.YtfknaeamhcpfgaaGreat.Eng
open Hull (Pt tn lx)
set_option linter.all false
def em (q:Pt):List Int:=[q.1,q.2]
def toP (v:List Int):Pt:=(v.getD 0 0,v.getD 1 0)
def Bd (m:Int)(q:Pt):Prop:=-m≤q.1∧q.1≤m∧-m≤q.2∧q.2≤m
@[simp] theorem toP_em (q:Pt):toP (em q)=q:=rfl
theorem em_inj {a b:Pt}(h:em a=em b):a=b:=by rw[←toP_em a,h,toP_em]
theorem isPt_em {m:Int}{v:List Int}(h:isPt m v=true):v=em (toP v)∧Bd m (toP v):=by
 obtain⟨a,b,rfl,h1,h2,h3,h4⟩:=isPt_iff.1 h;exact⟨rfl,h1,h2,h3,h4⟩
theorem isPt_of {m:Int}{q:Pt}(h:Bd m q):isPt m (em q)=true:=isPt_iff.2 ⟨_,_,rfl,h.1,h.2.1,h.2.2.1,h.2.2.2⟩
theorem pts_of {m:Int}{p:List (List Int)}(h:p.all (isPt m)=true):∃P:List Pt,p=P.map em∧∀q∈P,Bd m q:=by
 rw[List.all_eq_true]at h;refine⟨p.map toP,?_,fun q hq=>?_⟩
 ·rw[List.map_map];have:p.map (em∘toP)=p.map id:=List.map_congr_left fun v hv=>((isPt_em (h v hv)).1).symm;rw[this];simp
 ·obtain⟨v,hv,rfl⟩:=List.mem_map.1 hq;exact(isPt_em (h v hv)).2
theorem all_pts {m:Int}{P:List Pt}(h:∀q∈P,Bd m q):(P.map em).all (isPt m)=true:=by
 rw[List.all_eq_true];intro v hv;obtain⟨q,hq,rfl⟩:=List.mem_map.1 hv;exact isPt_of (h q hq)
theorem idx0 {a b:Int}:idx [a,b] 0=some a:=rfl
theorem idx1 {a b:Int}:idx [a,b] 1=some b:=rfl
theorem wrap_small {x:Int}(h:-4611686018427387904≤x)(h2:x≤4611686018427387904):IntKind.i64.wrap x=x:=wrap_id (by omega) (by omega)
theorem minus_em {m:Int}(hm:m≤1000000){a b:Pt}(ha:Bd m a)(hb:Bd m b):i_minus (em a) (em b)=some [a.1-b.1,a.2-b.2]:=by
 unfold Bd at ha hb;simp only[i_minus,em,idx0,idx1,Option.bind_some];rw[wrap_small (by omega) (by omega),wrap_small (by omega) (by omega)]
theorem turn_em {m:Int}(hm:m≤1000000){a b c:Pt}(ha:Bd m a)(hb:Bd m b)(hc:Bd m c):i_turn (em a) (em b) (em c)=some (tn a b c):=by
 simp only[i_turn,minus_em hm hb ha,minus_em hm hc ha,Option.bind_some];unfold Bd at ha hb hc;rw[cross_eq ⟨by omega,by omega⟩ ⟨by omega,by omega⟩ ⟨by omega,by omega⟩ ⟨by omega,by omega⟩]
 rfl
theorem less_em {m:Int}(hm:m≤1000000){a b:Pt}(ha:Bd m a)(hb:Bd m b):s_l2Less (em a) (em b)=some [a.1-b.1,a.2-b.2]:=by
 unfold Bd at ha hb;have h:=iter_up (step:=s_l2Less_s3 (em a) (em b)) 2 (fun k=>(([a.1-b.1,a.2-b.2].take k:List Int),(k:Int))) [a.1-b.1,a.2-b.2] (fun k hk=>by
  have hk:k=0∨k=1:=by omega
  rcases hk with rfl | rfl
  ·show cond (decide ((0:Int)<2)) _ _=_;simp only[show decide ((0:Int)<2)=true from rfl,cond_true]
   show((idx (em a) 0).bind fun v2=>(idx (em b) 0).bind fun v3=>(appD 8 ([]:List Int) [IntKind.i64.wrap (v2-v3)]).bind _)=_;simp only[em,idx0,Option.bind_some];rw[wrap_small (by omega) (by omega),appD_some (by simp[lim_eq]) (by simp[lim_eq])]
   simp only[Option.bind_some];rfl
  ·show cond (decide ((1:Int)<2)) _ _=_;simp only[show decide ((1:Int)<2)=true from rfl,cond_true]
   show((idx (em a) 1).bind fun v2=>(idx (em b) 1).bind fun v3=>(appD 8 [a.1-b.1] [IntKind.i64.wrap (v2-v3)]).bind _)=_;simp only[em,idx1,Option.bind_some];rw[wrap_small (by omega) (by omega),appD_some (by simp[lim_eq]) (by simp[lim_eq])]
   simp only[Option.bind_some];rfl) (by rfl)
 simp only[s_l2Less];have e:(([],0):List Int×Int)=(([a.1-b.1,a.2-b.2].take 0:List Int),((0:Nat):Int)):=rfl;rw[e,h];rfl
theorem l7Turn_em {m:Int}(hm:m≤1000000){a b c:Pt}(ha:Bd m a)(hb:Bd m b)(hc:Bd m c):s_l7Turn (em a) (em b) (em c)=some (tn a b c):=by
 simp only[s_l7Turn,less_em hm hb ha,less_em hm hc hb,Option.bind_some];unfold Bd at ha hb hc;rw[l7Cross_eq ⟨by omega,by omega⟩ ⟨by omega,by omega⟩ ⟨by omega,by omega⟩ ⟨by omega,by omega⟩,Hull.tn_e]
 rfl
theorem before_em (a b:Pt):s_l2Before (em a) (em b)=some (decide (lx a b)):=by
 have e0:s_l2Before_s2 (em a) (em b) 0=if a.1=b.1 then some (.inl 1)else some (.inr (.inr (decide (a.1<b.1)))):=by
  show cond (decide ((0:Int)<2)) (cond (decide ((0:Int)<2)) ((idx (em a) 0).bind fun v2=>(idx (em b) 0).bind fun v3=>cond (v2 != v3) ((idx (em a) 0).bind fun v4=>(idx (em b) 0).bind fun v5=>_) _) _) _=_;simp only[show decide ((0:Int)<2)=true from rfl,cond_true,em,idx0,Option.bind_some]
  by_cases h:a.1=b.1
  ·rw[if_pos h,show(a.1 != b.1)=false from by simp[h]];rfl
  ·rw[if_neg h,show(a.1 != b.1)=true from by simp[h]];rfl
 have e1:s_l2Before_s2 (em a) (em b) 1=if a.2=b.2 then some (.inl 2)else some (.inr (.inr (decide (a.2<b.2)))):=by
  show cond (decide ((1:Int)<2)) (cond (decide ((1:Int)<2)) ((idx (em a) 1).bind fun v2=>(idx (em b) 1).bind fun v3=>cond (v2 != v3) ((idx (em a) 1).bind fun v4=>(idx (em b) 1).bind fun v5=>_) _) _) _=_;simp only[show decide ((1:Int)<2)=true from rfl,cond_true,em,idx1,Option.bind_some]
  by_cases h:a.2=b.2
  ·rw[if_pos h,show(a.2 != b.2)=false from by simp[h]];rfl
  ·rw[if_neg h,show(a.2 != b.2)=true from by simp[h]];rfl
 have e2:s_l2Before_s2 (em a) (em b) 2=some (.inr (.inl ())):=rfl;unfold s_l2Before;by_cases h1:a.1=b.1
 ·rw[if_pos h1]at e0;rw[iter_next e0];by_cases h2:a.2=b.2
  ·rw[if_pos h2]at e1;rw[iter_next e1,iter_end e2];have:¬lx a b:=by unfold lx;omega
   simp[this]
  ·rw[if_neg h2]at e1;rw[iter_end e1];have:lx a b↔a.2<b.2:=by unfold lx;omega
   simp[this]
 ·rw[if_neg h1]at e0;rw[iter_end e0];have:lx a b↔a.1<b.1:=by unfold lx;omega
  simp[this]
theorem cmp_eq (x y:Int):g_cmp_Compare x y=some (if x<y then -1 else if x>y then 1 else 0):=by
 simp only[g_cmp_Compare,g_cmp_isNaN,Option.bind_some,bne_self_eq_false,cond_false,cond_ite,decide_eq_true_eq,Bool.false_eq_true,if_false];by_cases h:x<y
 ·simp[h]
 ·by_cases h2:x>y<;>simp[h,h2]
theorem compare_em (a b:Pt):g_slices_Compare (em a) (em b)=some (if lx a b then -1 else if lx b a then 1 else 0):=by
 have e0:g_slices_Compare_s2 (em a) (em b) 0=if a.1=b.1 then some (.inl 1)else some (.inr (.inr (if a.1<b.1 then -1 else 1))):=by
  show cond (decide ((0:Int)<2)) ((idx (em a) 0).bind fun v2=>cond (decide ((0:Int)≥2)) _ ((idx (em b) 0).bind fun v3=>(g_cmp_Compare v2 v3).bind fun v4=>cond (v4 != 0) _ _)) _=_;simp only[show decide ((0:Int)<2)=true from rfl,show decide ((0:Int)≥2)=false from rfl,cond_true,cond_false,em,idx0,Option.bind_some,cmp_eq]
  by_cases h:a.1=b.1
  ·rw[if_pos h,if_neg (by omega),if_neg (by omega)];rfl
  ·rw[if_neg h];by_cases h2:a.1<b.1
   ·simp only[if_pos h2];rfl
   ·simp only[if_neg h2];rw[if_pos (by omega)];rfl
 have e1:g_slices_Compare_s2 (em a) (em b) 1=if a.2=b.2 then some (.inl 2)else some (.inr (.inr (if a.2<b.2 then -1 else 1))):=by
  show cond (decide ((1:Int)<2)) ((idx (em a) 1).bind fun v2=>cond (decide ((1:Int)≥2)) _ ((idx (em b) 1).bind fun v3=>(g_cmp_Compare v2 v3).bind fun v4=>cond (v4 != 0) _ _)) _=_;simp only[show decide ((1:Int)<2)=true from rfl,show decide ((1:Int)≥2)=false from rfl,cond_true,cond_false,em,idx1,Option.bind_some,cmp_eq]
  by_cases h:a.2=b.2
  ·rw[if_pos h,if_neg (by omega),if_neg (by omega)];rfl
  ·rw[if_neg h];by_cases h2:a.2<b.2
   ·simp only[if_pos h2];rfl
   ·simp only[if_neg h2];rw[if_pos (by omega)];rfl
 have e2:g_slices_Compare_s2 (em a) (em b) 2=some (.inr (.inl ())):=rfl;unfold g_slices_Compare;by_cases h1:a.1=b.1
 ·rw[if_pos h1]at e0;rw[iter_next e0];by_cases h2:a.2=b.2
  ·rw[if_pos h2]at e1;rw[iter_next e1,iter_end e2];have n1:¬lx a b:=by unfold lx;omega
   have n2:¬lx b a:=by unfold lx;omega
   rw[if_neg n1,if_neg n2];rfl
  ·rw[if_neg h2]at e1;rw[iter_end e1];by_cases h3:a.2<b.2
   ·have:lx a b:=by unfold lx;omega
    rw[if_pos h3,if_pos this];rfl
   ·have n1:¬lx a b:=by unfold lx;omega
    have:lx b a:=by unfold lx;omega
    rw[if_neg h3,if_neg n1,if_pos this];rfl
 ·rw[if_neg h1]at e0;rw[iter_end e0];by_cases h3:a.1<b.1
  ·have:lx a b:=by unfold lx;omega
   rw[if_pos h3,if_pos this];rfl
  ·have n1:¬lx a b:=by unfold lx;omega
   have:lx b a:=by unfold lx;omega
   rw[if_neg h3,if_neg n1,if_pos this];rfl
theorem l2Same_eq {xs ys:List Int}(hl:xs.length≤lim):s_l2Same xs ys=some (xs==ys):=by
 unfold s_l2Same;by_cases h:xs.length=ys.length
 ·have e:((xs.length:Int) != (ys.length:Int))=false:=by simp[h]
  rw[e,cond_false];have:=iter_eqs (step:=s_l2Same_s4 xs ys) xs ys (fun a b=>a==b) h (fun k x y hx hy=>by
   have hk:=len_lt hx;unfold s_l2Same_s4;have d:decide ((k:Int)<(xs.length:Int))=true:=by simp;omega
   rw[d,cond_true,idx_some hx,idx_some hy];simp only[Option.bind_some];rw[wrap_succ (by omega)]
   by_cases hxy:x=y
   ·simp[hxy]
   ·have:(x != y)=true:=by simp[hxy]
    rw[this,cond_true,show(x==y)=false from by simp[hxy]]
    rfl) (by
   unfold s_l2Same_s4;simp)
  rw[this,eqL_beq];cases hq:xs==ys<;>simp
 ·have e:((xs.length:Int) != (ys.length:Int))=true:=by simp;omega
  rw[e,cond_true];have:(xs==ys)=false:=by
   cases hq:xs==ys with
   | false=>rfl
   | true=>exact absurd (by rw[eq_of_beq hq]) h
  rw[this]
theorem l7Flat_eq {p:List (List Int)}(hl:p.length≤lim)(hx:∀v∈p,v.length≤lim):s_l7Flat p=some (p.all (isPt 50)):=by
 have:=iter_all (step:=s_l7Flat_s2 p) p (isPt 50) (fun k x hkx=>by
  have hk:=len_lt hkx;have hxm:=List.mem_of_getElem? hkx;unfold s_l7Flat_s2;have d:decide ((k:Int)<(p.length:Int))=true:=by simp;omega
  rw[d,cond_true,idx_some hkx];simp only[Option.bind_some];rw[l2Small_eq (hx x hxm) (by decide) (by decide),wrap_succ (by omega)]
  simp only[Option.bind_some];unfold isPt;by_cases h2:x.length=2
  ·have:((x.length:Int) != 2)=false:=by simp;omega
   rw[this,cond_false];have:(x.length==2)=true:=by simp[h2]
   rw[this,Bool.true_and];cases x.all (inR (-50) 50)<;>rfl
  ·have:((x.length:Int) != 2)=true:=by simp;omega
   rw[this,cond_true];have:(x.length==2)=false:=by simp[h2]
   rw[this];rfl) (by
  unfold s_l7Flat_s2;simp)
 unfold s_l7Flat;rw[this];cases p.all (isPt 50)<;>rfl
theorem isPoints_eq {p:List (List Int)}(hl:p.length≤lim)(hx:∀v∈p,v.length≤lim):iter (i_IsPolygon_s4 p) 0=some (if p.all (isPt 50)then .inl ()else .inr false) :=
 iter_all (step:=i_IsPolygon_s4 p) p (isPt 50) (fun k x hkx=>by
  have hk:=len_lt hkx;have hxm:=List.mem_of_getElem? hkx;unfold i_IsPolygon_s4;have d:decide ((k:Int)<(p.length:Int))=true:=by simp;omega
  rw[d,cond_true,idx_some hkx];simp only[Option.bind_some];rw[isPoint_eq (hx x hxm) (by decide) (by decide),wrap_succ (by omega)]
  simp only[Option.bind_some];cases isPt 50 x<;>rfl) (by
  unfold i_IsPolygon_s4;simp)
end Go.Proofs.YtfknaeamhcpfgaaGreat
