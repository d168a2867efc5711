/-
  Plain: tight regions. No condition.
-/
import Derived.Test.YtfknaeamhcpfgaaGreatPlVk
import Derived.Test.YtfknaeamhcpfgaaGreatPlWh
namespace Go.Proofs.YtfknaeamhcpfgaaGreat
open Go Go.Proofs.YtfknaeamhcpfgaaGreat.Eng
set_option linter.all false
theorem pts2_all:∀a:Fin 13,∀b:Fin 13,([(a.val:Int)-6,(b.val:Int)-6]:List Int)∈ptsL 2:=by decide +kernel
theorem pts2_mem {v:List Int}(hl:v.length=2)(hb:v.all (inR (-6) 6)=true):v∈ptsL 2:=by
 obtain⟨a,b,rfl⟩:=row_two hl;simp only[List.all_cons,List.all_nil,Bool.and_true,Bool.and_eq_true,inR_iff]at hb;have:=pts2_all ⟨(a+6).toNat,by omega⟩ ⟨(b+6).toNat,by omega⟩
 simp only at this
 rwa [show(((a+6).toNat:Nat):Int)-6=a from by omega,show(((b+6).toNat:Nat):Int)-6=b from by omega]at this
def tightB (r:Rg):Bool:=(wholeS r).2&&(vertS r).all fun p=>decide (p.2=1)&&p.1.all (inR (-6) 6)
theorem foldR_has {r:Rg}{n:Nat}:∀(S:List (List Hf)) (out:List Ra),(∀q∈out,hasRat r q=true)→∀q∈S.foldl (stepR r n) out,hasRat r q=true
 | [],out,h,q,hq=>h q hq
 | X::S,out,h,q,hq=>foldR_has S _ (fun z hz=>by
  unfold stepR at hz;split at hz
  ·rename_i hc;simp only[Bool.and_eq_true]at hc;rcases insR_mem hz with rfl | hz
   ·exact hc.2
   ·exact h z hz
  ·exact h z hz) q hq
theorem vertS_has {r:Rg}:∀q∈vertS r,hasRat r q=true:=by
 unfold vertS;split
 ·exact foldR_has _ [] (by simp)
 ·simp
theorem tight_eq {r:Rg}(hl:r.2.length≤lim)(hh:∀h∈r.2,h.1.length≤lim):i_IsTight r=some (tightB r)∧s_IsTight r=some (tightB r):=by
 obtain⟨w1,w2⟩:=whole_eq (r:=(r.1,r.2)) hl hh;obtain⟨n,hn3,hok,hvl⟩:=vertS_ok (r:=r);have hfit:∀q∈vertS r,q.1.length≤3:=fun q hq=>by rw[(hok.fine q hq).len];exact hn3
 unfold i_IsTight s_IsTight tightB;rw[w1,w2,Option.bind_some,Option.bind_some];cases hb:(wholeS (r.1,r.2)).2 with
 | false =>
  exact⟨rfl,rfl⟩
 | true =>
  rw[Bool.not_true,cond_false,cond_false,Bool.true_and];have hreg:regB r=true∧r.1=2:=by
   have hb':(wholeS r).2=true:=hb;unfold wholeS at hb';split at hb'
   ·rename_i hc;simpa using hc
   ·cases hb'
  obtain⟨hr,h2⟩:=hreg;obtain⟨m,hm⟩:=regOk hr;have hm2:m=2:=by have:=hm.dim;omega
  subst hm2;have v1:i_VerticesOf (r.1,r.2)=some (vertS r):=i_vertices_eq (r:=(r.1,r.2)) hl hh;have v2:s_VerticesOf (r.1,r.2)=some (vertS r):=vertS_eq (r:=(r.1,r.2)) hl hh;have p2:s_PointsIn (r.1,r.2)=some ((ptsL 2).filter (hasR r)):=(pointsIn_eq hm hr).2;constructor
  ·rw[v1,Option.bind_some];have A:=iter_all (step:=i_IsTight_s5 (vertS r)) (vertS r) (fun p=>decide (p.2=1)&&p.1.all (inR (-6) 6)) (fun k x hx=>by
    have hlt:=len_lt hx;have hxm:=List.mem_of_getElem? hx;unfold i_IsTight_s5;rw[show decide ((k:Int)<((vertS r).length:Int))=true from by simp;omega,cond_true,idx_some hx,Option.bind_some]
    by_cases h1:x.2=1
    ·rw[show(x.2 != (1:Int))=false from by simp[h1],cond_false,allWithin_eq (by have:=hfit x hxm;rw[lim_eq];omega),Option.bind_some,decide_eq_true h1,Bool.true_and,wrap_small (by omega) (by omega)]
     cases x.1.all (inR (-6) 6)<;>rfl
    ·rw[show(x.2 != (1:Int))=true from by simpa using h1,cond_true,decide_eq_false h1]
     rfl) (by unfold i_IsTight_s5;simp)
   rw[A];cases (vertS r).all fun p=>decide (p.2=1)&&p.1.all (inR (-6) 6)<;>rfl
  ·rw[p2,Option.bind_some,v2,Option.bind_some];obtain⟨q1,q2⟩:=pts_facts (n:=2) (by omega)
   generalize hP:(ptsL 2).filter (hasR r)=P;have hPl:P.length≤8000000:=by
    have:=List.length_filter_le (hasR r) (ptsL 2);rw[hP]at this;omega
   have hPe:∀v∈P,v.length=2∧∀x∈v,-6≤x∧x≤6:=fun v hv=>by
    rw[←hP]at hv;exact q1 v (List.mem_filter.1 hv).1
   have hin:∀p∈vertS r,(decide (p.2=1)&&P.any fun v=>v==p.1)=(decide (p.2=1)&&p.1.all (inR (-6) 6)):=fun p hp=>by
    by_cases h1:p.2=1
    ·rw[decide_eq_true h1,Bool.true_and,Bool.true_and,Bool.eq_iff_iff,List.any_eq_true];have hh:=vertS_has p hp;unfold hasRat at hh;simp only[Bool.and_eq_true,List.all_eq_true,beq_iff_eq]at hh;constructor
     ·rintro⟨v,hv,he⟩
      have he:v=p.1:=by simpa using he
      subst he;rw[List.all_eq_true];intro x hx;rw[inR_iff];exact(hPe _ hv).2 x hx
     ·intro hall;refine⟨p.1,?_,by simp⟩
      rw[←hP,List.mem_filter];refine⟨pts2_mem (by have:=hh.1.2;omega) hall,?_⟩
      unfold hasR;rw[List.all_eq_true];intro h hm';have:=hh.2 h hm';rw[h1,Int.mul_one]at this;simp only[Bool.not_eq_true',decide_eq_false_iff_not]at this;rw[decide_eq_true_eq];omega
    ·rw[decide_eq_false h1];rfl
   have L11:∀(k:Nat) (x:Ra),(vertS r)[k]? = some x→iter (s_IsTight_s11 P (vertS r) (k:Int)) (false,(0:Int))=some (decide (x.2=1)&&P.any fun v=>v==x.1):=fun k x hx=>by
    have hxm:=List.mem_of_getElem? hx;have hu:=iter_up (step:=s_IsTight_s11 P (vertS r) (k:Int)) P.length (fun j=>(decide (x.2=1)&&(P.take j).any fun v=>v==x.1,(j:Int))) (decide (x.2=1)&&P.any fun v=>v==x.1) (fun j hj=>by
     have hg:P[j]? = some P[j]:=List.getElem?_eq_getElem hj;have hany:(P.take (j+1)).any (fun v=>v==x.1)=((P.take j).any (fun v=>v==x.1)||P[j]==x.1):=by
      rw[List.take_add_one,hg,List.any_append,Option.toList_some,List.any_cons,List.any_nil,Bool.or_false]
     unfold s_IsTight_s11;simp only;rw[show decide ((j:Int)<(P.length:Int))=true from by simp;omega,cond_true,hany,wrap_small (by omega) (by omega)]
     by_cases h1:x.2=1
     ·rw[decide_eq_true h1,Bool.true_and,Bool.true_and];cases (P.take j).any fun v=>v==x.1 with
      | true=>rw[cond_true,Bool.true_or];rfl
      | false =>
       rw[cond_false,idx_some hx,Option.bind_some,show(x.2==(1:Int))=true from by simp[h1],cond_true,idx_some hg,Option.bind_some,Option.bind_some,l2Same_eq (by rw[(hPe _ (List.getElem_mem hj)).1,lim_eq];omega),Option.bind_some,Bool.false_or]
       rfl
     ·rw[decide_eq_false h1,Bool.false_and,Bool.false_and,cond_false,idx_some hx,Option.bind_some,show(x.2==(1:Int))=false from by simpa using h1,cond_false]
      rfl) (by
     unfold s_IsTight_s11;simp)
    simpa using hu
   have A:=iter_all (step:=s_IsTight_s7 P (vertS r)) (vertS r) (fun p=>decide (p.2=1)&&p.1.all (inR (-6) 6)) (fun k x hx=>by
    have hlt:=len_lt hx;have hxm:=List.mem_of_getElem? hx;unfold s_IsTight_s7;rw[show decide ((k:Int)<((vertS r).length:Int))=true from by simp;omega,cond_true,L11 k x hx,Option.bind_some,hin x hxm,wrap_small (by omega) (by omega)]
    cases decide (x.2=1)&&x.1.all (inR (-6) 6)<;>rfl) (by unfold s_IsTight_s7;simp)
   rw[A];cases (vertS r).all fun p=>decide (p.2=1)&&p.1.all (inR (-6) 6)<;>rfl
end Go.Proofs.YtfknaeamhcpfgaaGreat
