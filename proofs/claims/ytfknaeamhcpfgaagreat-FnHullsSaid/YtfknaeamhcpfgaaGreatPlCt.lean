/-
  Cuts. Plain, no condition.
-/
import Derived.Test.YtfknaeamhcpfgaaGreatPlHv
import Derived.Test.YtfknaeamhcpfgaaGreatPlTh
import Derived.Test.YtfknaeamhcpfgaaGreatPlFi
namespace Go.Proofs.YtfknaeamhcpfgaaGreat
open Go Go.Proofs.YtfknaeamhcpfgaaGreat.Eng
set_option linter.all false
abbrev Ra:Type:=List Int×Int
def ratB (p:Ra):Bool:=inR 1 100000 p.2&&p.1.all (inR (-10000000) 10000000)
theorem s_rational_eq {p:Ra}(hl:p.1.length≤lim):s_l6Fine p=some (ratB p):=by
 unfold s_l6Fine ratB;rw[l1In_eq,l2Small_eq hl (by omega) (by omega)]
 cases inR 1 100000 p.2<;>rfl
theorem half_dot {h:Hf} {p:Ra} (hl:h.1.length = p.1.length) (h3:h.1.length≤3) (ha:∀ x∈h.1,-20≤x∧x≤20) (hb:-201≤h.2∧h.2≤201) (hp:ratB p = true) :
  i_dot h.1 p.1=some (dtL h.1 p.1)∧s_l2Dot h.1 p.1=some (dtL h.1 p.1)∧IntKind.i64.wrap (h.2*p.2)=h.2*p.2:=by
 unfold ratB at hp;simp only[Bool.and_eq_true,inR_iff,List.all_eq_true]at hp;obtain⟨⟨p1,p2⟩,p3⟩:=hp;have d:=dotG_eq hl (by omega) fun q hq=>by
  have hq:=List.of_mem_zip hq;have:=abs_mul_le (ha _ hq.1).1 (ha _ hq.1).2 (p3 _ hq.2).1 (p3 _ hq.2).2;omega
 refine⟨d.1,d.2,?_⟩;have:=abs_mul_le (a:=h.2) (b:=p.2) (m:=201) (n:=100000) hb.1 hb.2 (by omega) p2
 exact wrap_small (by omega) (by omega)
def hasRat (r:Rg)(p:Ra):Bool:=regB r&&ratB p&&((p.1.length:Int)==r.1)&&r.2.all fun h=>!decide (dtL h.1 p.1>h.2*p.2)
theorem half_key {r:Rg}{p:Ra}(h1:regB r=true)(h2:ratB p=true)(h3:((p.1.length:Int)==r.1)=true):∀h∈r.2,i_dot h.1 p.1=some (dtL h.1 p.1)∧s_l2Dot h.1 p.1=some (dtL h.1 p.1)∧IntKind.i64.wrap (h.2*p.2)=h.2*p.2:=fun h hm=>by
 unfold regB at h1;simp only[Bool.and_eq_true,decide_eq_true_eq,List.all_eq_true]at h1;have q:=halfB_iff.1 (h1.2 h hm);have e:=q.len;have e3:(p.1.length:Int)=r.1:=by simpa using h3
 exact half_dot (p:=p) (h:=h) (by omega) q.small q.all ⟨by have:=q.b1;omega,by have:=q.b2;omega⟩ h2
theorem reg_lt {r:Rg}(h1:regB r=true){k:Nat}(h:k<r.2.length):IntKind.i64.wrap ((k:Int)+1)=(k:Int)+1:=by
 unfold regB at h1;simp only[Bool.and_eq_true,decide_eq_true_eq,List.all_eq_true]at h1;exact wrap_small (by have:=h1.1.2;omega) (by have:=h1.1.2;omega)
theorem hasRatS_eq {r:Rg}{p:Ra}(hl:r.2.length≤lim)(hh:∀h∈r.2,h.1.length≤lim)(pl:p.1.length≤lim):s_HasRational r p=some (hasRat r p):=by
 unfold s_HasRational hasRat;rw[s_IsRegion_eq (r:=(r.1,r.2)) hl hh,s_rational_eq (p:=(p.1,p.2)) pl];simp only[Option.bind_some];cases h1:regB (r.1,r.2)with
 | false=>rfl
 | true =>
  cases h2:ratB (p.1,p.2)with
  | false=>rfl
  | true =>
   simp only[Bool.not_true,cond_false,cond_true,Bool.true_and];cases h3:((p.1.length:Int)==r.1)with
   | false =>
    rw[show((p.1.length:Int) != r.1)=true from by rw[bne,h3];rfl]
    rfl
   | true =>
    rw[show((p.1.length:Int) != r.1)=false from by rw[bne,h3];rfl,cond_false,Bool.true_and]
    have key:=half_key (r:=r) (p:=p) h1 h2 h3;have A:=iter_all (step:=s_HasRational_s4 r p) r.2 (fun h=>!decide (dtL h.1 p.1>h.2*p.2)) (fun k x hx=>by
     obtain⟨k1,k2,k3⟩:=key x (List.mem_of_getElem? hx);unfold s_HasRational_s4;rw[show decide ((k:Int)<(r.2.length:Int))=true from by have:=len_lt hx;simp;omega,cond_true,idx_some hx]
     simp only[Option.bind_some,k2,k3,reg_lt (r:=r) h1 (len_lt hx)];cases decide (dtL x.1 p.1>x.2*p.2)<;>rfl) (by unfold s_HasRational_s4;simp)
    rw[A];cases r.2.all fun h=>!decide (dtL h.1 p.1>h.2*p.2)<;>rfl
theorem hasFrac_eq {r:Rg}{p:Ra}(h1:regB r=true)(h2:ratB p=true)(h3:((p.1.length:Int)==r.1)=true):i_hasFraction (r.1,r.2) (p.1,p.2)=some (hasRat r p):=by
 have key:=half_key h1 h2 h3;have B:=iter_all (step:=i_hasFraction_s2 (r.1,r.2) (p.1,p.2)) r.2 (fun h=>!decide (dtL h.1 p.1>h.2*p.2)) (fun k x hx=>by
  obtain⟨k1,k2,k3⟩:=key x (List.mem_of_getElem? hx);unfold i_hasFraction_s2;simp only;rw[show decide ((k:Int)<(r.2.length:Int))=true from by have:=len_lt hx;simp;omega,cond_true,idx_some hx]
  simp only[Option.bind_some,k1,k3,reg_lt h1 (len_lt hx)];cases decide (dtL x.1 p.1>x.2*p.2)<;>rfl) (by unfold i_hasFraction_s2;simp)
 unfold i_hasFraction hasRat;rw[h1,h2,h3,B];simp only[Bool.true_and];cases r.2.all fun h=>!decide (dtL h.1 p.1>h.2*p.2)<;>rfl
theorem tdiv_bd {a b:Int}:(a.tdiv b).natAbs≤a.natAbs:=by
 rw[Int.natAbs_tdiv];exact Nat.div_le_self _ _
abbrev z0:Hf:=(([]:List Int),(0:Int))
end Go.Proofs.YtfknaeamhcpfgaaGreat
