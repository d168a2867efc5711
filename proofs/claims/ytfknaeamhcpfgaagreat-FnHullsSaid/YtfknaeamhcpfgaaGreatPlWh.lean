/-
  Hulls of the whole points of regions. Plain, no condition.
-/
import Derived.Test.YtfknaeamhcpfgaaGreatPlSm
import Derived.Test.YtfknaeamhcpfgaaGreatPlRg
namespace Go.Proofs.YtfknaeamhcpfgaaGreat
open Go Go.Proofs.YtfknaeamhcpfgaaGreat.Eng Hull
set_option linter.all false
def wholeS (r:Rg):List (List Int)×Bool:=if regB r&&decide (r.1=2)then hullS ((ptsL 2).filter (hasR r))else([],false)
theorem whole_eq {r:Rg}(hl:r.2.length≤lim)(hh:∀h∈r.2,h.1.length≤lim):s_WholeHull r=some (wholeS r)∧i_WholeHull r=some (wholeS r):=by
 unfold s_WholeHull i_WholeHull wholeS;rw[s_IsRegion_eq (r:=(r.1,r.2)) hl hh,i_IsRegion_eq (r:=(r.1,r.2)) hl hh];simp only[Option.bind_some];cases hb:regB r with
 | false=>exact⟨rfl,rfl⟩
 | true =>
  rw[Bool.not_true,cond_false,cond_false];by_cases h2:r.1=2
  ·obtain⟨n,hn⟩:=regOk hb;have hn2:n=2:=by
    have:=hn.dim;omega
   subst hn2;obtain⟨p1,p2⟩:=pointsIn_eq hn hb;obtain⟨q1,q2⟩:=pts_facts (n:=2) (by omega)
   have hlen:((ptsL 2).filter (hasR r)).length≤lim:=by
    have:=List.length_filter_le (hasR r) (ptsL 2);rw[lim_eq];omega
   have heach:∀v∈(ptsL 2).filter (hasR r),v.length≤lim:=fun v hv=>by
    have:=(q1 v (List.mem_filter.1 hv).1).1;rw[lim_eq];omega
   rw[show(r.1 != (2:Int))=false from by simp[h2],cond_false,cond_false,decide_eq_true h2]
   have p1':i_PointsIn (r.1,r.2)=_:=p1;have p2':s_PointsIn (r.1,r.2)=_:=p2;rw[p1',p2'];simp only[Option.bind_some,s_HullOf_eq hlen heach,i_HullOf_eq hlen heach];exact⟨hullS_cond _,rfl⟩
  ·rw[show(r.1 != (2:Int))=true from by simp[h2],decide_eq_false h2]
   exact⟨rfl,rfl⟩
theorem whole_fit {r:Rg}:(wholeS r).1.length≤12∧∀v∈(wholeS r).1,v.length=2:=by
 unfold wholeS;split
 ·exact hullS_fit
 ·simp
end Go.Proofs.YtfknaeamhcpfgaaGreat
