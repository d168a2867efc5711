/-
  Regions: of a polygon, tightened. Plain, no condition.
-/
import Derived.Test.YtfknaeamhcpfgaaGreatPlHv
import Derived.Test.YtfknaeamhcpfgaaGreatPlTh
namespace Go.Proofs.YtfknaeamhcpfgaaGreat
open Go Go.Proofs.YtfknaeamhcpfgaaGreat.Eng
set_option linter.all false
def regionL (p:List (List Int)):Rg×Bool:=if(halvesL p).2&&regB (2,(halvesL p).1)then((2,(halvesL p).1),true)else((0,[]),false)
theorem region_eq {p:List (List Int)}(hp:FitLL p):s_RegionOf p=some (regionL p)∧i_RegionOf p=some (regionL p):=by
 obtain⟨h1,h2⟩:=halves_eq hp;obtain⟨f1,f2⟩:=halves_fit (p:=p);unfold s_RegionOf i_RegionOf regionL;rw[h1,h2];generalize halvesL p=r at *;obtain⟨r,b⟩:=r;simp only at f1 f2;have hl:r.length≤lim:=Nat.le_trans f1 (by decide)
 have hh:∀h∈r,h.1.length≤lim:=fun h hm=>by rw[f2 h hm];decide
 simp only[Option.bind_some];cases b with
 | false=>exact⟨rfl,rfl⟩
 | true =>
  simp only[Bool.not_true,cond_false,Bool.true_and];rw[s_IsRegion_eq (r:=(2,r)) hl hh,i_IsRegion_eq (r:=(2,r)) hl hh];simp only[Option.bind_some];cases regB (2,r)<;>exact⟨rfl,rfl⟩
theorem region_fit {p:List (List Int)}:(regionL p).1.2.length≤12∧∀h∈(regionL p).1.2,h.1.length=2:=by
 obtain⟨f1,f2⟩:=halves_fit (p:=p);unfold regionL;split
 ·exact⟨f1,f2⟩
 ·simp
theorem l4SameHalf_eq {a b:Hf}(hl:a.1.length≤lim):s_l4SameHalf a b=some (a==b):=by
 unfold s_l4SameHalf;rw[l2Same_eq hl];simp only[Option.bind_some];have:(a==b)=((a.1==b.1)&&(a.2==b.2)):=rfl;rw[this];cases a.1==b.1<;>rfl
structure SmH (n:Nat) (xs:List Hf):Prop where
 len:xs.length≤n
 each:∀h∈xs,h.1.length≤3
end Go.Proofs.YtfknaeamhcpfgaaGreat
