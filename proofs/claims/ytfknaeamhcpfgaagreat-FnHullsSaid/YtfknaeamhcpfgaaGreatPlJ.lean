/-
  Placed points, lattice points of a polygon; empty triangles. Plain, no condition.
-/
import Derived.Test.YtfknaeamhcpfgaaGreatPlX
namespace Go.Proofs.YtfknaeamhcpfgaaGreat
open Go Go.Proofs.YtfknaeamhcpfgaaGreat.Eng
open Hull (Pt tn lx at_ at_some at_mem)
set_option linter.all false
def sd (P:List Pt)(q:Pt)(k:Nat):Int:=tn (at_ P k) (at_ P ((k+1) % P.length)) q
def inP (P:List Pt)(q:Pt):Prop:=∀k,k<P.length→0≤sd P q k
instance (P:List Pt) (q:Pt):Decidable (inP P q):=by unfold inP;infer_instance
def lo (f:Pt→Int)(P:List Pt):Int:=P.foldl (fun m q=>mn m (f q)) (f (at_ P 0))
def hi (f:Pt→Int)(P:List Pt):Int:=P.foldl (fun m q=>mx m (f q)) (f (at_ P 0))
theorem fold_mx_spec (f:Pt→Int):(l:List Pt)→(d:Int)→d≤l.foldl (fun m q=>mx m (f q)) d∧(∀q∈l,f q≤l.foldl (fun m q=>mx m (f q)) d)∧(l.foldl (fun m q=>mx m (f q)) d=d∨∃q∈l,l.foldl (fun m q=>mx m (f q)) d=f q)
 | [],d=>⟨Int.le_refl _,by simp,.inl rfl⟩
 | q::l,d=>by
  obtain⟨h1,h2,h3⟩:=fold_mx_spec f l (mx d (f q));have hm:d≤mx d (f q)∧f q≤mx d (f q)∧(mx d (f q)=d∨mx d (f q)=f q):=by unfold mx;split<;>omega
  simp only[List.foldl_cons];refine⟨by omega,fun y hy=>?_,?_⟩
  ·rcases List.mem_cons.1 hy with rfl | hy
   ·omega
   ·exact h2 y hy
  ·rcases h3 with h3 | ⟨y,hy,h3⟩
   ·rcases hm.2.2 with h4 | h4
    ·left;omega
    ·right;exact⟨q,by simp,by omega⟩
   ·exact .inr ⟨y,List.mem_cons_of_mem _ hy,h3⟩
theorem hi_spec (f:Pt→Int){P:List Pt}(hP:0<P.length):(∀q∈P,f q≤hi f P)∧∃q∈P,hi f P=f q:=by
 obtain⟨h1,h2,h3⟩:=fold_mx_spec f P (f (at_ P 0));refine⟨h2,?_⟩;rcases h3 with h3 | h3
 ·exact⟨_,at_mem hP,h3⟩
 ·exact h3
def box (P:List Pt):List (Int×Int):=[(lo (·.1) P,hi (·.1) P),(lo (·.2) P,hi (·.2) P)]
def row (x:Int)(a b:Int):List (List Int):=(rng a b).map fun y=>[x,y]
end Go.Proofs.YtfknaeamhcpfgaaGreat
