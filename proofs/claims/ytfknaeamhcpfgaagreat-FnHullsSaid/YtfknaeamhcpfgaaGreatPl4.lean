/-
  Plain: what many proofs use. No condition.
-/
import Derived.Test.YtfknaeamhcpfgaaGreatPl3
namespace Go.Proofs.YtfknaeamhcpfgaaGreat
open Go Go.Proofs.YtfknaeamhcpfgaaGreat.Eng
set_option linter.all false
theorem iter_up {S β:Type}{step:S→Option (S⊕β)}(n:Nat)(st:Nat→S)(r:β)(hs:∀k,k<n→step (st k)=some (.inl (st (k+1))))(he:step (st n)=some (.inr r)):iter step (st 0)=some r:=by
 have:∀(d k:Nat),k+d=n→iter step (st k)=some r:=by
  intro d;induction d with
  | zero => intro k hk; have : k = n := by omega
            subst this;exact iter_end he
  | succ d ih=>intro k hk;rw[iter_next (hs k (by omega))];exact ih (k+1) (by omega)
 exact this n 0 (by omega)
theorem take_map_succ {α β:Type}{xs:List α}(f:α→β){k:Nat}{x:α}(h:xs[k]? = some x):(xs.take (k+1)).map f=(xs.take k).map f++[f x]:=by
 rw[List.take_add_one,h];simp
structure FitLL (x:List (List Int)):Prop where
 len:x.length≤1048576
 each:∀y∈x,y.length≤1048576
theorem FitLL.lim {x:List (List Int)}(h:FitLL x):x.length≤Eng.lim:=Nat.le_trans h.len (by decide)
theorem FitLL.eachLim {x:List (List Int)}(h:FitLL x):∀y∈x,y.length≤Eng.lim:=fun y hy=>Nat.le_trans (h.each y hy) (by decide)
theorem quo_some {a b:Int}(hb:0<b)(ha:Sm a):quoI .i64 a b=some (a.tdiv b):=by
 have hne:b≠0:=by omega
 have h1:(a.tdiv b).natAbs≤a.natAbs:=Int.natAbs_tdiv_le_natAbs a b;unfold Sm at ha;simp only[quoI,if_neg hne];rw[wrap_id (by omega) (by omega)]
theorem copyInts_eq {v:List Int}(h:v.length*8≤lim):i_copyInts v=some v:=by
 simp only[i_copyInts,appD_some (b:=8) (xs:=[]) (ys:=v) (by simpa using h) (by simp;omega),Option.bind_some,List.nil_append]
end Go.Proofs.YtfknaeamhcpfgaaGreat
