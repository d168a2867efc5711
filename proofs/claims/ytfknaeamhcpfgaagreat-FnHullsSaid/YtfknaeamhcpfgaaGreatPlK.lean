/-
  Plain: vectors added and scaled. No condition.
-/
import Derived.Test.YtfknaeamhcpfgaaGreatPlM
namespace Go.Proofs.YtfknaeamhcpfgaaGreat
open Go Go.Proofs.YtfknaeamhcpfgaaGreat.Eng
set_option linter.all false
section
variable {α:Type}(zs:List α)
theorem l2Scale_eq {xs:List Int}{c:Int}(hl:xs.length≤4194304)(hx:∀x∈xs,Tn x)(hc:Tn c):s_l2Scale xs c=some (xs.map (fun x=>x*c)):=by
 have hlim:xs.length≤lim:=Nat.le_trans hl (by decide)
 have:=iter_up (step:=s_l2Scale_s3 xs c) xs.length (fun k=>((xs.take k).map (fun x=>x*c),(k:Int))) (xs.map (fun x=>x*c)) (fun k hk=>?_) ?_
 ·simp only[List.take_zero,List.map_nil,show((0:Nat):Int)=0 from rfl]at this
  simp only[s_l2Scale,this,Option.bind_some]
 ·have hz:xs[k]? = some xs[k]:=List.getElem?_eq_getElem hk;have hd:decide ((k:Int)<(xs.length:Nat))=true:=by simp;omega
  have happ:appD 8 ((xs.take k).map (fun x=>x*c)) [xs[k]*c]=some ((xs.take (k+1)).map (fun x=>x*c)):=by
   rw[appD_some (by rw[lim_eq];simp;omega) (by rw[lim_eq];simp;omega),take_map_succ _ hz]
  simp only[s_l2Scale_s3,hd,cond_true,idx_some hz,Option.bind_some,wrap_mul (hx _ (List.getElem_mem hk)) hc,happ,wrap_succ (Nat.le_trans (Nat.le_of_lt hk) hlim)];rfl
 ·have hd:decide ((xs.length:Int)<(xs.length:Nat))=false:=by simp
  simp only[s_l2Scale_s3,hd,cond_false,List.take_length]
end
end Go.Proofs.YtfknaeamhcpfgaaGreat
