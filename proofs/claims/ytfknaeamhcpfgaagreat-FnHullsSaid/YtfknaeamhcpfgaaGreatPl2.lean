/-
  The laws' own helpers: sizes, copies, equality. No condition.
-/
import Derived.Test.YtfknaeamhcpfgaaGreatPl1
import Derived.Test.YtfknaeamhcpfgaaGreatGen
namespace Go.Proofs.YtfknaeamhcpfgaaGreat
open Go Eng
set_option linter.all false
theorem cond_ite {α:Type}(b:Bool)(x y:α):cond b x y=if b then x else y:=by cases b<;>rfl
theorem set_take {α:Type}{xs:List α}{z:α}{k:Nat}{x:α}(h:xs[k]? = some x):(xs.take k++List.replicate (xs.length-k) z).set k x=xs.take (k+1)++List.replicate (xs.length-(k+1)) z:=by
 have hlt:=len_lt h;have hx:xs[k]=x:=by rw[List.getElem?_eq_getElem hlt]at h;exact Option.some.inj h
 apply List.ext_getElem?
 intro i;rw[List.getElem?_set];have hl1:(xs.take k).length=k:=by simp;omega
 have hl2:(xs.take (k+1)).length=k+1:=by simp;omega
 by_cases hik:k=i
 ·subst hik;rw[if_pos rfl,if_pos (by simp;omega),List.getElem?_append_left (by omega),List.getElem?_take,if_pos (by omega),h]
 ·rw[if_neg hik];by_cases hi:i<k
  ·rw[List.getElem?_append_left (by omega),List.getElem?_append_left (by omega),List.getElem?_take,List.getElem?_take,if_pos hi,if_pos (by omega)]
  ·rw[List.getElem?_append_right (by omega),List.getElem?_append_right (by omega),hl1,hl2,List.getElem?_replicate,List.getElem?_replicate]
   by_cases h2:i<xs.length
   ·rw[if_pos (by omega),if_pos (by omega)]
   ·rw[if_neg (by omega),if_neg (by omega)]
end Go.Proofs.YtfknaeamhcpfgaaGreat
