/-
  Plain: the laws' helpers for polygons. No condition.
-/
import Derived.Test.YtfknaeamhcpfgaaGreatPlPd
namespace Go.Proofs.YtfknaeamhcpfgaaGreat
open Go Go.Proofs.YtfknaeamhcpfgaaGreat.Eng
set_option linter.all false
theorem sameInts_self {xs:List Int}(hl:xs.length≤lim):w_sameInts xs xs=some true:=by
 have hlim:lim=140737488355328:=lim_eq;have e:=iter_up (step:=w_sameInts_s4 xs xs) xs.length (fun k=>(k:Int)) (.inl ()) (fun k hk=>by
  unfold w_sameInts_s4;rw[show decide ((k:Int)<(xs.length:Int))=true from by simp;omega,cond_true,idx_nat,List.getElem?_eq_getElem hk]
  simp only[Option.bind_some,bne_self_eq_false,cond_false];rw[wrap_id (by omega) (by omega)]
  rfl) (by
  unfold w_sameInts_s4;rw[show decide ((xs.length:Int)<(xs.length:Int))=false from by simp,cond_false])
 unfold w_sameInts;have e:iter (w_sameInts_s4 xs xs) 0=some (.inl ()):=e;simp only[bne_self_eq_false,cond_false,e,Option.bind_some]
theorem sameLists_self {xs:List (List Int)}(hl:xs.length≤lim)(h:∀x∈xs,x.length≤lim):w_sameLists xs xs=some true:=by
 have hlim:lim=140737488355328:=lim_eq;have e:=iter_up (step:=w_sameLists_s4 xs xs) xs.length (fun k=>(k:Int)) (.inl ()) (fun k hk=>by
  unfold w_sameLists_s4;rw[show decide ((k:Int)<(xs.length:Int))=true from by simp;omega,cond_true,idx_nat,List.getElem?_eq_getElem hk]
  simp only[Option.bind_some,sameInts_self (h _ (List.getElem_mem hk)),Bool.not_true,cond_false];rw[wrap_id (by omega) (by omega)]
  rfl) (by
  unfold w_sameLists_s4;rw[show decide ((xs.length:Int)<(xs.length:Int))=false from by simp,cond_false])
 unfold w_sameLists;have e:iter (w_sameLists_s4 xs xs) 0=some (.inl ()):=e;simp only[bne_self_eq_false,cond_false,e,Option.bind_some]
end Go.Proofs.YtfknaeamhcpfgaaGreat
