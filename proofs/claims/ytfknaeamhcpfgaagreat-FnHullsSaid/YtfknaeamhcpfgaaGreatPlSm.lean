/-
  Sums of polygons, their areas. Plain, no condition.
-/
import Derived.Test.YtfknaeamhcpfgaaGreatPlHl
import Derived.Test.YtfknaeamhcpfgaaGreatPlL
import Derived.Test.YtfknaeamhcpfgaaGreatPlMs
namespace Go.Proofs.YtfknaeamhcpfgaaGreat
open Go Go.Proofs.YtfknaeamhcpfgaaGreat.Eng Hull
set_option linter.all false
theorem hullS_false {p:List (List Int)}(h:(hullS p).2=false):hullS p=([],false):=by
 unfold hullS at h ⊢;split at h
 ·rename_i h1;rw[if_pos h1];simp only at h ⊢;split at h
  ·cases h
  ·rename_i h2;rw[if_neg h2]
 ·rename_i h1;rw[if_neg h1]
theorem hullS_cond (p:List (List Int)):cond (!(hullS p).2) (some (([]:List (List Int)),false)) (some ((hullS p).1,true))=some (hullS p):=by
 cases h:(hullS p).2 with
 | false=>rw[hullS_false h];rfl
 | true =>
  show some ((hullS p).1,true)=_;rw[←h]
theorem hullS_poly {p:List (List Int)}(h:(hullS p).2=true):isPoly (hullS p).1=true:=by
 unfold hullS at h ⊢;split at h
 ·rename_i h1;rw[if_pos h1];simp only at h ⊢;split at h
  ·rename_i h2;rw[if_pos h2];obtain⟨P,rfl,hB⟩:=pts_of h1.2;rw[map_toP]at h2 ⊢;have hs:∀q∈Hull.hull (Hull.sorted P),Bd 50 q:=fun q hq=>by
    unfold Hull.hull at hq;rcases List.mem_append.1 hq with hq | hq
    ·have hq:=(List.dropLast_sublist _).subset hq;rw[List.mem_reverse]at hq;rcases fold_push_sub _ _ q hq with h | h
     ·exact hB q (((sorted_spec P).2 q).1 h)
     ·simp at h
    ·have hq:=(List.dropLast_sublist _).subset hq;rw[List.mem_reverse]at hq;rcases fold_push_sub _ _ q hq with h | h
     ·exact hB q (((sorted_spec P).2 q).1 (by simpa using h))
     ·simp at h
   exact(isPoly_iff hs).2 ⟨h2.2.2,pol_hull (sorted_spec P).1 h2.2.1⟩
  ·cases h
 ·cases h
theorem poly_fit {p:List (List Int)}(h:isPoly p=true):p.length≤12∧∀v∈p,v.length=2:=by
 obtain⟨P,rfl,hB,g3,g12,_⟩:=poly_of h;refine⟨by simpa using g12,fun v hv=>?_⟩
 obtain⟨q,_,rfl⟩:=List.mem_map.1 hv;rfl
theorem hullS_fit {p:List (List Int)}:(hullS p).1.length≤12∧∀v∈(hullS p).1,v.length=2:=by
 cases h:(hullS p).2 with
 | false=>rw[hullS_false h];simp
 | true=>exact poly_fit (hullS_poly h)
end Go.Proofs.YtfknaeamhcpfgaaGreat
