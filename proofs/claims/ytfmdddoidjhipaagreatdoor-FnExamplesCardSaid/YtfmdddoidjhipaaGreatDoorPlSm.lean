/-
  Sums of polygons, their areas. Plain, no condition.
-/
import Derived.Test.YtfmdddoidjhipaaGreatDoorPlHl
import Derived.Test.YtfmdddoidjhipaaGreatDoorPlL
import Derived.Test.YtfmdddoidjhipaaGreatDoorPlMs
namespace Go.Proofs.YtfmdddoidjhipaaGreatDoor
open Go Go.Proofs.YtfmdddoidjhipaaGreatDoor.Eng Hull
set_option linter.unusedVariables false
set_option linter.unusedSimpArgs false
theorem hullS_poly {p:List (List Int)} (h:(hullS p).2 = true):isPoly (hullS p).1 = true:=by
  unfold hullS at h ⊢
  split at h
  · rename_i h1
    rw [if_pos h1]
    simp only at h ⊢
    split at h
    · rename_i h2
      rw [if_pos h2]
      obtain ⟨P,rfl,hB⟩:=pts_of h1.2
      rw [map_toP] at h2 ⊢
      have hs:∀ q∈Hull.hull (Hull.sorted P),Bd 50 q:=fun q hq=>by
        unfold Hull.hull at hq
        rcases List.mem_append.1 hq with hq | hq
        · have hq:=(List.dropLast_sublist _).subset hq
          rw [List.mem_reverse] at hq
          rcases fold_push_sub _ _ q hq with h | h
          · exact hB q (((sorted_spec P).2 q).1 h)
          · simp at h
        · have hq:=(List.dropLast_sublist _).subset hq
          rw [List.mem_reverse] at hq
          rcases fold_push_sub _ _ q hq with h | h
          · exact hB q (((sorted_spec P).2 q).1 (by simpa using h))
          · simp at h
      exact (isPoly_iff hs).2 ⟨h2.2.2,pol_hull (sorted_spec P).1 h2.2.1⟩
    · cases h
  · cases h
def addP (a b:Pt):Pt:=(a.1 + b.1,a.2 + b.2)
theorem l2Add_em {a b:Pt} (ha:Bd 1000 a) (hb:Bd 1000 b):s_l2Add (em a) (em b) = some (em (addP a b)):=by
  unfold Bd at ha hb
  have e0:s_l2Add_s3 (em a) (em b) ([],0) = some (.inl ([a.1 + b.1],1)):=by
    show cond (decide ((0:Int) < 2)) ((idx (em a) 0).bind fun v2=>(idx (em b) 0).bind fun v3=>(appD 8 ([]:List Int) [IntKind.i64.wrap (v2 + v3)]).bind fun v4=>some (Sum.inl (v4,IntKind.i64.wrap (0 + 1)))) _ = _
    simp only [show decide ((0:Int) < 2) = true from rfl,cond_true,Option.bind_some,(idx_em a).1,(idx_em b).1]
    rw [appD_some (by simp [lim_eq]) (by simp [lim_eq]),wrap_small (by omega) (by omega)]
    rfl
  have e1:s_l2Add_s3 (em a) (em b) ([a.1 + b.1],1) = some (.inl ([a.1 + b.1,a.2 + b.2],2)):=by
    show cond (decide ((1:Int) < 2)) ((idx (em a) 1).bind fun v2=>(idx (em b) 1).bind fun v3=>(appD 8 [a.1 + b.1] [IntKind.i64.wrap (v2 + v3)]).bind fun v4=>some (Sum.inl (v4,IntKind.i64.wrap (1 + 1)))) _ = _
    simp only [show decide ((1:Int) < 2) = true from rfl,cond_true,Option.bind_some,(idx_em a).2,(idx_em b).2]
    rw [appD_some (by simp [lim_eq]) (by simp [lim_eq]),wrap_small (by omega) (by omega)]
    rfl
  have e2:s_l2Add_s3 (em a) (em b) ([a.1 + b.1,a.2 + b.2],2) = some (.inr [a.1 + b.1,a.2 + b.2]):=rfl
  unfold s_l2Add
  rw [iter_next e0,iter_next e1,iter_end e2]
  rfl
end Go.Proofs.YtfmdddoidjhipaaGreatDoor
