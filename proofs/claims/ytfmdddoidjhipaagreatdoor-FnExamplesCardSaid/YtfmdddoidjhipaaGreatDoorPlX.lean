/-
  Boxes of points; least widths. Plain, no condition.
-/
import Derived.Test.YtfmdddoidjhipaaGreatDoorPlW
namespace Go.Proofs.YtfmdddoidjhipaaGreatDoor
open Go Go.Proofs.YtfmdddoidjhipaaGreatDoor.Eng
open Hull (Pt tn lx at_ at_some at_mem)
set_option linter.unusedVariables false
set_option linter.unusedSimpArgs false
def rng (lo hi:Int):List Int:=(List.range (hi + 1 - lo).toNat).map fun (i:Nat)=>lo + (i:Int)
theorem rng_len (lo hi:Int):(rng lo hi).length = (hi + 1 - lo).toNat:=by simp [rng]
theorem rng_get {lo hi:Int} {k:Nat} (h:k < (hi + 1 - lo).toNat):(rng lo hi)[k]? = some (lo + (k:Int)):=by simp [rng,h]
def ext (lo hi:Int) (L:List (List Int)):List (List Int):=L.flatMap fun v=>(rng lo hi).map fun x=>v ++ [x]
theorem ext_len (lo hi:Int) (L:List (List Int)):(ext lo hi L).length = L.length * (hi + 1 - lo).toNat:=by
  unfold ext
  induction L with
  | nil=>simp
  | cons v L ih=>rw [List.flatMap_cons,List.length_append,ih,List.length_map,rng_len,List.length_cons,Nat.add_mul]; omega
theorem ext_take {lo hi:Int} {L:List (List Int)} {k:Nat} {v:List Int} (h:L[k]? = some v):ext lo hi (L.take (k + 1)) = ext lo hi (L.take k) ++ (rng lo hi).map fun x=>v ++ [x]:=by
  unfold ext
  rw [List.take_add_one,h,List.flatMap_append]
  simp
theorem map_take_rng {α:Type} (f:Int→α) {lo hi:Int} {k:Nat} (h:k < (hi + 1 - lo).toNat):((rng lo hi).take (k + 1)).map f = ((rng lo hi).take k).map f ++ [f (lo + (k:Int))]:=by
  rw [List.take_add_one,rng_get h]; simp
section
variable {lo hi:Int}
theorem latt10 {x1:List Int} {v1:List (List Int) × Int} {v:List Int} (hx:idx x1 v1.2 = some hi) (h1:-1000000≤lo) (h2:hi≤1000000) (h3:lo≤hi + 1) (hv:v.length≤1000) {out:List (List Int)} (ho:out.length≤100000000) :
    iter (i_lattice_s10 x1 v1 v) (out,lo) = some (out ++ (rng lo hi).map fun x=>v ++ [x]):=by
  have:=iter_up (step:=i_lattice_s10 x1 v1 v) (hi + 1 - lo).toNat (fun k=>(out ++ ((rng lo hi).take k).map (fun x=>v ++ [x]),lo + (k:Int))) (out ++ (rng lo hi).map fun x=>v ++ [x]) (fun k hk=>by
    unfold i_lattice_s10
    simp only
    rw [hx]
    simp only [Option.bind_some]
    rw [show decide (lo + (k:Int)≤hi) = true from by simp; omega,cond_true,copyInts_eq (by rw [lim_eq]; omega)]
    simp only [Option.bind_some]
    rw [appD_some (by simp [lim_eq]; omega) (by simp [lim_eq]; omega)]
    simp only [Option.bind_some]
    have hl:(((rng lo hi).take k).map fun x=>v ++ [x]).length≤2000001:=by simp; omega
    rw [appD_some (by simp [lim_eq] at hl ⊢; omega) (by simp [lim_eq] at hl ⊢; omega)]
    simp only [Option.bind_some]
    rw [wrap_small (by omega) (by omega),map_take_rng _ hk,List.append_assoc,show lo + (k:Int) + 1 = lo + ((k + 1:Nat):Int) by omega]) (by
    unfold i_lattice_s10
    simp only
    rw [hx]
    simp only [Option.bind_some]
    rw [show decide (lo + (((hi + 1 - lo).toNat:Nat):Int)≤hi) = false from by simp; omega,cond_false]
    have:(rng lo hi).take (hi + 1 - lo).toNat = rng lo hi:=by rw [← rng_len,List.take_length]
    rw [this])
  simpa using this
theorem latt7 {x0 x1:List Int} {L:List (List Int)} {d:Int} (hx0:idx x0 d = some lo) (hx1:idx x1 d = some hi) (h1:-1000≤lo) (h2:hi≤1000) (h3:lo≤hi + 1) (hv:∀ v∈L,v.length≤1000) (hL:L.length≤40000) :
    iter (i_lattice_s7 x0 x1 (L,d)) ([],0) = some (ext lo hi L):=by
  have:=iter_up (step:=i_lattice_s7 x0 x1 (L,d)) L.length (fun k=>(ext lo hi (L.take k),(k:Int))) (ext lo hi L) (fun k hk=>by
    have hg:L[k]? = some L[k]:=List.getElem?_eq_getElem hk
    unfold i_lattice_s7
    simp only
    rw [show decide ((k:Int) < (L.length:Int)) = true from by simp; omega,cond_true,idx_some hg]
    simp only [Option.bind_some]
    rw [hx0]
    simp only [Option.bind_some]
    have hel:(ext lo hi (L.take k)).length≤100000000:=by
      rw [ext_len]
      have:(L.take k).length≤40000:=by simp; omega
      calc (L.take k).length * (hi + 1 - lo).toNat≤40000 * 2001:=Nat.mul_le_mul this (by omega)
        _≤100000000:=by decide
    rw [latt10 hx1 (by omega) (by omega) h3 (hv _ (List.getElem_mem hk)) hel]
    simp only [Option.bind_some]
    rw [wrap_small (by omega) (by omega),ext_take hg]
    rfl) (by
    unfold i_lattice_s7
    simp)
  simpa [ext] using this
theorem all10 {v1 v2:List (List Int) × Int} {v:List Int} (hx:idx v1.1 v2.2 = some v) (h1:-1000000≤lo) (h2:hi≤1000000) (h3:lo≤hi + 1) (hv:v.length≤1000) {out:List (List Int)} (ho:out.length≤100000000) :
    iter (s_l5All_s10 hi v1 v2) (out,lo) = some (out ++ (rng lo hi).map fun x=>v ++ [x]):=by
  have:=iter_up (step:=s_l5All_s10 hi v1 v2) (hi + 1 - lo).toNat (fun k=>(out ++ ((rng lo hi).take k).map (fun x=>v ++ [x]),lo + (k:Int))) (out ++ (rng lo hi).map fun x=>v ++ [x]) (fun k hk=>by
    unfold s_l5All_s10
    simp only
    rw [show decide (lo + (k:Int)≤hi) = true from by simp; omega,cond_true,hx]
    simp only [Option.bind_some]
    rw [appD_some (by simp [lim_eq]; omega) (by simp [lim_eq]; omega)]
    simp only [Option.bind_some,List.nil_append]
    rw [appD_some (by simp [lim_eq]; omega) (by simp [lim_eq]; omega)]
    simp only [Option.bind_some]
    have hl:(((rng lo hi).take k).map fun x=>v ++ [x]).length≤2000001:=by simp; omega
    rw [appD_some (by simp [lim_eq] at hl ⊢; omega) (by simp [lim_eq] at hl ⊢; omega)]
    simp only [Option.bind_some]
    rw [wrap_small (by omega) (by omega),map_take_rng _ hk,List.append_assoc,show lo + (k:Int) + 1 = lo + ((k + 1:Nat):Int) by omega]) (by
    unfold s_l5All_s10
    simp only
    rw [show decide (lo + (((hi + 1 - lo).toNat:Nat):Int)≤hi) = false from by simp; omega,cond_false]
    have:(rng lo hi).take (hi + 1 - lo).toNat = rng lo hi:=by rw [← rng_len,List.take_length]
    rw [this])
  simpa using this
theorem all7 {L:List (List Int)} {d:Int} (h1:-1000≤lo) (h2:hi≤1000) (h3:lo≤hi + 1) (hv:∀ v∈L,v.length≤1000) (hL:L.length≤40000) :
    iter (s_l5All_s7 lo hi (L,d)) ([],0) = some (ext lo hi L):=by
  have:=iter_up (step:=s_l5All_s7 lo hi (L,d)) L.length (fun k=>(ext lo hi (L.take k),(k:Int))) (ext lo hi L) (fun k hk=>by
    have hg:L[k]? = some L[k]:=List.getElem?_eq_getElem hk
    unfold s_l5All_s7
    simp only
    rw [show decide ((k:Int) < (L.length:Int)) = true from by simp; omega,cond_true]
    have hel:(ext lo hi (L.take k)).length≤100000000:=by
      rw [ext_len]
      have:(L.take k).length≤40000:=by simp; omega
      calc (L.take k).length * (hi + 1 - lo).toNat≤40000 * 2001:=Nat.mul_le_mul this (by omega)
        _≤100000000:=by decide
    rw [all10 (v:=L[k]) (idx_some hg) (by omega) (by omega) h3 (hv _ (List.getElem_mem hk)) hel]
    simp only [Option.bind_some]
    rw [wrap_small (by omega) (by omega),ext_take hg]
    rfl) (by
    unfold s_l5All_s7
    simp)
  simpa [ext] using this
end
def latt:List (Int × Int)→List (List Int)→List (List Int)
  | [],L=>L
  | p :: r,L=>latt r (ext p.1 p.2 L)
theorem latt_snoc (p:Int × Int):(r:List (Int × Int))→(L:List (List Int))→latt (r ++ [p]) L = ext p.1 p.2 (latt r L)
  | [],L=>rfl
  | q :: r,L=>by simp only [List.cons_append,latt]; exact latt_snoc p r _
theorem ext_lens {lo hi:Int} {L:List (List Int)} {n:Nat} (h:∀ v∈L,v.length = n):∀ v∈ext lo hi L,v.length = n + 1:=by
  intro v hv
  unfold ext at hv
  obtain ⟨u,hu,hv⟩:=List.mem_flatMap.1 hv
  obtain ⟨x,_,rfl⟩:=List.mem_map.1 hv
  simp [h u hu]
theorem latt_facts (B:List (Int × Int)) (hB:∀ p∈B,-1000≤p.1∧p.2≤1000∧p.1≤p.2 + 1∧p.2 - p.1≤199):(k:Nat)→k≤B.length→(∀ v∈latt (B.take k) [[]],v.length = k)∧(latt (B.take k) [[]]).length≤200 ^ k
  | 0,_=>by simp [latt]
  | k + 1,hk=>by
    obtain ⟨h1,h2⟩:=latt_facts B hB k (by omega)
    have hg:B[k]? = some (B[k]'(by omega)):=List.getElem?_eq_getElem (by omega)
    have e:B.take (k + 1) = B.take k ++ [B[k]'(by omega)]:=by rw [List.take_add_one,hg]; rfl
    rw [e,latt_snoc]
    have hb:=hB _ (List.getElem_mem (show k < B.length by omega))
    refine ⟨ext_lens h1,?_⟩
    rw [ext_len,Nat.pow_succ]
    exact Nat.mul_le_mul h2 (by omega)
theorem lattice_eq (B:List (Int × Int)) (hB:∀ p∈B,-1000≤p.1∧p.2≤1000∧p.1≤p.2 + 1∧p.2 - p.1≤199) (hl:B.length≤3):i_lattice (B.map (·.1)) (B.map (·.2)) = some (latt B [[]]):=by
  have:=iter_up (step:=i_lattice_s3 (B.map (·.1)) (B.map (·.2))) B.length (fun k=>(latt (B.take k) [[]],(k:Int))) (latt B [[]]) (fun k hk=>by
    obtain ⟨h1,h2⟩:=latt_facts B hB k (by omega)
    have hg:B[k]? = some B[k]:=List.getElem?_eq_getElem hk
    have hb:=hB _ (List.getElem_mem hk)
    unfold i_lattice_s3
    simp only
    rw [show decide ((k:Int) < ((B.map (·.1)).length:Int)) = true from by simp; omega,cond_true]
    have h3:(latt (B.take k) [[]]).length≤40000:=Nat.le_trans h2 (by
      have:k = 0∨k = 1∨k = 2:=by omega
      rcases this with rfl | rfl | rfl <;> decide)
    rw [latt7 (lo:=B[k].1) (hi:=B[k].2) (by rw [idx_nat,List.getElem?_map,hg]; rfl) (by rw [idx_nat,List.getElem?_map,hg]; rfl) hb.1 hb.2.1 hb.2.2.1 (fun v hv=>by rw [h1 v hv]; omega) h3]
    simp only [Option.bind_some]
    have e:B.take (k + 1) = B.take k ++ [B[k]]:=by rw [List.take_add_one,hg]; rfl
    rw [wrap_small (by omega) (by omega),e,latt_snoc]
    rfl) (by
    unfold i_lattice_s3
    simp)
  unfold i_lattice
  have e:(([([]:List Int)],0):List (List Int) × Int) = (latt (B.take 0) [[]],((0:Nat):Int)):=by simp [latt]
  rw [e,this]; rfl
theorem l5All_eq (n:Nat) (hn:n≤3) {lo hi:Int} (h1:-1000≤lo) (h2:hi≤1000) (h3:lo≤hi + 1) (h4:hi - lo≤199):s_l5All (n:Int) lo hi = some (latt (List.replicate n (lo,hi)) [[]]):=by
  have hB:∀ p∈List.replicate n (lo,hi),-1000≤p.1∧p.2≤1000∧p.1≤p.2 + 1∧p.2 - p.1≤199:=fun p hp=>by
    rw [List.eq_of_mem_replicate hp]; exact ⟨h1,h2,h3,h4⟩
  have:=iter_up (step:=s_l5All_s3 (n:Int) lo hi) n (fun k=>(latt ((List.replicate n (lo,hi)).take k) [[]],(k:Int))) (latt (List.replicate n (lo,hi)) [[]]) (fun k hk=>by
    obtain ⟨k1,k2⟩:=latt_facts _ hB k (by simp; omega)
    have hg:(List.replicate n (lo,hi))[k]? = some (lo,hi):=by rw [List.getElem?_replicate,if_pos hk]
    unfold s_l5All_s3
    simp only
    rw [show decide ((k:Int) < (n:Int)) = true from by simp; omega,cond_true]
    have k3:(latt ((List.replicate n (lo,hi)).take k) [[]]).length≤40000:=Nat.le_trans k2 (by
      have:k = 0∨k = 1∨k = 2:=by omega
      rcases this with rfl | rfl | rfl <;> decide)
    rw [all7 h1 h2 h3 (fun v hv=>by rw [k1 v hv]; omega) k3]
    simp only [Option.bind_some]
    have e:(List.replicate n (lo,hi)).take (k + 1) = (List.replicate n (lo,hi)).take k ++ [(lo,hi)]:=by rw [List.take_add_one,hg]; rfl
    rw [wrap_small (by omega) (by omega),e,latt_snoc]
    rfl) (by
    unfold s_l5All_s3
    simp)
  unfold s_l5All
  have e:(([([]:List Int)],0):List (List Int) × Int) = (latt ((List.replicate n (lo,hi)).take 0) [[]],((0:Nat):Int)):=by simp [latt]
  rw [e,this]; rfl
def dirOk (v:List Int):Bool:=decide (v.getD 0 0 > 0) || decide (v.getD 1 0 > 0)
def dirS (v:List Int):Bool:=!(decide (v.getD 0 0 < 0) || (v.getD 0 0 == 0 && decide (v.getD 1 0≤0)))
def dirs:List (List Int):=(latt [(0,12),(-12,12)] [[]]).filter dirOk
def allDirs:List (List Int):=latt [(-12,12),(-12,12)] [[]]
theorem dirs_same:allDirs.filter dirS = dirs:=by decide +kernel
theorem dirs_pt:∀ v∈dirs,isPt 12 v = true:=by decide +kernel
theorem lat_two:∀ v∈latt [(0,12),(-12,12)] [[]],isPt 12 v = true:=by decide +kernel
theorem all_two:∀ v∈allDirs,isPt 12 v = true:=by decide +kernel
theorem dirs_len:dirs.length = 312:=by decide +kernel
theorem all_len:allDirs.length = 625:=by decide +kernel
theorem lat_len:(latt [(0,12),(-12,12)] [[]]).length = 325:=by decide +kernel
theorem em_getD (q:Pt):(em q).getD 0 0 = q.1∧(em q).getD 1 0 = q.2:=⟨rfl,rfl⟩
theorem idx_em (q:Pt):idx (em q) 0 = some q.1∧idx (em q) 1 = some q.2:=⟨rfl,rfl⟩
theorem filter_take_succ {α:Type} (f:α→Bool) {l:List α} {k:Nat} {x:α} (h:l[k]? = some x):(l.take (k + 1)).filter f = (l.take k).filter f ++ (if f x then [x] else []):=by
  rw [List.take_add_one,h,List.filter_append]
  cases hf:f x <;> simp [hf]
theorem range_filter_succ (f:Nat→Bool) (k:Nat):(List.range (k + 1)).filter f = (List.range k).filter f ++ (if f k then [k] else []):=by
  rw [List.range_succ,List.filter_append]
  cases h:f k <;> simp [h]
theorem range_filter_nodup (f:Nat→Bool) (n:Nat):((List.range n).filter f).Nodup:=List.Pairwise.filter f List.nodup_range
theorem pick_filter (p:List Int→Bool) (L:List (List Int)):(((List.range L.length).filter fun j=>p (L[j]?.getD [])).map fun j=>L[j]?.getD []) = L.filter p:=by
  have e:L = (List.range L.length).map fun j=>L[j]?.getD []:=by
    apply List.ext_getElem?
    intro i
    by_cases h:i < L.length
    · rw [List.getElem?_map,List.getElem?_range h]
      simp [h]
    · rw [List.getElem?_eq_none (by omega),List.getElem?_eq_none (by simp; omega)]
  conv=>rhs; rw [e]
  rw [List.filter_map]
  rfl
theorem directions_eq:i_directions = some dirs:=by
  unfold i_directions
  have hl:=lattice_eq [(0,12),(-12,12)] (by decide) (by decide)
  have e1:([(0:Int),-12]:List Int) = [((0:Int),(12:Int)),(-12,12)].map (·.1):=rfl
  have e2:([(12:Int),12]:List Int) = [((0:Int),(12:Int)),(-12,12)].map (·.2):=rfl
  rw [e1,e2,hl]
  simp only [Option.bind_some]
  have h2:=lat_two
  have h3:=lat_len
  unfold dirs
  generalize latt [(0,12),(-12,12)] [[]] = L at h2 h3
  let f:Nat→Bool:=fun j=>dirOk (L[j]?.getD [])
  have:=iter_up (step:=i_directions_s3 L) L.length (fun k=>((k:Int),(List.range k).filter f)) ((List.range L.length).filter f) (fun k hk=>by
    have hg:L[k]? = some L[k]:=List.getElem?_eq_getElem hk
    obtain ⟨hv,_⟩:=isPt_em (h2 _ (List.getElem_mem hk))
    generalize toP L[k] = q at hv
    rw [hv] at hg
    unfold i_directions_s3
    simp only
    rw [show decide ((k:Int) < (L.length:Int)) = true from by simp; omega,cond_true,inIdx_nat hk]
    simp only [Option.bind_some,Int.toNat_natCast,if_pos hk,hg,(idx_em q).1,(idx_em q).2]
    have hfl:((List.range k).filter f).length≤400:=by
      have:=List.length_filter_le f (List.range k)
      simp at this; omega
    have ap:appD 24 ((List.range k).filter f) [k] = some ((List.range k).filter f ++ [k]):=appD_some (by simp [lim_eq]; omega) (by simp [lim_eq]; omega)
    have hf:f k = (decide (q.1 > 0) || decide (q.2 > 0)):=by
      show dirOk (L[k]?.getD []) = _
      rw [hg]
      simp only [Option.getD_some]
      unfold dirOk
      rw [(em_getD q).1,(em_getD q).2]
    rw [range_filter_succ,hf,wrap_small (by omega) (by omega),ap]
    cases c1:decide (q.1 > 0) with
    | true=>rfl
    | false =>
      rw [cond_false]
      cases c2:decide (q.2 > 0) with
      | true=>rfl
      | false=>simp) (by
    unfold i_directions_s3
    simp)
  have e:((0,[]):Int × List Nat) = (((0:Nat):Int),(List.range 0).filter f):=by simp
  rw [e,this]
  simp only [Option.bind_some]
  rw [if_pos (range_filter_nodup f _)]
  exact congrArg some (pick_filter dirOk L)
def inf (P:List Pt) (a:Pt):Int:=P.foldl (fun m q=>mn m (dt a q)) (dt a (at_ P 0))
theorem dt_ngp (a q:Pt):dt (ngp a) q = - dt a q:=by unfold dt ngp; grind
theorem inf_sup (P:List Pt) (a:Pt):sup P (ngp a) = - inf P a:=by
  unfold sup inf
  have:∀ (l:List Pt) (d:Int),l.foldl (fun m q=>mx m (dt (ngp a) q)) (-d) = - l.foldl (fun m q=>mn m (dt a q)) d:=by
    intro l
    induction l with
    | nil=>intro d; rfl
    | cons x l ih =>
      intro d
      simp only [List.foldl_cons]
      rw [← ih]
      congr 1
      rw [dt_ngp]
      unfold mx mn
      split <;> split <;> omega
  rw [dt_ngp]; exact this _ _
theorem range_eq {P:List Pt} (hB:∀ q∈P,Bd 50 q) (h1:0 < P.length) (hl:P.length≤12) {a:Pt} (ha:Bd 1000 a):s_l25Range (P.map em) (em a) = some (sup P a,inf P a):=by
  have da:∀ q∈P,s_l2Dot (em a) (em q) = some (dt a q):=fun q hq=>(dot_em (ha.mono (by decide)) ((hB q hq).mono (by decide))).2
  have hs:(P.drop 1).foldl (fun m q=>mx m (dt a q)) (dt a (at_ P 0)) = sup P a:=fold_drop1 (List.length_pos_iff.1 h1) _ _ (by simp [mx])
  have hi:(P.drop 1).foldl (fun m q=>mn m (dt a q)) (dt a (at_ P 0)) = inf P a:=fold_drop1 (List.length_pos_iff.1 h1) _ _ (by simp [mn])
  have e0:idx (P.map em) 0 = some (em (at_ P 0)):=by
    have:=idxP (P:=P) (k:=0) h1
    simpa using this
  unfold s_l25Range
  rw [e0]
  simp only [Option.bind_some]
  rw [da _ (at_mem h1)]
  simp only [Option.bind_some]
  have:=iter_up (step:=s_l25Range_s4 (P.map em) (em a)) (P.length - 1) (fun k=>(((P.drop 1).take k).foldl (fun m q=>mx m (dt a q)) (dt a (at_ P 0)),((P.drop 1).take k).foldl (fun m q=>mn m (dt a q)) (dt a (at_ P 0)),((k + 1:Nat):Int))) (sup P a,inf P a) (fun k hk=>by
    unfold s_l25Range_s4
    simp only
    rw [show decide (((k + 1:Nat):Int) < ((P.map em).length:Int)) = true from by simp; omega,cond_true,idxP (show k + 1 < P.length by omega)]
    simp only [Option.bind_some]
    rw [da _ (at_mem (by omega))]
    simp only [Option.bind_some,l1Max_eq,l1Min_eq]
    have hg:(P.drop 1)[k]? = some (at_ P (k + 1)):=by rw [List.getElem?_drop,Nat.add_comm]; exact at_some (by omega)
    rw [wrap_small (by omega) (by omega),foldl_take_succ _ hg,foldl_take_succ _ hg]
    rfl) (by
    unfold s_l25Range_s4
    simp only
    rw [show decide (((P.length - 1 + 1:Nat):Int) < ((P.map em).length:Int)) = false from by simp; omega,cond_false]
    have:(P.drop 1).take (P.length - 1) = P.drop 1:=by
      have:P.length - 1 = (P.drop 1).length:=by simp
      rw [this,List.take_length]
    rw [this,hs,hi])
  have e:((dt a (at_ P 0),dt a (at_ P 0),1):Int × Int × Int) = (((P.drop 1).take 0).foldl (fun m q=>mx m (dt a q)) (dt a (at_ P 0)),((P.drop 1).take 0).foldl (fun m q=>mn m (dt a q)) (dt a (at_ P 0)),((0 + 1:Nat):Int)):=by simp
  rw [e,this]; rfl
def wid (P:List Pt) (a:Pt):Int:=sup P a + sup P (ngp a)
def bst (P:List Pt) (s:Int × List (List Int)) (v:List Int):Int × List (List Int) :=
  if s.1 < 0∨wid P (toP v) < s.1 then (wid P (toP v),[v]) else if wid P (toP v) = s.1 then (s.1,s.2 ++ [v]) else s
theorem bst_len (P:List Pt):(l:List (List Int))→(s:Int × List (List Int))→(l.foldl (bst P) s).2.length≤s.2.length + 1 + l.length
  | [],s=>by simp
  | v :: l,s=>by
    have:=bst_len P l (bst P s v)
    have h2:(bst P s v).2.length≤s.2.length + 1:=by
      unfold bst
      split
      · simp
      · split <;> simp
    simp only [List.foldl_cons,List.length_cons]
    omega
theorem wid_eq (P:List Pt) (a:Pt):wid P a = sup P a - inf P a:=by unfold wid; rw [inf_sup]; omega
theorem best_step {P:List Pt} (hB:∀ q∈P,Bd 50 q) (h1:0 < P.length) (hl:P.length≤12) {L:List (List Int)} {k:Nat} (hL:L.length≤10000) {q:Pt} (hq:Bd 12 q) (hk:L[k]? = some (em q)) {b:Int} {o:List (List Int)} (ho:o.length≤10000) :
    s_l25Best_s5 (P.map em) L (b,o,(k:Int)) = some (.inl (if dirS (em q) then ((bst P (b,o) (em q)).1,(bst P (b,o) (em q)).2,((k + 1:Nat):Int)) else (b,o,((k + 1:Nat):Int)))):=by
  have hlt:=(List.getElem?_eq_some_iff.1 hk).1
  have ha:Bd 1000 q:=hq.mono (by decide)
  have s1:=sup_bd hB h1 ha
  have s2:=sup_bd hB h1 ha.ngp
  have hw:IntKind.i64.wrap (sup P q - inf P q) = wid P q:=by
    rw [wid_eq]
    rw [inf_sup] at s2
    exact wrap_small (by omega) (by omega)
  have wk:IntKind.i64.wrap ((k:Int) + 1) = ((k + 1:Nat):Int):=by rw [wrap_small (by omega) (by omega)]; omega
  have a1:appD 24 ([]:List (List Int)) [em q] = some [em q]:=by rw [appD_some (by simp [lim_eq]) (by simp [lim_eq])]; rfl
  have a2:appD 24 o [em q] = some (o ++ [em q]):=appD_some (by simp [lim_eq]; omega) (by simp [lim_eq]; omega)
  have fin:∀ X:Option ((Int × List (List Int) × Int) ⊕ (Int × List (List Int))),X = (cond (decide (b < 0)) (some (.inl (wid P q,[em q],((k + 1:Nat):Int)))) (cond (decide (wid P q < b)) (some (.inl (wid P q,[em q],((k + 1:Nat):Int)))) (cond (wid P q == b) (some (.inl (b,o ++ [em q],((k + 1:Nat):Int)))) (some (.inl (b,o,((k + 1:Nat):Int))))))) →
      X = some (.inl ((bst P (b,o) (em q)).1,(bst P (b,o) (em q)).2,((k + 1:Nat):Int))):=fun X hX=>by
    rw [hX]
    unfold bst
    rw [toP_em]
    by_cases c1:b < 0
    · rw [show decide (b < 0) = true from by simpa using c1,cond_true,if_pos (.inl c1)]
    · rw [show decide (b < 0) = false from by simpa using c1,cond_false]
      by_cases c2:wid P q < b
      · rw [show decide (wid P q < b) = true from by simpa using c2,cond_true,if_pos (.inr c2)]
      · rw [show decide (wid P q < b) = false from by simpa using c2,cond_false,if_neg (fun h=>h.elim c1 c2)]
        by_cases c3:wid P q = b
        · rw [show (wid P q == b) = true from by simpa using c3,cond_true,if_pos c3]
        · rw [show (wid P q == b) = false from by simpa using c3,cond_false,if_neg c3]
  unfold s_l25Best_s5 dirS
  simp only [(em_getD q).1,(em_getD q).2]
  rw [show decide ((k:Int) < (L.length:Int)) = true from by simp; omega,cond_true,idx_some hk]
  simp only [Option.bind_some,(idx_em q).1,(idx_em q).2,range_eq hB h1 hl ha,hw,beq_self_eq_true,cond_true,a1,a2,wk]
  by_cases c0:q.1 < 0
  · rw [show decide (q.1 < 0) = true from by simpa using c0]; rfl
  · rw [show decide (q.1 < 0) = false from by simpa using c0,cond_false,Bool.false_or]
    by_cases c1:q.1 = 0
    · rw [show (q.1 == 0) = true from by simpa using c1,cond_true,Bool.true_and]
      by_cases c2:q.2≤0
      · rw [show decide (q.2≤0) = true from by simpa using c2]; rfl
      · rw [show decide (q.2≤0) = false from by simpa using c2,cond_false]
        exact fin _ rfl
    · rw [show (q.1 == 0) = false from by simpa using c1,cond_false,Bool.false_and]
      exact fin _ rfl
theorem best_eq {P:List Pt} (hB:∀ q∈P,Bd 50 q) (h1:0 < P.length) (hl:P.length≤12):s_l25Best (P.map em) = some (dirs.foldl (bst P) (-1,[])):=by
  have hall:=l5All_eq 2 (by decide) (lo:=-12) (hi:=12) (by decide) (by decide) (by decide) (by decide)
  have e0:latt (List.replicate 2 ((-12:Int),(12:Int))) [[]] = allDirs:=rfl
  unfold s_l25Best
  rw [show ((2:Nat):Int) = 2 from rfl] at hall
  rw [hall,e0]
  simp only [Option.bind_some]
  have ht:=all_two
  have hle:=all_len
  rw [← dirs_same]
  generalize allDirs = L at ht hle
  let st:Nat→Int × List (List Int):=fun k=>((L.take k).filter dirS).foldl (bst P) (-1,[])
  have hst:∀ k,(st k).2.length≤1000:=fun k=>by
    have:=bst_len P ((L.take k).filter dirS) (-1,[])
    have h2:=List.length_filter_le dirS (L.take k)
    simp at this h2
    show (((L.take k).filter dirS).foldl (bst P) (-1,[])).2.length≤1000
    omega
  have:=iter_up (step:=s_l25Best_s5 (P.map em) L) L.length (fun k=>((st k).1,(st k).2,(k:Int))) ((L.filter dirS).foldl (bst P) (-1,[])) (fun k hk=>by
    have hg:L[k]? = some L[k]:=List.getElem?_eq_getElem hk
    obtain ⟨hv,hq⟩:=isPt_em (ht _ (List.getElem_mem hk))
    generalize toP L[k] = q at hv hq
    rw [hv] at hg
    rw [best_step hB h1 hl (by omega) hq hg (by have:=hst k; omega)]
    congr 2
    show _ = ((((L.take (k + 1)).filter dirS).foldl (bst P) (-1,[])).1,(((L.take (k + 1)).filter dirS).foldl (bst P) (-1,[])).2,((k + 1:Nat):Int))
    rw [filter_take_succ _ hg]
    cases dirS (em q) with
    | true=>simp [st]
    | false=>simp [st]) (by
    unfold s_l25Best_s5
    simp [st])
  have e:((-1,[],0):Int × List (List Int) × Int) = ((st 0).1,(st 0).2,((0:Nat):Int)):=by simp [st]
  rw [e,this]
  rfl
def lst (f:List Int→Int) (b:Int) (v:List Int):Int:=if b < 0∨f v < b then f v else b
theorem bst_lst (P:List Pt):(l:List (List Int))→(s:Int × List (List Int))→(l.foldl (bst P) s).1 = l.foldl (lst fun v=>wid P (toP v)) s.1
  | [],s=>rfl
  | v :: l,s=>by
    simp only [List.foldl_cons]
    rw [bst_lst P l]
    congr 1
    unfold bst lst
    split
    · rfl
    · split <;> rfl
theorem leastWidth_loop {p:List (List Int)} {f:List Int→Int} (hf:∀ v∈dirs,i_WidthIn p v = some (f v)):i_LeastWidth p = some (dirs.foldl (lst f) (-1)):=by
  unfold i_LeastWidth
  rw [directions_eq]
  simp only [Option.bind_some]
  have hle:=dirs_len
  generalize dirs = L at hf hle
  have:=iter_up (step:=i_LeastWidth_s3 p L) L.length (fun k=>((L.take k).foldl (lst f) (-1),(k:Int))) (L.foldl (lst f) (-1)) (fun k hk=>by
    have hg:L[k]? = some L[k]:=List.getElem?_eq_getElem hk
    unfold i_LeastWidth_s3
    simp only
    rw [show decide ((k:Int) < (L.length:Int)) = true from by simp; omega,cond_true,idx_some hg]
    simp only [Option.bind_some,hf _ (List.getElem_mem hk)]
    rw [wrap_small (by omega) (by omega),foldl_take_succ _ hg]
    generalize (L.take k).foldl (lst f) (-1) = b
    unfold lst
    by_cases c1:b < 0
    · rw [show decide (b < 0) = true from by simpa using c1,cond_true,if_pos (.inl c1)]; rfl
    · rw [show decide (b < 0) = false from by simpa using c1,cond_false]
      by_cases c2:f L[k] < b
      · rw [show decide (f L[k] < b) = true from by simpa using c2,cond_true,if_pos (.inr c2)]; rfl
      · rw [show decide (f L[k] < b) = false from by simpa using c2,cond_false,if_neg (fun h=>h.elim c1 c2)]; rfl) (by
    unfold i_LeastWidth_s3
    simp)
  have e:((-1,0):Int × Int) = ((L.take 0).foldl (lst f) (-1),((0:Nat):Int)):=by simp
  rw [e,this]; rfl
theorem lst_none:(l:List (List Int))→(lst (fun _=>-1) · ·) |> fun g=>l.foldl g (-1) = -1
  | []=>rfl
  | v :: l=>by
    show l.foldl _ (lst (fun _=>-1) (-1) v) = -1
    have:lst (fun _=>-1) (-1) v = -1:=by unfold lst; simp
    rw [this]
    exact lst_none l
theorem iWidth_eq {p:List (List Int)} {a:List Int} (hp:FitLL p) (ha:a.length≤1048576):∃ r,i_WidthIn p a = some r ∧
    (∀ P A,p = P.map em→a = em A→isPoly p = true→Bd 1000 A→r = sup P A + sup P (ngp A))∧(isPoly p = false→r = -1):=by
  unfold i_WidthIn
  rw [i_IsPolygon_eq hp.lim hp.eachLim]
  simp only [Option.bind_some]
  cases h1:isPoly p with
  | false=>exact ⟨-1,rfl,fun P A _ _ h _=>(by cases h),fun _=>rfl⟩
  | true =>
    rw [Bool.not_true,cond_false,i_IsVector_eq (lim_of ha)]
    simp only [Option.bind_some]
    cases h2:vecB a with
    | false=>exact ⟨-1,rfl,fun P A _ e _ hA=>(by rw [e,vecB_em hA] at h2; cases h2),fun h=>by cases h⟩
    | true =>
      rw [Bool.not_true,cond_false]
      by_cases h3:a.length = 2
      · obtain ⟨P,rfl,hB,g3,g12,_⟩:=poly_of h1
        obtain ⟨A,rfl,hA⟩:=vec2 h2 h3
        have hs1:=sup_bd hB (by omega) hA
        have hs2:=sup_bd hB (by omega) hA.ngp
        have hw:IntKind.i64.wrap (sup P A + sup P (ngp A)) = sup P A + sup P (ngp A):=wrap_small (by omega) (by omega)
        rw [show (((em A).length:Int) != 2) = false from rfl,cond_false,support_eq hB (by omega) g12 hA]
        simp only [Option.bind_some]
        have hA':=hA
        unfold Bd at hA'
        rw [show idx (em A) 0 = some A.1 from rfl,show idx (em A) 1 = some A.2 from rfl]
        simp only [Option.bind_some]
        rw [wrap_small (x:=0 - A.1) (by omega) (by omega),wrap_small (x:=0 - A.2) (by omega) (by omega)]
        have e:([0 - A.1,0 - A.2]:List Int) = em (ngp A):=by simp [em,ngp]
        rw [e,support_eq hB (by omega) g12 hA.ngp]
        simp only [Option.bind_some,hw]
        refine ⟨_,rfl,fun P2 A2 e1 e2 _ _=>?_,fun h=>by (exact absurd h (by decide))⟩
        have e5:P = P2:=by
          have:=congrArg (List.map toP) e1
          rwa [map_toP,map_toP] at this
        have e6:A = A2:=em_inj e2
        subst e5; subst e6
        rfl
      · rw [show ((a.length:Int) != 2) = true from by simp; omega]
        refine ⟨-1,rfl,fun P A _ e _ _=>?_,fun h=>by (exact absurd h (by decide))⟩
        subst e
        exact (h3 rfl).elim
theorem leastWidth_eq {p:List (List Int)} (hp:FitLL p):∃ r,s_LeastWidth p = some r∧i_LeastWidth p = some r:=by
  unfold s_LeastWidth
  rw [s_IsPolygon_eq hp.lim hp.eachLim]
  simp only [Option.bind_some]
  cases h1:isPoly p with
  | false =>
    refine ⟨-1,rfl,?_⟩
    rw [leastWidth_loop (f:=fun _=>-1) fun v hv=>?_]
    · exact congrArg some (lst_none dirs)
    · have h2:=dirs_pt v hv
      obtain ⟨e,hq⟩:=isPt_em h2
      obtain ⟨r,e2,_,e4⟩:=iWidth_eq (p:=p) (a:=v) hp (by rw [e]; simp [em])
      rw [e2,e4 h1]
  | true =>
    obtain ⟨P,rfl,hB,g3,g12,_⟩:=poly_of h1
    rw [Bool.not_true,cond_false,best_eq hB (by omega) g12]
    simp only [Option.bind_some]
    rw [bst_lst]
    refine ⟨_,rfl,leastWidth_loop fun v hv=>?_⟩
    obtain ⟨e,hq⟩:=isPt_em (dirs_pt v hv)
    obtain ⟨r,e2,e3,_⟩:=iWidth_eq (p:=P.map em) (a:=v) hp (by rw [e]; simp [em])
    rw [e2,e3 P (toP v) rfl e h1 (hq.mono (by decide))]
    rfl
end Go.Proofs.YtfmdddoidjhipaaGreatDoor
