/-
  Boxes of points; least widths. Plain, no condition.
-/
import Derived.Test.YtfknaeamhcpfgaaGreatPlW
namespace Go.Proofs.YtfknaeamhcpfgaaGreat
open Go Go.Proofs.YtfknaeamhcpfgaaGreat.Eng
open Hull (Pt tn lx at_ at_some at_mem)
set_option linter.all false
def rng (lo hi:Int):List Int:=(List.range (hi+1-lo).toNat).map fun(i:Nat)=>lo+(i:Int)
theorem rng_len (lo hi:Int):(rng lo hi).length=(hi+1-lo).toNat:=by simp[rng]
theorem rng_get {lo hi:Int}{k:Nat}(h:k<(hi+1-lo).toNat):(rng lo hi)[k]? = some (lo+(k:Int)):=by simp[rng,h]
theorem rng_mem {lo hi x:Int}:x∈rng lo hi↔lo≤x∧x≤hi:=by
 unfold rng;rw[List.mem_map];constructor
 ·rintro⟨i,hi,rfl⟩
  rw[List.mem_range]at hi;omega
 ·rintro⟨h1,h2⟩
  exact⟨(x-lo).toNat,by rw[List.mem_range];omega,by omega⟩
def ext (lo hi:Int)(L:List (List Int)):List (List Int):=L.flatMap fun v=>(rng lo hi).map fun x=>v++[x]
theorem ext_len (lo hi:Int)(L:List (List Int)):(ext lo hi L).length=L.length*(hi+1-lo).toNat:=by
 unfold ext;induction L with
 | nil=>simp
 | cons v L ih=>rw[List.flatMap_cons,List.length_append,ih,List.length_map,rng_len,List.length_cons,Nat.add_mul];omega
theorem ext_take {lo hi:Int}{L:List (List Int)}{k:Nat}{v:List Int}(h:L[k]? = some v):ext lo hi (L.take (k+1))=ext lo hi (L.take k)++(rng lo hi).map fun x=>v++[x]:=by
 unfold ext;rw[List.take_add_one,h,List.flatMap_append];simp
theorem map_take_rng {α:Type}(f:Int→α){lo hi:Int}{k:Nat}(h:k<(hi+1-lo).toNat):((rng lo hi).take (k+1)).map f=((rng lo hi).take k).map f++[f (lo+(k:Int))]:=by
 rw[List.take_add_one,rng_get h];simp
section
variable {lo hi:Int}
theorem latt10 {x1:List Int} {v1:List (List Int) × Int} {v:List Int} (hx:idx x1 v1.2 = some hi) (h1:-1000000≤lo) (h2:hi≤1000000) (h3:lo≤hi + 1) (hv:v.length≤1000) {out:List (List Int)} (ho:out.length≤100000000) :
  iter (i_lattice_s10 x1 v1 v) (out,lo)=some (out++(rng lo hi).map fun x=>v++[x]):=by
 have:=iter_up (step:=i_lattice_s10 x1 v1 v) (hi+1-lo).toNat (fun k=>(out++((rng lo hi).take k).map (fun x=>v++[x]),lo+(k:Int))) (out++(rng lo hi).map fun x=>v++[x]) (fun k hk=>by
  unfold i_lattice_s10;simp only;rw[hx];simp only[Option.bind_some];rw[show decide (lo+(k:Int)≤hi)=true from by simp;omega,cond_true,copyInts_eq (by rw[lim_eq];omega)]
  simp only[Option.bind_some];rw[appD_some (by simp[lim_eq];omega) (by simp[lim_eq];omega)]
  simp only[Option.bind_some];have hl:(((rng lo hi).take k).map fun x=>v++[x]).length≤2000001:=by simp;omega
  rw[appD_some (by simp[lim_eq]at hl ⊢;omega) (by simp[lim_eq]at hl ⊢;omega)]
  simp only[Option.bind_some];rw[wrap_small (by omega) (by omega),map_take_rng _ hk,List.append_assoc,show lo+(k:Int)+1=lo+((k+1:Nat):Int) by omega]) (by
  unfold i_lattice_s10;simp only;rw[hx];simp only[Option.bind_some];rw[show decide (lo+(((hi+1-lo).toNat:Nat):Int)≤hi)=false from by simp;omega,cond_false]
  have:(rng lo hi).take (hi+1-lo).toNat=rng lo hi:=by rw[←rng_len,List.take_length]
  rw[this])
 simpa using this
theorem latt7 {x0 x1:List Int} {L:List (List Int)} {d:Int} (hx0:idx x0 d = some lo) (hx1:idx x1 d = some hi) (h1:-1000≤lo) (h2:hi≤1000) (h3:lo≤hi + 1) (hv:∀ v∈L,v.length≤1000) (hL:L.length≤40000) :
  iter (i_lattice_s7 x0 x1 (L,d)) ([],0)=some (ext lo hi L):=by
 have:=iter_up (step:=i_lattice_s7 x0 x1 (L,d)) L.length (fun k=>(ext lo hi (L.take k),(k:Int))) (ext lo hi L) (fun k hk=>by
  have hg:L[k]? = some L[k]:=List.getElem?_eq_getElem hk;unfold i_lattice_s7;simp only;rw[show decide ((k:Int)<(L.length:Int))=true from by simp;omega,cond_true,idx_some hg]
  simp only[Option.bind_some];rw[hx0];simp only[Option.bind_some];have hel:(ext lo hi (L.take k)).length≤100000000:=by
   rw[ext_len];have:(L.take k).length≤40000:=by simp;omega
   calc (L.take k).length*(hi+1-lo).toNat≤40000*2001:=Nat.mul_le_mul this (by omega)
    _≤100000000:=by decide
  rw[latt10 hx1 (by omega) (by omega) h3 (hv _ (List.getElem_mem hk)) hel]
  simp only[Option.bind_some];rw[wrap_small (by omega) (by omega),ext_take hg]
  rfl) (by
  unfold i_lattice_s7;simp)
 simpa[ext]using this
theorem all10 {v1 v2:List (List Int) × Int} {v:List Int} (hx:idx v1.1 v2.2 = some v) (h1:-1000000≤lo) (h2:hi≤1000000) (h3:lo≤hi + 1) (hv:v.length≤1000) {out:List (List Int)} (ho:out.length≤100000000) :
  iter (s_l5All_s10 hi v1 v2) (out,lo)=some (out++(rng lo hi).map fun x=>v++[x]):=by
 have:=iter_up (step:=s_l5All_s10 hi v1 v2) (hi+1-lo).toNat (fun k=>(out++((rng lo hi).take k).map (fun x=>v++[x]),lo+(k:Int))) (out++(rng lo hi).map fun x=>v++[x]) (fun k hk=>by
  unfold s_l5All_s10;simp only;rw[show decide (lo+(k:Int)≤hi)=true from by simp;omega,cond_true,hx]
  simp only[Option.bind_some];rw[appD_some (by simp[lim_eq];omega) (by simp[lim_eq];omega)]
  simp only[Option.bind_some,List.nil_append];rw[appD_some (by simp[lim_eq];omega) (by simp[lim_eq];omega)]
  simp only[Option.bind_some];have hl:(((rng lo hi).take k).map fun x=>v++[x]).length≤2000001:=by simp;omega
  rw[appD_some (by simp[lim_eq]at hl ⊢;omega) (by simp[lim_eq]at hl ⊢;omega)]
  simp only[Option.bind_some];rw[wrap_small (by omega) (by omega),map_take_rng _ hk,List.append_assoc,show lo+(k:Int)+1=lo+((k+1:Nat):Int) by omega]) (by
  unfold s_l5All_s10;simp only;rw[show decide (lo+(((hi+1-lo).toNat:Nat):Int)≤hi)=false from by simp;omega,cond_false]
  have:(rng lo hi).take (hi+1-lo).toNat=rng lo hi:=by rw[←rng_len,List.take_length]
  rw[this])
 simpa using this
theorem all7 {L:List (List Int)} {d:Int} (h1:-1000≤lo) (h2:hi≤1000) (h3:lo≤hi + 1) (hv:∀ v∈L,v.length≤1000) (hL:L.length≤40000) :
  iter (s_l5All_s7 lo hi (L,d)) ([],0)=some (ext lo hi L):=by
 have:=iter_up (step:=s_l5All_s7 lo hi (L,d)) L.length (fun k=>(ext lo hi (L.take k),(k:Int))) (ext lo hi L) (fun k hk=>by
  have hg:L[k]? = some L[k]:=List.getElem?_eq_getElem hk;unfold s_l5All_s7;simp only;rw[show decide ((k:Int)<(L.length:Int))=true from by simp;omega,cond_true]
  have hel:(ext lo hi (L.take k)).length≤100000000:=by
   rw[ext_len];have:(L.take k).length≤40000:=by simp;omega
   calc (L.take k).length*(hi+1-lo).toNat≤40000*2001:=Nat.mul_le_mul this (by omega)
    _≤100000000:=by decide
  rw[all10 (v:=L[k]) (idx_some hg) (by omega) (by omega) h3 (hv _ (List.getElem_mem hk)) hel]
  simp only[Option.bind_some];rw[wrap_small (by omega) (by omega),ext_take hg]
  rfl) (by
  unfold s_l5All_s7;simp)
 simpa[ext]using this
end
def latt:List (Int×Int)→List (List Int)→List (List Int)
 | [],L=>L
 | p::r,L=>latt r (ext p.1 p.2 L)
theorem latt_snoc (p:Int×Int):(r:List (Int×Int))→(L:List (List Int))→latt (r++[p]) L=ext p.1 p.2 (latt r L)
 | [],L=>rfl
 | q::r,L=>by simp only[List.cons_append,latt];exact latt_snoc p r _
theorem ext_lens {lo hi:Int}{L:List (List Int)}{n:Nat}(h:∀v∈L,v.length=n):∀v∈ext lo hi L,v.length=n+1:=by
 intro v hv;unfold ext at hv;obtain⟨u,hu,hv⟩:=List.mem_flatMap.1 hv;obtain⟨x,_,rfl⟩:=List.mem_map.1 hv;simp[h u hu]
theorem latt_facts (B:List (Int×Int))(hB:∀p∈B,-1000≤p.1∧p.2≤1000∧p.1≤p.2+1∧p.2-p.1≤199):(k:Nat)→k≤B.length→(∀v∈latt (B.take k) [[]],v.length=k)∧(latt (B.take k) [[]]).length≤200 ^ k
 | 0,_=>by simp[latt]
 | k+1,hk=>by
  obtain⟨h1,h2⟩:=latt_facts B hB k (by omega)
  have hg:B[k]? = some (B[k]'(by omega)):=List.getElem?_eq_getElem (by omega)
  have e:B.take (k+1)=B.take k++[B[k]'(by omega)]:=by rw[List.take_add_one,hg];rfl
  rw[e,latt_snoc];have hb:=hB _ (List.getElem_mem (show k<B.length by omega))
  refine⟨ext_lens h1,?_⟩;rw[ext_len,Nat.pow_succ];exact Nat.mul_le_mul h2 (by omega)
theorem lattice_eq (B:List (Int×Int))(hB:∀p∈B,-1000≤p.1∧p.2≤1000∧p.1≤p.2+1∧p.2-p.1≤199)(hl:B.length≤3):i_lattice (B.map (·.1)) (B.map (·.2))=some (latt B [[]]):=by
 have:=iter_up (step:=i_lattice_s3 (B.map (·.1)) (B.map (·.2))) B.length (fun k=>(latt (B.take k) [[]],(k:Int))) (latt B [[]]) (fun k hk=>by
  obtain⟨h1,h2⟩:=latt_facts B hB k (by omega)
  have hg:B[k]? = some B[k]:=List.getElem?_eq_getElem hk;have hb:=hB _ (List.getElem_mem hk);unfold i_lattice_s3;simp only;rw[show decide ((k:Int)<((B.map (·.1)).length:Int))=true from by simp;omega,cond_true]
  have h3:(latt (B.take k) [[]]).length≤40000:=Nat.le_trans h2 (by
   have:k=0∨k=1∨k=2:=by omega
   rcases this with rfl | rfl | rfl<;>decide)
  rw[latt7 (lo:=B[k].1) (hi:=B[k].2) (by rw[idx_nat,List.getElem?_map,hg];rfl) (by rw[idx_nat,List.getElem?_map,hg];rfl) hb.1 hb.2.1 hb.2.2.1 (fun v hv=>by rw[h1 v hv];omega) h3]
  simp only[Option.bind_some];have e:B.take (k+1)=B.take k++[B[k]]:=by rw[List.take_add_one,hg];rfl
  rw[wrap_small (by omega) (by omega),e,latt_snoc]
  rfl) (by
  unfold i_lattice_s3;simp)
 unfold i_lattice;have e:(([([]:List Int)],0):List (List Int)×Int)=(latt (B.take 0) [[]],((0:Nat):Int)):=by simp[latt]
 rw[e,this];rfl
theorem l5All_eq (n:Nat)(hn:n≤3){lo hi:Int}(h1:-1000≤lo)(h2:hi≤1000)(h3:lo≤hi+1)(h4:hi-lo≤199):s_l5All (n:Int) lo hi=some (latt (List.replicate n (lo,hi)) [[]]):=by
 have hB:∀p∈List.replicate n (lo,hi),-1000≤p.1∧p.2≤1000∧p.1≤p.2+1∧p.2-p.1≤199:=fun p hp=>by
  rw[List.eq_of_mem_replicate hp];exact⟨h1,h2,h3,h4⟩
 have:=iter_up (step:=s_l5All_s3 (n:Int) lo hi) n (fun k=>(latt ((List.replicate n (lo,hi)).take k) [[]],(k:Int))) (latt (List.replicate n (lo,hi)) [[]]) (fun k hk=>by
  obtain⟨k1,k2⟩:=latt_facts _ hB k (by simp;omega)
  have hg:(List.replicate n (lo,hi))[k]? = some (lo,hi):=by rw[List.getElem?_replicate,if_pos hk]
  unfold s_l5All_s3;simp only;rw[show decide ((k:Int)<(n:Int))=true from by simp;omega,cond_true]
  have k3:(latt ((List.replicate n (lo,hi)).take k) [[]]).length≤40000:=Nat.le_trans k2 (by
   have:k=0∨k=1∨k=2:=by omega
   rcases this with rfl | rfl | rfl<;>decide)
  rw[all7 h1 h2 h3 (fun v hv=>by rw[k1 v hv];omega) k3]
  simp only[Option.bind_some];have e:(List.replicate n (lo,hi)).take (k+1)=(List.replicate n (lo,hi)).take k++[(lo,hi)]:=by rw[List.take_add_one,hg];rfl
  rw[wrap_small (by omega) (by omega),e,latt_snoc]
  rfl) (by
  unfold s_l5All_s3;simp)
 unfold s_l5All;have e:(([([]:List Int)],0):List (List Int)×Int)=(latt ((List.replicate n (lo,hi)).take 0) [[]],((0:Nat):Int)):=by simp[latt]
 rw[e,this];rfl
theorem idx_em (q:Pt):idx (em q) 0=some q.1∧idx (em q) 1=some q.2:=⟨rfl,rfl⟩
theorem filter_take_succ {α:Type}(f:α→Bool){l:List α}{k:Nat}{x:α}(h:l[k]? = some x):(l.take (k+1)).filter f=(l.take k).filter f++(if f x then [x]else []):=by
 rw[List.take_add_one,h,List.filter_append];cases hf:f x<;>simp[hf]
def wid (P:List Pt)(a:Pt):Int:=sup P a+sup P (ngp a)
end Go.Proofs.YtfknaeamhcpfgaaGreat
