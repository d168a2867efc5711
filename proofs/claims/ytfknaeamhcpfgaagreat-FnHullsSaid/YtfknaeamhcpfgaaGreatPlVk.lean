/-
  Texts put together: PlVi, PlVj, PlVk. No condition.
-/
import Derived.Test.YtfknaeamhcpfgaaGreatPlVu
namespace Go.Proofs.YtfknaeamhcpfgaaGreat
open Go Go.Proofs.YtfknaeamhcpfgaaGreat.Eng
set_option linter.all false
theorem eraseIdx_snoc {α:Type}(l:List α)(x:α)(i:Nat):(l++[x]).eraseIdx i=if i=l.length then l else l.eraseIdx i++[x]:=by
 split
 ·rename_i h;subst h;rw[List.eraseIdx_append_of_length_le (Nat.le_refl _)];simp
 ·rename_i h;by_cases hl:i<l.length
  ·rw[List.eraseIdx_append_of_lt_length hl]
  ·rw[List.eraseIdx_append_of_length_le (by omega)]
   obtain⟨m,hm⟩:∃m,i-l.length=m+1:=⟨i-l.length-1,by omega⟩
   rw[hm,List.eraseIdx_of_length_le (l:=[x]) (by simp),List.eraseIdx_of_length_le (l:=l) (by omega)]
def minorL (M:List (List Int))(i j:Nat):List (List Int):=(M.eraseIdx i).map (·.eraseIdx j)
theorem minor_eq {M:List (List Int)}{i j c:Nat}(hr:M.length≤8)(hc:∀r∈M,r.length=c)(hc8:c≤8)(hj:j<c):i_minor M (i:Int) (j:Int)=some (minorL M i j):=by
 have:=iter_up (step:=i_minor_s3 M (i:Int) (j:Int)) M.length (fun k=>(minorL (M.take k) i j,(k:Int))) (minorL M i j) (fun k hk=>by
  have hx:M[k]? = some M[k]:=List.getElem?_eq_getElem hk;have hl:=hc _ (List.getElem_mem hk);have htk:(M.take k).length=k:=by rw[List.length_take];omega
  have e1:minorL (M.take (k+1)) i j=if i=k then minorL (M.take k) i j else minorL (M.take k) i j++[M[k].eraseIdx j]:=by
   unfold minorL;rw[List.take_add_one,hx,Option.toList_some,eraseIdx_snoc,htk];split
   ·rename_i h;subst h;rw[List.eraseIdx_of_length_le (by omega)]
   ·simp
  have hml:(minorL (M.take k) i j).length≤8:=by
   unfold minorL;rw[List.length_map];have:=List.length_eraseIdx_le (M.take k) i;omega
  unfold i_minor_s3;simp only;rw[show decide ((k:Int)<(M.length:Int))=true from by simp;omega,cond_true,idx_some hx,Option.bind_some,e1,wrap_small (x:=(k:Int)+1) (by omega) (by omega)]
  by_cases hik:i=k
  ·rw[if_pos hik,show((k:Int) != (i:Int))=false from by simp[hik],cond_false];rfl
  ·rw[if_neg hik,show((k:Int) != (i:Int))=true from by simp;omega,cond_true]
   have s1:subl M[k] (0:Int) (j:Int)=some (M[k].take j):=by
    have:=subl_nat (xs:=M[k]) (a:=0) (b:=j) (by omega) (by omega)
    simpa using this
   have s2:subl M[k] (IntKind.i64.wrap ((j:Int)+1)) (M[k].length:Int)=some (M[k].drop (j+1)):=by
    rw[wrap_small (by omega) (by omega)]
    have:=subl_nat (xs:=M[k]) (a:=j+1) (b:=M[k].length) (by omega) (by omega)
    rw[List.take_length]at this
    exact_mod_cast this
   rw[s1,Option.bind_some,copyInts_eq (by rw[lim_eq,List.length_take];omega),Option.bind_some,s2,Option.bind_some,appD_some (by rw[lim_eq,List.length_take,List.length_drop];omega) (by rw[lim_eq,List.length_take,List.length_drop];omega),Option.bind_some,
    appD_some (by rw[lim_eq,List.length_singleton];omega) (by rw[lim_eq,List.length_singleton];omega),Option.bind_some,List.eraseIdx_eq_take_drop_succ]
   rfl) (by
  unfold i_minor_s3;simp)
 unfold i_minor;have h0:(([]:List (List Int)),(0:Int))=(minorL (M.take 0) i j,((0:Nat):Int)):=by simp[minorL]
 rw[h0,this];rfl
def sgn (k:Nat):Int:=if k % 2=0 then 1 else -1
theorem sgn_succ (k:Nat):sgn (k+1)=- sgn k:=by
 unfold sgn;by_cases h:k % 2=0
 ·rw[if_pos h,if_neg (by omega)]
 ·rw[if_neg h,if_pos (by omega)];rfl
def altS (r:List Int)(d:Nat→Int):Nat→Int
 | 0=>0
 | k+1=>altS r d k+sgn k*(r[k]?.getD 0)*d k
theorem term_bd {s x d:Int}(hs:s=1∨s=-1)(hx:B3 x)(hd:-80000≤d∧d≤80000):-16000000≤s*x*d∧s*x*d≤16000000:=by
 have h:=b3_mul2 hx hd;rcases hs with rfl | rfl
 ·rw[Int.one_mul];exact h
 ·rw[show(-1:Int)*x*d=-(x*d)from by rw[Int.mul_assoc,Int.neg_one_mul]];omega
theorem sgn_or (k:Nat):sgn k=1∨sgn k=-1:=by unfold sgn;split<;>simp
theorem altS_bd {r:List Int}{d:Nat→Int}{n:Nat}(h0:∀x∈r,B3 x)(hd:∀j,j<n→-80000≤d j∧d j≤80000):∀k,k≤n→-(16000000*(k:Int))≤altS r d k∧altS r d k≤16000000*(k:Int)
 | 0,_=>by simp[altS]
 | k+1,hk=>by
  have ih:=altS_bd h0 hd k (by omega)
  have hb:B3 (r[k]?.getD 0):=by
   cases hx:r[k]? with
   | none=>simp[B3]
   | some x=>exact h0 x (List.mem_of_getElem? hx)
  have:=term_bd (sgn_or k) hb (hd k (by omega))
  simp only[altS];omega
theorem det_step {n:Nat} (hn:n≤2) {r0:List Int} {M:List (List Int)} (hr:(r0 :: M).length = n + 1) (hc:∀ r∈r0 :: M,r.length = n + 1) (h0:∀ x∈r0,B3 x) {rec:List (List Int)→Option Int} {d:Nat→Int}
  (hd:∀j,j<n+1→rec (minorL (r0::M) 0 j)=some (d j)∧-80000≤d j∧d j≤80000):i_detB rec (r0::M)=some (altS r0 d (n+1)):=by
 have hl0:=hc r0 (by simp)
 have hbd:=altS_bd (n:=n+1) h0 fun j hj=>(hd j hj).2;have:=iter_up (step:=i_det_s5 rec (r0::M) r0) (n+1) (fun k=>(altS r0 d k,(sgn k,(k:Int)))) (altS r0 d (n+1)) (fun k hk=>by
  have hx:r0[k]? = some (r0[k]'(by omega)):=List.getElem?_eq_getElem _
  have b1:=hbd k (by omega)
  have b2:=hbd (k+1) (by omega)
  have hxb:=h0 _ (List.getElem_mem (by omega:k<r0.length))
  obtain⟨d1,d2⟩:=hd k hk;have tb:=term_bd (sgn_or k) hxb d2;have es:IntKind.i64.wrap (0-sgn k)=sgn (k+1):=by
   rw[sgn_succ];rcases sgn_or k with h | h<;>(rw[h];rfl)
  unfold i_det_s5;simp only;rw[show decide ((k:Int)<(r0.length:Int))=true from by simp;omega,cond_true,idx_some hx,Option.bind_some,wrap_small (x:=(k:Int)+1) (by omega) (by omega),es]
  have ea:altS r0 d (k+1)=altS r0 d k+sgn k*(r0[k]'(by omega))*d k:=by simp only[altS,hx,Option.getD_some]
  by_cases hz:(r0[k]'(by omega))=0
  ·rw[show((r0[k]'(by omega)) != 0)=false from by simp[hz],cond_false,ea,hz]
   simp
  ·have hsx:IntKind.i64.wrap (sgn k*(r0[k]'(by omega)))=sgn k*(r0[k]'(by omega)):=by
    unfold B3 at hxb;rcases sgn_or k with h | h<;>(rw[h];exact wrap_small (by omega) (by omega))
   have hm:i_minor (r0::M) 0 (k:Int)=some (minorL (r0::M) 0 k):=minor_eq (i:=0) (c:=n+1) (by omega) hc (by omega) hk
   rw[show((r0[k]'(by omega)) != 0)=true from by simpa using hz,cond_true,hm,Option.bind_some,d1,Option.bind_some,hsx,wrap_small (x:=sgn k*(r0[k]'(by omega))*d k) (by omega) (by omega),←ea,wrap_small (by omega) (by omega)]
   rfl) (by
  unfold i_det_s5;simp only;rw[show decide (((n+1:Nat):Int)<(r0.length:Int))=false from by simp;omega,cond_false])
 unfold i_detB;rw[show(((r0::M).length:Int)==0)=false from by simp;omega,cond_false]
 have hi:idx (r0::M) 0=some r0:=idx_some (k:=0) rfl;rw[hi,Option.bind_some];have e0:((0:Int),((1:Int),(0:Int)))=(altS r0 d 0,(sgn 0,((0:Nat):Int))):=rfl;rw[e0,this];rfl
theorem idet0 (f:Nat):i_detR (f+1) []=some 1:=rfl
theorem idet1 (f:Nat){a:Int}(ha:B3 a):i_detR (f+2) [[a]]=some a:=by
 have:=det_step (n:=0) (rec:=i_detR (f+1)) (d:=fun _=>1) (by omega) (r0:=[a]) (M:=[]) rfl (by simp) (by simpa using ha) (fun j hj=>by
  obtain rfl:j=0:=by omega
  exact⟨idet0 f,by omega,by omega⟩)
 show i_detB (i_detR (f+1)) [[a]]=some a;rw[this];simp[altS,sgn]
theorem idet2 (f:Nat){a b c d:Int}(ha:B3 a)(hb:B3 b)(hc:B3 c)(hd:B3 d):i_detR (f+3) [[a,b],[c,d]]=some (a*d-b*c):=by
 have:=det_step (n:=1) (rec:=i_detR (f+2)) (d:=fun j=>if j=0 then d else c) (by omega) (r0:=[a,b]) (M:=[[c,d]]) rfl (by simp) (fun x hx=>by simp at hx;rcases hx with rfl | rfl<;>assumption) (fun j hj=>by
  have:j=0∨j=1:=by omega
  unfold B3 at hc hd;rcases this with rfl | rfl
  ·exact⟨idet1 f hd,by simp only[if_true];omega,by simp only[if_true];omega⟩
  ·exact⟨idet1 f hc,by simp;omega,by simp;omega⟩)
 show i_detB (i_detR (f+2)) [[a,b],[c,d]]=some (a*d-b*c);rw[this];have e:altS [a,b] (fun j=>if j=0 then d else c) 2=0+1*a*d+-1*b*c:=rfl;rw[e];congr 1
 grind
theorem idet3 (k:Nat) {a b c d e f g h i:Int} (ha:B3 a) (hb:B3 b) (hc:B3 c) (hd:B3 d) (he:B3 e) (hf:B3 f) (hg:B3 g) (hh:B3 h) (hi:B3 i) :
  i_detR (k+4) [[a,b,c],[d,e,f],[g,h,i]]=some (a*(e*i-f*h)+b*(f*g-d*i)+c*(d*h-e*g)):=by
 have q1:=b3_mul he hi;have q2:=b3_mul hf hh;have q3:=b3_mul hd hi;have q4:=b3_mul hf hg;have q5:=b3_mul hd hh;have q6:=b3_mul he hg;have:=det_step (n:=2) (rec:=i_detR (k+3)) (d:=fun j=>if j=0 then e*i-f*h else if j=1 then d*i-f*g else d*h-e*g) (by omega) (r0:=[a,b,c]) (M:=[[d,e,f],[g,h,i]]) rfl (by simp) (fun x hx=>by simp at hx;rcases hx with rfl | rfl | rfl<;>assumption) (fun j hj=>by
  have:j=0∨j=1∨j=2:=by omega
  rcases this with rfl | rfl | rfl
  ·exact⟨idet2 k he hf hh hi,by simp only[if_true];omega,by simp only[if_true];omega⟩
  ·exact⟨idet2 k hd hf hg hi,by simp;omega,by simp;omega⟩
  ·exact⟨idet2 k hd he hg hh,by simp;omega,by simp;omega⟩)
 show i_detB (i_detR (k+3)) [[a,b,c],[d,e,f],[g,h,i]]=_;rw[this];have e:altS [a,b,c] (fun j=>if j=0 then e*i-f*h else if j=1 then d*i-f*g else d*h-e*g) 3=0+1*a*(e*i-f*h)+-1*b*(d*i-f*g)+1*c*(d*h-e*g):=rfl;rw[e];congr 1
 grind
def detI:List (List Int)→Int
 | []=>1
 | r::M=>det (r::M)
structure Sq0 (n:Nat) (M:List (List Int)):Prop where
 three:n≤3
 rows:M.length=n
 cols:∀r∈M,r.length=n∧∀x∈r,B3 x
theorem Sq.zero {n:Nat}{M:List (List Int)}(h:Sq n M):Sq0 n M:=⟨h.three,h.rows,h.cols⟩
theorem detI_eq {n:Nat}{M:List (List Int)}(h:Sq0 n M):i_det M=some (detI M)∧-48000000≤detI M∧detI M≤48000000:=by
 by_cases h0:n=0
 ·have:M=[]:=List.eq_nil_of_length_eq_zero (by rw[h.rows,h0])
  subst this;exact⟨rfl,by decide,by decide⟩
 ·have hs:Sq n M:=⟨by omega,h.three,h.rows,h.cols⟩
  have hM:∃r M',M=r::M':=by
   cases M with
   | nil=>have:=h.rows;simp at this;omega
   | cons r M'=>exact⟨r,M',rfl⟩
  have hbd:=(l3Det_eq hs).2;have hd:detI M=det M:=by obtain⟨r,M',rfl⟩:=hM;rfl
  rw[hd];refine⟨?_,hbd⟩;obtain⟨h1,h3,hr,hc⟩:=hs;have:n=1∨n=2∨n=3:=by omega
  rcases this with rfl | rfl | rfl
  ·match M,hr with
   | [r],_ =>
    obtain⟨k,hb⟩:=hc r (by simp)
    obtain⟨a,rfl⟩:=row_one k;exact idet1 29998 (hb a (by simp))
  ·match M,hr with
   | [r,s],_ =>
    obtain⟨k,hb⟩:=hc r (by simp)
    obtain⟨k',hb'⟩:=hc s (by simp)
    obtain⟨a,b,rfl⟩:=row_two k;obtain⟨c,d,rfl⟩:=row_two k';exact idet2 29997 (hb a (by simp)) (hb b (by simp)) (hb' c (by simp)) (hb' d (by simp))
  ·match M,hr with
   | [r,s,t],_ =>
    obtain⟨k,hb⟩:=hc r (by simp)
    obtain⟨k',hb'⟩:=hc s (by simp)
    obtain⟨k'',hb''⟩:=hc t (by simp)
    obtain⟨a,b,c,rfl⟩:=row_three k;obtain⟨d,e,f,rfl⟩:=row_three k';obtain⟨g,h',i,rfl⟩:=row_three k'';exact idet3 29996 (hb a (by simp)) (hb b (by simp)) (hb c (by simp)) (hb' d (by simp)) (hb' e (by simp)) (hb' f (by simp)) (hb'' g (by simp)) (hb'' h' (by simp)) (hb'' i (by simp))
theorem minor_sq {n:Nat}{M:List (List Int)}(h:Sq0 (n+1) M){i j:Nat}(hi:i<n+1)(hj:j<n+1):Sq0 n (minorL M i j):=by
 refine⟨by have:=h.three;omega,?_,fun r hr=>?_⟩
 ·unfold minorL;rw[List.length_map,List.length_eraseIdx,if_pos (by rw[h.rows];exact hi),h.rows];omega
 ·unfold minorL at hr;obtain⟨q,hq,rfl⟩:=List.mem_map.1 hr;obtain⟨c1,c2⟩:=h.cols q (List.mem_of_mem_eraseIdx hq);refine⟨?_,fun x hx=>c2 x (List.mem_of_mem_eraseIdx hx)⟩;rw[List.length_eraseIdx,if_pos (by omega),c1];omega
def adjC (M:List (List Int))(i j:Nat):Int:=sgn (i+j)*detI (minorL M j i)
def adjL (n:Nat)(M:List (List Int)):List (List Int):=(List.range n).map fun i=>(List.range n).map fun j=>adjC M i j
theorem adj7 {n:Nat}{M:List (List Int)}(h:Sq0 (n+1) M){out:List (List Int)}{i:Nat}(hi:i<n+1):iter (i_adjugate_s7 M (out,(i:Int))) (out,(List.replicate (n+1) 0,0))=some (out,(List.range (n+1)).map fun j=>adjC M i j):=by
 have hr:=h.rows;have h3:=h.three;have:=iter_up (step:=i_adjugate_s7 M (out,(i:Int))) (n+1) (fun k=>(out,(((List.range k).map fun j=>adjC M i j)++List.replicate (n+1-k) 0,(k:Int)))) (out,(List.range (n+1)).map fun j=>adjC M i j) (fun k hk=>by
  obtain⟨d1,d2⟩:=detI_eq (minor_sq h hk hi);have hm:i_minor M (k:Int) (i:Int)=some (minorL M k i):=minor_eq (c:=n+1) (by omega) (fun r hr=>(h.cols r hr).1) (by omega) hi
  have hsp:List.replicate (n+1-k) (0:Int)=0::List.replicate (n+1-(k+1)) 0:=by
   rw[show n+1-k=(n+1-(k+1))+1 from by omega,List.replicate_succ]
  have hll:(((List.range k).map fun j=>adjC M i j)++List.replicate (n+1-k) (0:Int)).length=n+1:=by simp;omega
  have hset:∀v:Int,(((List.range k).map fun j=>adjC M i j)++List.replicate (n+1-k) (0:Int)).set k v=((List.range k).map fun j=>adjC M i j)++v::List.replicate (n+1-(k+1)) 0:=fun v=>by
   rw[hsp,List.set_append_right _ _ (by simp)]
   simp
  have hget:∀v:Int,(((List.range k).map fun j=>adjC M i j)++v::List.replicate (n+1-(k+1)) 0)[k]? = some v:=fun v=>by
   rw[List.getElem?_append_right (by simp)]
   simp
  have hset2:∀v u:Int,(((List.range k).map fun j=>adjC M i j)++v::List.replicate (n+1-(k+1)) 0).set k u=((List.range k).map fun j=>adjC M i j)++u::List.replicate (n+1-(k+1)) 0:=fun v u=>by
   rw[List.set_append_right _ _ (by simp)]
   simp
  have hll2:∀v:Int,(((List.range k).map fun j=>adjC M i j)++v::List.replicate (n+1-(k+1)) 0).length=n+1:=fun v=>by simp;omega
  have hfin:((List.range (k+1)).map fun j=>adjC M i j)++List.replicate (n+1-(k+1)) (0:Int)=((List.range k).map fun j=>adjC M i j)++adjC M i k::List.replicate (n+1-(k+1)) 0:=by
   rw[List.range_succ];simp
  unfold i_adjugate_s7;simp only;rw[hr,show decide ((k:Int)<((n+1:Nat):Int))=true from by simp;omega,cond_true,hm,Option.bind_some,d1,Option.bind_some,hll,inIdx_nat hk,Option.bind_some,Int.toNat_natCast,inIdx_nat hk,Option.bind_some,hset,hll2,inIdx_nat hk,idx_some (hget _)]
  have hrem:remI .i64 (IntKind.i64.wrap ((i:Int)+(k:Int))) 2=some (((i+k) % 2:Nat):Int):=by
   rw[wrap_small (by omega) (by omega)]
   unfold remI;rw[if_neg (by omega)]
   congr 1
  rw[hrem];simp only[Option.bind_some];rw[wrap_small (x:=(k:Int)+1) (by omega) (by omega),hfin]
  by_cases hp:(i+k) % 2=1
  ·rw[show((((i+k) % 2:Nat):Int)==1)=true from by simp[hp],cond_true,hset2,wrap_small (by omega) (by omega)]
   have:adjC M i k=0-detI (minorL M k i):=by
    unfold adjC sgn;rw[if_neg (by omega)];omega
   rw[this];rfl
  ·rw[show((((i+k) % 2:Nat):Int)==1)=false from by simp;omega,cond_false]
   have:adjC M i k=detI (minorL M k i):=by
    unfold adjC sgn;rw[if_pos (by omega)];omega
   rw[this];rfl) (by
  unfold i_adjugate_s7;simp only;rw[hr,show decide (((n+1:Nat):Int)<((n+1:Nat):Int))=false from by simp,cond_false]
  simp)
 simpa using this
theorem adj_eq {n:Nat}{M:List (List Int)}(h:Sq0 (n+1) M):i_adjugate M=some (adjL (n+1) M):=by
 have hr:=h.rows;have h3:=h.three;have:=iter_up (step:=i_adjugate_s3 M) (n+1) (fun k=>((List.range k).map fun i=>(List.range (n+1)).map fun j=>adjC M i j,(k:Int))) (adjL (n+1) M) (fun k hk=>by
  unfold i_adjugate_s3;simp only;rw[hr,show decide ((k:Int)<((n+1:Nat):Int))=true from by simp;omega,cond_true,mkD_some (by rw[lim_eq];omega) (by rw[lim_eq];omega),Option.bind_some,adj7 h hk,Option.bind_some]
  simp only;rw[appD_some (by rw[lim_eq];simp;omega) (by rw[lim_eq];simp;omega),Option.bind_some,wrap_small (by omega) (by omega),List.range_succ (n:=k),List.map_append]
  rfl) (by
  unfold i_adjugate_s3;simp only;rw[hr,show decide (((n+1:Nat):Int)<((n+1:Nat):Int))=false from by simp,cond_false]
  rfl)
 unfold i_adjugate;have e0:(([]:List (List Int)),(0:Int))=((List.range 0).map fun i=>(List.range (n+1)).map fun j=>adjC M i j,((0:Nat):Int)):=rfl;rw[e0,this];rfl
theorem adj_bd {n:Nat}{M:List (List Int)}(h:Sq0 (n+1) M):(adjL (n+1) M).length=n+1∧∀r∈adjL (n+1) M,r.length=n+1∧∀x∈r,-80000≤x∧x≤80000:=by
 refine⟨by simp[adjL],fun r hr=>?_⟩
 obtain⟨i,hi,rfl⟩:=List.mem_map.1 hr;refine⟨by simp,fun x hx=>?_⟩
 obtain⟨j,hj,rfl⟩:=List.mem_map.1 hx;rw[List.mem_range]at hi hj;have hsq:=minor_sq h hj hi;have hb:-80000≤detI (minorL M j i)∧detI (minorL M j i)≤80000:=by
  generalize minorL M j i=K at hsq;have h3:=h.three;obtain⟨_,kr,kc⟩:=hsq;have:n=0∨n=1∨n=2:=by omega
  rcases this with rfl | rfl | rfl
  ·have:K=[]:=List.eq_nil_of_length_eq_zero kr;subst this;decide
  ·match K,kr with
   | [r],_ =>
    obtain⟨k,hb⟩:=kc r (by simp)
    obtain⟨a,rfl⟩:=row_one k;have:=hb a (by simp)
    unfold B3 at this;show -80000≤a∧a≤80000;omega
  ·match K,kr with
   | [r,s],_ =>
    obtain⟨k,hb⟩:=kc r (by simp)
    obtain⟨k',hb'⟩:=kc s (by simp)
    obtain⟨a,b,rfl⟩:=row_two k;obtain⟨c,d,rfl⟩:=row_two k';have q1:=b3_mul (hb a (by simp)) (hb' d (by simp))
    have q2:=b3_mul (hb b (by simp)) (hb' c (by simp))
    show -80000≤a*d-b*c∧a*d-b*c≤80000;omega
 unfold adjC;rcases sgn_or (i+j)with h | h<;>(rw[h];omega)
theorem adj_nums {n:Nat}{X:List Hf}(h:Sys n X):(adjL n (normals X)).map (fun r=>dtL r (X.map (·.2)))=numsL X n:=by
 obtain⟨h1,h3,hr,hc⟩:=h;have:n=1∨n=2∨n=3:=by omega
 rcases this with rfl | rfl | rfl
 ·match X,hr with
  | [(r,p)],_ =>
   obtain⟨a,rfl⟩:=row_one (hc (r,p) (by simp)).1
   simp[adjL,normals,numsL,swapC,adjC,minorL,detI,det,sgn,dtL]
 ·match X,hr with
  | [(r,p),(s,q)],_ =>
   obtain⟨a,b,rfl⟩:=row_two (hc (r,p) (by simp)).1
   obtain⟨c,d,rfl⟩:=row_two (hc (s,q) (by simp)).1
   simp[adjL,normals,numsL,swapC,adjC,minorL,detI,det,sgn,dtL,List.range_succ];refine⟨?_,?_⟩<;>grind
 ·match X,hr with
  | [(r,p),(s,q),(t,u)],_ =>
   obtain⟨a,b,c,rfl⟩:=row_three (hc (r,p) (by simp)).1
   obtain⟨d,e,f,rfl⟩:=row_three (hc (s,q) (by simp)).1
   obtain⟨g,h,i,rfl⟩:=row_three (hc (t,u) (by simp)).1
   simp[adjL,normals,numsL,swapC,adjC,minorL,detI,det,sgn,dtL,List.range_succ];refine⟨?_,?_,?_⟩<;>grind
open Go Go.Proofs.YtfknaeamhcpfgaaGreat.Eng
set_option linter.all false
theorem gv_dvd:∀(v:List Int) (g:Int),v.foldl (fun g x=>(Int.gcd g x:Int)) g∣g∧∀x∈v,v.foldl (fun g x=>(Int.gcd g x:Int)) g∣x
 | [],g=>by simp
 | y::v,g=>by
  simp only[List.foldl_cons];obtain⟨h1,h2⟩:=gv_dvd v (Int.gcd g y:Int);refine⟨Int.dvd_trans h1 (Int.gcd_dvd_left ..),fun x hx=>?_⟩;rcases List.mem_cons.1 hx with rfl | hx
  ·exact Int.dvd_trans h1 (Int.gcd_dvd_right ..)
  ·exact h2 x hx
theorem gvL_dvd {v:List Int}{x:Int}(h:x∈v):gcdL v∣x:=(gv_dvd v 0).2 x h
theorem gv_scale {c:Int}(hc:0≤c):∀(v:List Int) (g:Int),(v.map (·*c)).foldl (fun g x=>(Int.gcd g x:Int)) (g*c)=v.foldl (fun g x=>(Int.gcd g x:Int)) g*c
 | [],g=>rfl
 | y::v,g=>by
  simp only[List.map_cons,List.foldl_cons];have:((Int.gcd (g*c) (y*c):Nat):Int)=(Int.gcd g y:Int)*c:=by
   rw[Int.gcd_mul_right,Int.natCast_mul,Int.natAbs_of_nonneg hc]
  rw[this,gv_scale hc v]
theorem gvL_scale {c:Int}(hc:0≤c)(v:List Int):gcdL (v.map (·*c))=gcdL v*c:=by
 have:=gv_scale hc v 0;rw[Int.zero_mul]at this;exact this
theorem gv_neg:∀(v:List Int) (g:Int),(v.map fun x=>x*(-1)).foldl (fun g x=>(Int.gcd g x:Int)) g=v.foldl (fun g x=>(Int.gcd g x:Int)) g
 | [],g=>rfl
 | y::v,g=>by
  simp only[List.map_cons,List.foldl_cons];have:Int.gcd g (y*(-1))=Int.gcd g y:=by rw[Int.mul_neg,Int.mul_one,Int.gcd_neg]
  rw[this,gv_neg v]
theorem gvL_neg (v:List Int):gcdL (v.map fun x=>x*(-1))=gcdL v:=gv_neg v 0
theorem gv_div {d:Int}:∀(v:List Int) (g:Int),d∣g→(∀x∈v,d∣x)→d∣v.foldl (fun g x=>(Int.gcd g x:Int)) g
 | [],g,h,_=>h
 | y::v,g,h,hv=>gv_div v _ (Int.dvd_coe_gcd h (hv y (by simp))) fun x hx=>hv x (List.mem_cons_of_mem _ hx)
def redL (N:List Int)(d:Int):Ra :=
 if d<0 then(N.map fun x=>x.tdiv (-(Int.gcd (gcdL N) d:Int)),d.tdiv (-(Int.gcd (gcdL N) d:Int)))else(N.map fun x=>x.tdiv (Int.gcd (gcdL N) d:Int),d.tdiv (Int.gcd (gcdL N) d:Int))
theorem gcd_ne {a d:Int}(h:d≠0):((Int.gcd a d:Nat):Int)≠0:=fun he=>h (Int.eq_zero_of_gcd_eq_zero_right (a:=a) (b:=d) (by omega))
theorem red6 {N:List Int} {d g e:Int} (hl:N.length≤3) (hN:∀ x∈N,-1000000000≤x∧x≤1000000000) (hg:g≠0) (hgb:-1000000000≤g∧g≤1000000000) {z:List Int × Int} :
  iter (i_reducedPoint_s6 (N,d) g) (z,(([],e),0))=some (z,(N.map fun x=>x.tdiv (-g),e)):=by
 have:=iter_up (step:=i_reducedPoint_s6 (N,d) g) N.length (fun k=>(z,((((N.take k).map fun x=>x.tdiv (-g)),e),(k:Int)))) (z,(N.map fun x=>x.tdiv (-g),e)) (fun k hk=>by
  have hx:N[k]? = some N[k]:=List.getElem?_eq_getElem hk;unfold i_reducedPoint_s6;simp only;rw[show decide ((k:Int)<(N.length:Int))=true from by simp;omega,cond_true,idx_some hx,Option.bind_some,wrap_small (x:=0-g) (by omega) (by omega),show(0:Int)-g=-g from by omega,quoI_some (by omega) (hN _ (List.getElem_mem hk)),Option.bind_some,appD_some (by rw[lim_eq];simp;omega) (by rw[lim_eq];simp;omega),Option.bind_some,wrap_small (by omega) (by omega),take_map1 _ hx]
  rfl) (by
  unfold i_reducedPoint_s6;simp)
 simpa using this
theorem red13 {N:List Int} {d g e:Int} (hl:N.length≤3) (hN:∀ x∈N,-1000000000≤x∧x≤1000000000) (hg:g≠0) {z:List Int × Int} :
  iter (i_reducedPoint_s6b13 (N,d) g) (z,(([],e),0))=some (z,(N.map fun x=>x.tdiv g,e)):=by
 have:=iter_up (step:=i_reducedPoint_s6b13 (N,d) g) N.length (fun k=>(z,((((N.take k).map fun x=>x.tdiv g),e),(k:Int)))) (z,(N.map fun x=>x.tdiv g,e)) (fun k hk=>by
  have hx:N[k]? = some N[k]:=List.getElem?_eq_getElem hk;unfold i_reducedPoint_s6b13;simp only;rw[show decide ((k:Int)<(N.length:Int))=true from by simp;omega,cond_true,idx_some hx,Option.bind_some,quoI_some hg (hN _ (List.getElem_mem hk)),Option.bind_some,appD_some (by rw[lim_eq];simp;omega) (by rw[lim_eq];simp;omega),Option.bind_some,wrap_small (by omega) (by omega),take_map1 _ hx]
  rfl) (by
  unfold i_reducedPoint_s6b13;simp)
 simpa using this
theorem reduced_eq {N:List Int}{d:Int}(hl:N.length≤3)(hN:∀x∈N,-48000000≤x∧x≤48000000)(hd:d≠0)(hdb:-48000000≤d∧d≤48000000):i_reducedPoint (N,d)=some (redL N d):=by
 have hsm:∀x∈N,Sm x:=fun x hx=>by have:=hN x hx;unfold Sm;omega
 have hg:=gcd_ne (a:=gcdL N) hd;have hgs:(0:Int)≤(Int.gcd (gcdL N) d:Nat)∧((Int.gcd (gcdL N) d:Nat):Int)≤48000000:=by
  have:=Int.gcd_le_natAbs_right (gcdL N) hd;omega
 unfold i_reducedPoint;simp only;rw[gcdAll_eq (Nat.le_trans hl (by decide)) hsm,Option.bind_some,divisor_eq (gcdL_small N hsm) (by unfold Sm;omega),Option.bind_some]
 unfold redL;generalize ((Int.gcd (gcdL N) d:Nat):Int)=g at hg hgs;by_cases hneg:d<0
 ·rw[if_pos hneg,decide_eq_true hneg,cond_true,wrap_small (x:=0-g) (by omega) (by omega),show(0:Int)-g=-g from by omega,quoI_some (by omega) (by omega),Option.bind_some,red6 hl (fun x hx=>by have:=hN x hx;omega) hg (by omega)]
  rfl
 ·rw[if_neg hneg,decide_eq_false hneg,cond_false,quoI_some hg (by omega),Option.bind_some,red13 hl (fun x hx=>by have:=hN x hx;omega) hg]
  rfl
theorem solve_red {X:List Hf}{n:Nat}(h0:det (normals X)≠0):solveL X n=(redL (numsL X n) (det (normals X)),true):=by
 unfold solveL redL;rw[if_neg h0];split
 ·simp only;rw[gvL_neg,Int.gcd_neg,List.map_map];congr 2
  ·refine List.map_congr_left fun x hx=>?_;simp only[Function.comp_apply];rw[Int.tdiv_neg,show x*(-1)=-x from by omega,Int.neg_tdiv]
  ·rw[Int.tdiv_neg,Int.neg_tdiv]
 ·rfl
structure RedR (p:Ra):Prop where
 den:0<p.2
 gcd:Int.gcd (gcdL p.1) p.2=1
theorem red_ok {N:List Int}{d:Int}(hd:d≠0):RedR (redL N d)∧(redL N d).2≤d.natAbs∧(redL N d).1.length=N.length∧∀x∈(redL N d).1,∃y∈N,x.natAbs≤y.natAbs:=by
 have hg:=gcd_ne (a:=gcdL N) hd;have hgn:(0:Int)≤(Int.gcd (gcdL N) d:Nat):=Int.natCast_nonneg _;have hgl:((Int.gcd (gcdL N) d:Nat):Int)∣gcdL N:=Int.gcd_dvd_left ..;have hgr:((Int.gcd (gcdL N) d:Nat):Int)∣d:=Int.gcd_dvd_right ..;have hgx:∀x∈N,((Int.gcd (gcdL N) d:Nat):Int)∣x:=fun x hx=>Int.dvd_trans hgl (gvL_dvd hx);have key:∀e:Int,(e=d∨e=-d)→0<e→∀M:List Int,(M=N∨M=N.map fun x=>x*(-1))→RedR (M.map fun x=>x.tdiv (Int.gcd (gcdL N) d:Nat),e.tdiv (Int.gcd (gcdL N) d:Nat)):=by
  intro e he hpos M hM;have hge:Int.gcd (gcdL M) e=Int.gcd (gcdL N) d:=by
   have h1:gcdL M=gcdL N:=by
    rcases hM with rfl | rfl
    ·rfl
    ·exact gvL_neg N
   rcases he with rfl | rfl
   ·rw[h1]
   ·rw[h1,Int.gcd_neg]
  have hdve:((Int.gcd (gcdL N) d:Nat):Int)∣e:=by
   rcases he with rfl | rfl
   ·exact hgr
   ·exact(Int.dvd_neg).2 hgr
  have hdvx:∀x∈M,((Int.gcd (gcdL N) d:Nat):Int)∣x:=fun x hx=>by
   rcases hM with rfl | rfl
   ·exact hgx x hx
   ·obtain⟨y,hy,rfl⟩:=List.mem_map.1 hx;exact Int.dvd_mul_of_dvd_left (hgx y hy)
  have hge':((Int.gcd (gcdL M) e:Nat):Int)=(Int.gcd (gcdL N) d:Nat):=by rw[hge]
  generalize ((Int.gcd (gcdL N) d:Nat):Int)=g at *;have hgp:0<g:=by omega
  have hback:(M.map fun x=>x.tdiv g).map (·*g)=M:=by
   rw[List.map_map];conv=>rhs;rw[←List.map_id M]
   exact List.map_congr_left fun x hx=>Int.tdiv_mul_cancel (hdvx x hx)
  have h1:=gvL_scale (Int.le_of_lt hgp) (M.map fun x=>x.tdiv g);rw[hback]at h1;have h2:e.tdiv g*g=e:=Int.tdiv_mul_cancel hdve;refine⟨?_,?_⟩
  ·show 0<e.tdiv g;rcases Int.lt_or_le 0 (e.tdiv g)with h | h
   ·exact h
   ·have:=Int.mul_le_mul_of_nonneg_right h (Int.le_of_lt hgp);omega
  ·show Int.gcd (gcdL (M.map fun x=>x.tdiv g)) (e.tdiv g)=1;have h3:Int.gcd (gcdL M) e=Int.gcd (gcdL (M.map fun x=>x.tdiv g)) (e.tdiv g)*g.natAbs:=by
    conv=>lhs;rw[h1,←h2]
    rw[Int.gcd_mul_right]
   have h4:((Int.gcd (gcdL M) e:Nat):Int)=g:=hge';have h5:Int.gcd (gcdL M) e=g.natAbs:=by omega
   rw[h5]at h3;have h6:1*g.natAbs=Int.gcd (gcdL (M.map fun x=>x.tdiv g)) (e.tdiv g)*g.natAbs:=by rw[Nat.one_mul];exact h3
   exact(Nat.eq_of_mul_eq_mul_right (by omega) h6).symm
 have hab:∀x g:Int,(x.tdiv g).natAbs≤x.natAbs:=fun x g=>by rw[Int.natAbs_tdiv];exact Nat.div_le_self _ _
 unfold redL;by_cases hneg:d<0
 ·rw[if_pos hneg];have e1:(N.map fun x=>x.tdiv (-((Int.gcd (gcdL N) d:Nat):Int)))=(N.map fun x=>x*(-1)).map fun x=>x.tdiv ((Int.gcd (gcdL N) d:Nat):Int):=by
   rw[List.map_map];refine List.map_congr_left fun x hx=>?_;simp only[Function.comp_apply];rw[Int.tdiv_neg,show x*(-1)=-x from by omega,Int.neg_tdiv]
  have e2:d.tdiv (-((Int.gcd (gcdL N) d:Nat):Int))=(-d).tdiv ((Int.gcd (gcdL N) d:Nat):Int):=by rw[Int.tdiv_neg,Int.neg_tdiv]
  refine⟨by rw[e1,e2];exact key (-d) (.inr rfl) (by omega) _ (.inr rfl),?_,by simp,fun x hx=>?_⟩
  ·have:=hab d (-((Int.gcd (gcdL N) d:Nat):Int));show d.tdiv _≤_;omega
  ·obtain⟨y,hy,rfl⟩:=List.mem_map.1 hx;exact⟨y,hy,hab _ _⟩
 ·rw[if_neg hneg];refine⟨key d (.inl rfl) (by omega) N (.inl rfl),?_,by simp,fun x hx=>?_⟩
  ·have:=hab d ((Int.gcd (gcdL N) d:Nat):Int);show d.tdiv _≤_;omega
  ·obtain⟨y,hy,rfl⟩:=List.mem_map.1 hx;exact⟨y,hy,hab _ _⟩
theorem red_same {p q:Ra}(hp:RedR p)(hq:RedR q)(hl:p.1.length=q.1.length)(h:cmpR p q=0):p=q:=by
 have hx:∀(xs ys:List Int) (d e:Int),xs.length=ys.length→cmpL xs ys d e=0→∀(i:Nat) (x y:Int),xs[i]? = some x→ys[i]? = some y→x*e=y*d:=by
  intro xs;induction xs with
  | nil=>intro ys d e _ _ i x y hx;simp at hx
  | cons a xs ih =>
   intro ys d e hl h i x y hx hy;cases ys with
   | nil=>simp at hl
   | cons b ys =>
    unfold cmpL at h;by_cases hab:a*e=b*d
    ·rw[if_pos hab]at h;cases i with
     | zero=>simp at hx hy;subst hx hy;exact hab
     | succ i=>exact ih ys d e (by simpa using hl) h i x y (by simpa using hx) (by simpa using hy)
    ·rw[if_neg hab]at h;split at h<;>omega
 have hxy:=hx p.1 q.1 p.2 q.2 hl h;have half:∀(u v:Ra),RedR u→RedR v→u.1.length=v.1.length→(∀(i:Nat) (x y:Int),u.1[i]? = some x→v.1[i]? = some y→x*v.2=y*u.2)→u.2∣v.2:=by
  intro u v hu hv hl hxy;have h1:u.2∣gcdL (u.1.map (·*v.2)):=by
   refine gv_div _ 0 (Int.dvd_zero _) fun z hz=>?_;obtain⟨x,hx,rfl⟩:=List.mem_map.1 hz;obtain⟨i,hi,rfl⟩:=List.getElem_of_mem hx;have:=hxy i _ _ (List.getElem?_eq_getElem hi) (List.getElem?_eq_getElem (by omega))
   rw[this];exact Int.dvd_mul_left ..
  rw[gvL_scale (Int.le_of_lt hv.den)]at h1;have h2:=Int.dvd_gcd_mul_iff_dvd_mul.2 h1;rw[Int.gcd_comm,hu.gcd]at h2;simpa using h2
 have d1:=half p q hp hq hl hxy;have d2:=half q p hq hp hl.symm fun i x y hx hy=>(hxy i y x hy hx).symm;have hd:p.2=q.2:=Int.dvd_antisymm (Int.le_of_lt hp.den) (Int.le_of_lt hq.den) d1 d2;have hn:p.1=q.1:=by
  refine List.ext_getElem hl fun i h1 h2=>?_;have:=hxy i _ _ (List.getElem?_eq_getElem h1) (List.getElem?_eq_getElem h2);rw[hd]at this;exact Int.eq_of_mul_eq_mul_right (by have:=hq.den;omega) this
 exact Prod.ext hn hd
theorem mul3_bd {x y z p q r:Int}(hp:0≤p)(hq:0≤q)(hr:0≤r)(hx:-p≤x∧x≤p)(hy:-q≤y∧y≤q)(hz:-r≤z∧z≤r):-(p*(q*r))≤x*(y*z)∧x*(y*z)≤p*(q*r):=by
 have h1:=abs_mul_le hy.1 hy.2 hz.1 hz.2;exact abs_mul_le hx.1 hx.2 h1.1 h1.2
theorem det_bd {n:Nat} (h1:1≤n) (h3:n≤3) {M:List (List Int)} (hr:M.length = n) (hc:∀ r∈M,r.length = n) {c:Nat} (hM:∀ r∈M,∀ (j:Nat) (x:Int),r[j]? = some x→-200≤x∧x≤200∧(j≠c→-20≤x∧x≤20)) :
  -480000≤det M∧det M≤480000:=by
 have:n=1∨n=2∨n=3:=by omega
 rcases this with rfl | rfl | rfl
 ·match M,hr with
  | [r],_ =>
   obtain⟨a,rfl⟩:=row_one (hc r (by simp))
   have:=hM [a] (by simp) 0 a rfl
   show -480000≤a∧a≤480000;omega
 ·match M,hr with
  | [r,s],_ =>
   obtain⟨a,b,rfl⟩:=row_two (hc r (by simp))
   obtain⟨d,e,rfl⟩:=row_two (hc s (by simp))
   have ha:=hM [a,b] (by simp) 0 a rfl
   have hb:=hM [a,b] (by simp) 1 b rfl
   have hd:=hM [d,e] (by simp) 0 d rfl
   have he:=hM [d,e] (by simp) 1 e rfl
   have q1:=abs_mul_le (a:=a) (b:=e) (m:=200) (n:=200) (by omega) (by omega) (by omega) (by omega)
   have q2:=abs_mul_le (a:=b) (b:=d) (m:=200) (n:=200) (by omega) (by omega) (by omega) (by omega)
   show -480000≤a*e-b*d∧a*e-b*d≤480000;omega
 ·match M,hr with
  | [r,s,t],_ =>
   obtain⟨a,b,d,rfl⟩:=row_three (hc r (by simp))
   obtain⟨e,f,g,rfl⟩:=row_three (hc s (by simp))
   obtain⟨h,i,j,rfl⟩:=row_three (hc t (by simp))
   have ha:=hM [a,b,d] (by simp) 0 a rfl
   have hb:=hM [a,b,d] (by simp) 1 b rfl
   have hd:=hM [a,b,d] (by simp) 2 d rfl
   have he:=hM [e,f,g] (by simp) 0 e rfl
   have hf:=hM [e,f,g] (by simp) 1 f rfl
   have hg:=hM [e,f,g] (by simp) 2 g rfl
   have hh:=hM [h,i,j] (by simp) 0 h rfl
   have hi:=hM [h,i,j] (by simp) 1 i rfl
   have hj:=hM [h,i,j] (by simp) 2 j rfl
   have key:∀x y z:Int,(-200≤x∧x≤200∧(0≠c→-20≤x∧x≤20))→(-200≤y∧y≤200∧(1≠c→-20≤y∧y≤20))→(-200≤z∧z≤200∧(2≠c→-20≤z∧z≤20))→-80000≤x*(y*z)∧x*(y*z)≤80000:=by
    intro x y z hx hy hz;by_cases c0:0=c
    ·have:=mul3_bd (p:=200) (q:=20) (r:=20) (by omega) (by omega) (by omega) ⟨hx.1,hx.2.1⟩ (hy.2.2 (by omega)) (hz.2.2 (by omega))
     omega
    ·by_cases c1:1=c
     ·have:=mul3_bd (p:=20) (q:=200) (r:=20) (by omega) (by omega) (by omega) (hx.2.2 c0) ⟨hy.1,hy.2.1⟩ (hz.2.2 (by omega))
      omega
     ·have:=mul3_bd (p:=20) (q:=20) (r:=200) (by omega) (by omega) (by omega) (hx.2.2 c0) (hy.2.2 c1) ⟨hz.1,hz.2.1⟩
      omega
   have k1:=key a f j ha hf hj;have k2:=key a i g ha hi hg;have k3:=key h b g hh hb hg;have k4:=key e b j he hb hj;have k5:=key e i d he hi hd;have k6:=key h f d hh hf hd;have e0:det [[a,b,d],[e,f,g],[h,i,j]]=a*(f*j-g*i)+b*(g*h-e*j)+d*(e*i-f*h):=rfl;have e1:det [[a,b,d],[e,f,g],[h,i,j]]=a*(f*j)-a*(i*g)+h*(b*g)-e*(b*j)+e*(i*d)-h*(f*d):=by rw[e0];grind
   omega
theorem det_bd0 {n:Nat}(h1:1≤n)(h3:n≤3){M:List (List Int)}(hr:M.length=n)(hc:∀r∈M,r.length=n)(hM:∀r∈M,∀x∈r,-20≤x∧x≤20):-48000≤det M∧det M≤48000:=by
 have:n=1∨n=2∨n=3:=by omega
 rcases this with rfl | rfl | rfl
 ·match M,hr with
  | [r],_ =>
   obtain⟨a,rfl⟩:=row_one (hc r (by simp))
   have:=hM [a] (by simp) a (by simp)
   show -48000≤a∧a≤48000;omega
 ·match M,hr with
  | [r,s],_ =>
   obtain⟨a,b,rfl⟩:=row_two (hc r (by simp))
   obtain⟨d,e,rfl⟩:=row_two (hc s (by simp))
   have ha:=hM [a,b] (by simp) a (by simp)
   have hb:=hM [a,b] (by simp) b (by simp)
   have hd:=hM [d,e] (by simp) d (by simp)
   have he:=hM [d,e] (by simp) e (by simp)
   have q1:=abs_mul_le (a:=a) (b:=e) (m:=20) (n:=20) (by omega) (by omega) (by omega) (by omega)
   have q2:=abs_mul_le (a:=b) (b:=d) (m:=20) (n:=20) (by omega) (by omega) (by omega) (by omega)
   show -48000≤a*e-b*d∧a*e-b*d≤48000;omega
 ·match M,hr with
  | [r,s,t],_ =>
   obtain⟨a,b,d,rfl⟩:=row_three (hc r (by simp))
   obtain⟨e,f,g,rfl⟩:=row_three (hc s (by simp))
   obtain⟨h,i,j,rfl⟩:=row_three (hc t (by simp))
   have ha:=hM [a,b,d] (by simp) a (by simp)
   have hb:=hM [a,b,d] (by simp) b (by simp)
   have hd:=hM [a,b,d] (by simp) d (by simp)
   have he:=hM [e,f,g] (by simp) e (by simp)
   have hf:=hM [e,f,g] (by simp) f (by simp)
   have hg:=hM [e,f,g] (by simp) g (by simp)
   have hh:=hM [h,i,j] (by simp) h (by simp)
   have hi:=hM [h,i,j] (by simp) i (by simp)
   have hj:=hM [h,i,j] (by simp) j (by simp)
   have key:∀x y z:Int,(-20≤x∧x≤20)→(-20≤y∧y≤20)→(-20≤z∧z≤20)→-8000≤x*(y*z)∧x*(y*z)≤8000:=by
    intro x y z hx hy hz;have:=mul3_bd (p:=20) (q:=20) (r:=20) (by omega) (by omega) (by omega) hx hy hz
    omega
   have k1:=key a f j ha hf hj;have k2:=key a i g ha hi hg;have k3:=key h b g hh hb hg;have k4:=key e b j he hb hj;have k5:=key e i d he hi hd;have k6:=key h f d hh hf hd;have e0:det [[a,b,d],[e,f,g],[h,i,j]]=a*(f*j-g*i)+b*(g*h-e*j)+d*(e*i-f*h):=rfl;have e1:det [[a,b,d],[e,f,g],[h,i,j]]=a*(f*j)-a*(i*g)+h*(b*g)-e*(b*j)+e*(i*d)-h*(f*d):=by rw[e0];grind
   omega
theorem solve_fine {r:Rg}{n:Nat}(h:RegOk r n){X:List Hf}(hl:X.length=n)(hX:∀x∈X,x∈r.2)(h0:det (normals X)≠0):FineR n (redL (numsL X n) (det (normals X)))∧RedR (redL (numsL X n) (det (normals X))):=by
 obtain⟨r1,r2,r3,r4⟩:=red_ok (N:=numsL X n) h0;have hnl:(numsL X n).length=n:=by simp[numsL]
 have hq:∀x∈X,x.1.length=n∧(∀y∈x.1,-20≤y∧y≤20)∧-200≤x.2∧x.2≤200:=fun x hx=>by
  obtain⟨a,b,c,d,_⟩:=h.halves x (hX x hx);exact⟨a,b,c,d⟩
 have hdet:=det_bd0 h.lo h.hi (M:=normals X) (by simp[normals,hl]) (fun q hq'=>by
  obtain⟨x,hx,rfl⟩:=List.mem_map.1 hq';exact(hq x hx).1) (fun q hq'=>by
  obtain⟨x,hx,rfl⟩:=List.mem_map.1 hq';exact(hq x hx).2.1)
 refine⟨⟨by rw[r3,hnl],⟨by have:=r1.den;omega,by omega⟩,fun x hx=>?_⟩,r1⟩
 obtain⟨y,hy,hxy⟩:=r4 x hx;obtain⟨c,hc,rfl⟩:=List.mem_map.1 hy;have:=det_bd h.lo h.hi (M:=swapC X c) (c:=c) (by simp[swapC,hl]) (fun q hq'=>by
  obtain⟨x,hx,rfl⟩:=List.mem_map.1 hq';simpa using (hq x hx).1) (fun q hq' j z hz=>by
  obtain⟨x,hx,rfl⟩:=List.mem_map.1 hq';obtain⟨_,b,c1,c2⟩:=hq x hx;rw[List.getElem?_set]at hz;by_cases hcj:c=j
  ·subst hcj;simp only[if_true]at hz;split at hz
   ·simp only[Option.some.injEq]at hz;subst hz;exact⟨c1,c2,fun hne=>absurd rfl hne⟩
   ·cases hz
  ·rw[if_neg hcj]at hz;have:=b z (List.mem_of_getElem? hz);exact⟨by omega,by omega,fun _=>this⟩)
 omega
theorem hasFr_eq {r:Rg}{n:Nat}(hr:regB r=true)(h:RegOk r n){p:Ra}(hp:FineR n p):i_hasFraction r p=some (hasRat r p) :=
 hasFrac_eq (r:=r) (p:=p) hr hp.rat (by rw[hp.len,h.dim];simp)
def ptsI (r:Rg)(n:Nat)(X:List Hf):Option Ra:=if(solveL X n).2&&hasRat r (solveL X n).1 then some (solveL X n).1 else none
theorem pick_leaf {r:Rg} {n:Nat} (hr:regB r = true) (h:RegOk r n) (rec:LitF) (k:Int) {X out:List Hf} (hl:X.length = n) (hX:∀ x∈X,x∈r.2) (ho:out.length≤50000) :
  i_VerticesOf_1B rec r k X out=some (out++(ptsI r n X).toList):=by
 have hs:=h.sys hl hX;have h1:=h.lo;have h3:=h.hi;have hdim:=h.dim;have L4:iter (i_VerticesOf_1_s4 rec X) (out,(([]:List (List Int)),(([]:List Int),(0:Int))))=some (out,(normals X,X.map (·.2))):=by
  have:=iter_up (step:=i_VerticesOf_1_s4 rec X) X.length (fun k=>(out,((X.take k).map (·.1),((X.take k).map (·.2),(k:Int))))) (out,(normals X,X.map (·.2))) (fun k hk=>by
   have hx:X[k]? = some X[k]:=List.getElem?_eq_getElem hk;unfold i_VerticesOf_1_s4;simp only;rw[show decide ((k:Int)<(X.length:Int))=true from by simp;omega,cond_true,idx_some hx,Option.bind_some,appD_some (by rw[lim_eq];simp;omega) (by rw[lim_eq];simp;omega),Option.bind_some,appD_some (by rw[lim_eq];simp;omega) (by rw[lim_eq];simp;omega),Option.bind_some,wrap_small (by omega) (by omega),take_map1 _ hx,take_map1 _ hx]
   rfl) (by
   unfold i_VerticesOf_1_s4;simp[normals])
  simpa using this
 have hdetI:i_det (normals X)=some (det (normals X)):=by
  have hq:=(detI_eq hs.sq.zero).1;have:detI (normals X)=det (normals X):=by
   unfold normals;cases X with
   | nil=>simp at hl;omega
   | cons x X=>rfl
  rw[hq,this]
 unfold i_VerticesOf_1B;rw[show((X.length:Int)==r.1)=true from by simp;omega,cond_true,L4,Option.bind_some]
 simp only;rw[hdetI,Option.bind_some];by_cases h0:det (normals X)=0
 ·rw[show(det (normals X)==0)=true from by simpa using h0,cond_true]
  have:ptsI r n X=none:=by unfold ptsI solveL;rw[if_pos h0];rfl
  rw[this];simp
 ·rw[show(det (normals X)==0)=false from by simpa using h0,cond_false]
  obtain⟨m,rfl⟩:∃m,n=m+1:=⟨n-1,by omega⟩
  obtain⟨al,ac⟩:=adj_bd hs.sq.zero;rw[adj_eq hs.sq.zero,Option.bind_some];obtain⟨nb1,nb2⟩:=numsL_bd hs;have hbl:(X.map (·.2)).length=m+1:=by simp[hl]
  have L13:iter (i_VerticesOf_1_s13 rec (out,(normals X,X.map (·.2))) (adjL (m+1) (normals X))) (out,((([]:List Int),det (normals X)),(0:Int)))=some (out,(numsL X (m+1),det (normals X))):=by
   have:=iter_up (step:=i_VerticesOf_1_s13 rec (out,(normals X,X.map (·.2))) (adjL (m+1) (normals X))) (m+1) (fun k=>(out,((((adjL (m+1) (normals X)).take k).map (fun r=>dtL r (X.map (·.2))),det (normals X)),(k:Int)))) (out,(numsL X (m+1),det (normals X))) (fun k hk=>by
    have hx:(adjL (m+1) (normals X))[k]? = some ((adjL (m+1) (normals X))[k]'(by omega)):=List.getElem?_eq_getElem _
    obtain⟨c1,c2⟩:=ac _ (List.getElem_mem (by omega:k<(adjL (m+1) (normals X)).length))
    have hd:=(dotL_eq (a:=(adjL (m+1) (normals X))[k]'(by omega)) (b:=X.map (·.2)) (by omega) (by omega) (fun x hx=>by have:=c2 x hx;omega) (fun x hx=>by
     obtain⟨q,hq,rfl⟩:=List.mem_map.1 hx;have:=(h.halves q (hX q hq)).2.2;omega)).1
    unfold i_VerticesOf_1_s13;simp only;rw[al,show decide ((k:Int)<((m+1:Nat):Int))=true from by simp;omega,cond_true,idx_some hx,Option.bind_some,hd,Option.bind_some,appD_some (by rw[lim_eq];simp;omega) (by rw[lim_eq];simp;omega),Option.bind_some,wrap_small (by omega) (by omega),take_map1 _ hx]
    rfl) (by
    unfold i_VerticesOf_1_s13;simp only;rw[al,show decide (((m+1:Nat):Int)<((m+1:Nat):Int))=false from by simp,cond_false,List.take_of_length_le (by omega),adj_nums hs])
   simpa using this
  rw[L13,Option.bind_some];simp only;have hdb:=(l3Det_eq hs.sq).2;rw[reduced_eq (by omega) nb2 h0 hdb,Option.bind_some]
  obtain⟨hfine,_⟩:=solve_fine h hl hX h0;have hfr:=hasFr_eq hr h hfine;rw[show i_hasFraction (r.1,r.2) ((redL (numsL X (m+1)) (det (normals X))).1,(redL (numsL X (m+1)) (det (normals X))).2)=some (hasRat r (redL (numsL X (m+1)) (det (normals X))))from hfr,Option.bind_some]
  unfold ptsI;rw[solve_red h0];simp only[Bool.true_and];cases hasRat r (redL (numsL X (m+1)) (det (normals X)))with
  | false=>simp
  | true =>
   rw[cond_true,appD_some (by rw[lim_eq];simp;omega) (by rw[lim_eq];simp;omega)]
   rfl
theorem pick_eq {r:Rg} {n:Nat} (hr:regB r = true) (h:RegOk r n):∀ (m fuel:Nat) (k:Nat) (X out:List Hf),m + X.length = n→(∀ x∈X,x∈r.2)→k≤r.2.length→out.length + (subs m (r.2.drop k)).length≤50000 →
  i_VerticesOf_1R (fuel+m+1) r (k:Int) X out=some (out++(subs m (r.2.drop k)).filterMap (fun Y=>ptsI r n (X++Y))):=by
 have hdim:=h.dim;have hhi:=h.hi;intro m;induction m with
 | zero =>
  intro fuel k X out hm hX hk hb;show i_VerticesOf_1B (i_VerticesOf_1R (fuel+0)) r (k:Int) X out=_;rw[pick_leaf hr h _ _ (by omega) hX (by omega)]
  have:subs 0 (r.2.drop k)=[[]]:=by simp[subs]
  rw[this];simp only[List.filterMap_cons,List.append_nil,List.filterMap_nil];cases ptsI r n X<;>rfl
 | succ m ih =>
  intro fuel k X out hm hX hk hb;show i_VerticesOf_1B (i_VerticesOf_1R (fuel+(m+1))) r (k:Int) X out=_;unfold i_VerticesOf_1B;rw[show((X.length:Int)==r.1)=false from by simp;omega,cond_false]
  have key:∀ (L:List Hf) (k:Nat) (out:List Hf),r.2.drop k = L→k≤r.2.length→out.length + (subs (m + 1) L).length≤50000 →
    iter (i_VerticesOf_1_s21 (i_VerticesOf_1R (fuel+(m+1))) r X) ((k:Int),out)=some (out++(subs (m+1) L).filterMap (fun Y=>ptsI r n (X++Y))):=by
   intro L;induction L with
   | nil =>
    intro k out hL hk hb;have hk':r.2.length≤k:=List.drop_eq_nil_iff.1 hL;refine iter_end ?_;unfold i_VerticesOf_1_s21;simp only;rw[show decide ((k:Int)<(r.2.length:Int))=false from by simp;omega,cond_false]
    simp[subs]
   | cons x L ihL =>
    intro k out hL hk hb;have hlt:k<r.2.length:=by
     apply Decidable.byContradiction;intro hn
     rw[List.drop_eq_nil_of_le (by omega)]at hL
     simp at hL
    rw[List.drop_eq_getElem_cons hlt]at hL;simp only[List.cons.injEq]at hL;obtain⟨hx,hL⟩:=hL;have hg:r.2[k]? = some x:=by rw[List.getElem?_eq_getElem hlt,hx]
    have hlen:=h.len;simp only[subs,List.length_append,List.length_map]at hb;have hrec:=ih fuel (k+1) (X++[x]) out (by simp;omega) (fun y hy=>by
     rcases List.mem_append.1 hy with hy | hy
     ·exact hX y hy
     ·simp only[List.mem_singleton]at hy;subst hy;rw[←hx];exact List.getElem_mem _) (by omega) (by rw[hL];omega)
    rw[hL]at hrec;have hfl:((subs m L).filterMap fun Y=>ptsI r n (X++[x]++Y)).length≤(subs m L).length:=List.length_filterMap_le _ _;have st:i_VerticesOf_1_s21 (i_VerticesOf_1R (fuel+(m+1))) r X ((k:Int),out)=some (.inl (((k+1:Nat):Int),out++(subs m L).filterMap fun Y=>ptsI r n (X++[x]++Y))):=by
     unfold i_VerticesOf_1_s21;simp only;have hfd:fullD (X.length:Int) (X.length:Int) X.length=some ():=by unfold fullD;rw[if_pos ⟨rfl,rfl⟩]
     rw[show decide ((k:Int)<(r.2.length:Int))=true from by simp;omega,cond_true,hfd,Option.bind_some,idx_some hg,Option.bind_some]
     rw[show nneD ([(x.1,x.2)]:List ((List Int)×Int))=some ()from rfl,Option.bind_some,appD_some (by rw[lim_eq];simp;omega) (by rw[lim_eq];simp;omega),Option.bind_some,wrap_small (by omega) (by omega)]
     rw[show fuel+(m+1)=fuel+m+1 from rfl]
     have e1:((k:Int)+1)=((k+1:Nat):Int):=by omega
     rw[e1];have hrec':i_VerticesOf_1R (fuel+m+1) (r.1,r.2) ((k+1:Nat):Int) (X++[(x.1,x.2)]) out=some (out++(subs m L).filterMap fun Y=>ptsI r n (X++[x]++Y)):=hrec;rw[hrec'];rfl
    rw[iter_next st,ihL (k+1) _ hL (by omega) (by rw[List.length_append];omega)]
    rw[subs,List.filterMap_append,List.filterMap_map,List.append_assoc];congr 3
    simp[Function.comp_def,List.append_assoc]
  rw[key _ k out rfl hk hb];rfl
open Go Go.Proofs.YtfknaeamhcpfgaaGreat.Eng
set_option linter.all false
theorem compareF_eq {n:Nat}{p q:Ra}(hn:n≤3)(hp:FineR n p)(hq:FineR n q):i_compareFractions p q=some (cmpR p q):=by
 have lp:=hp.len;have lq:=hq.len;unfold i_compareFractions;have key:∀(d k:Nat),k+d=n→iter (i_compareFractions_s2 p q) (k:Int)=some (exC (cmpL (p.1.drop k) (q.1.drop k) p.2 q.2)):=by
  intro d;induction d with
  | zero =>
   intro k hk;have:p.1.drop k=[]:=List.drop_eq_nil_of_le (by omega)
   rw[this];refine iter_end ?_;unfold i_compareFractions_s2;rw[show decide ((k:Int)<(p.1.length:Int))=false from by simp;omega]
   simp[cmpL,exC]
  | succ d ih =>
   intro k hk;have h1:p.1[k]? = some (p.1[k]'(by omega)):=List.getElem?_eq_getElem _
   have h2:q.1[k]? = some (q.1[k]'(by omega)):=List.getElem?_eq_getElem _
   have b1:=prod_fine hp hq (List.getElem_mem (by omega:k<p.1.length))
   have b2:=prod_fine hq hp (List.getElem_mem (by omega:k<q.1.length))
   have st:i_compareFractions_s2 p q (k:Int)=some (if(p.1[k]'(by omega))*q.2=(q.1[k]'(by omega))*p.2 then .inl ((k:Int)+1)else .inr (.inr (if(p.1[k]'(by omega))*q.2<(q.1[k]'(by omega))*p.2 then -1 else 1))):=by
    unfold i_compareFractions_s2;rw[show decide ((k:Int)<(p.1.length:Int))=true from by simp;omega,cond_true,idx_some h1,idx_some h2]
    simp only[Option.bind_some];rw[wrap_small (x:=(p.1[k]'(by omega))*q.2) (by omega) (by omega),wrap_small (x:=(q.1[k]'(by omega))*p.2) (by omega) (by omega),cmp_eq,Option.bind_some]
    by_cases e:(p.1[k]'(by omega))*q.2=(q.1[k]'(by omega))*p.2
    ·rw[if_pos e,if_neg (by omega),if_neg (by omega),show((0:Int) != 0)=false from rfl,cond_false,wrap_small (by omega) (by omega)]
    ·rw[if_neg e];by_cases l:(p.1[k]'(by omega))*q.2<(q.1[k]'(by omega))*p.2
     ·rw[if_pos l,if_pos l];rfl
     ·rw[if_neg l,if_pos (by omega),if_neg l];rfl
   rw[List.drop_eq_getElem_cons (by omega:k<p.1.length),List.drop_eq_getElem_cons (by omega:k<q.1.length)]
   unfold cmpL;by_cases e:(p.1[k]'(by omega))*q.2=(q.1[k]'(by omega))*p.2
   ·rw[if_pos e]at st;rw[if_pos e,iter_next st];exact ih (k+1) (by omega)
   ·rw[if_neg e]at st;rw[if_neg e,iter_end st];by_cases l:(p.1[k]'(by omega))*q.2<(q.1[k]'(by omega))*p.2
    ·rw[if_pos l];rfl
    ·rw[if_neg l];rfl
 have k0:=key n 0 (by omega)
 rw[show((0:Nat):Int)=0 from rfl]at k0
 rw[k0,Option.bind_some];simp only[List.drop_zero];show(match exC (cmpR p q)with | .inl v6=>some 0 | .inr v7=>some v7)=some (cmpR p q)
 unfold exC;by_cases h:cmpR p q=0
 ·rw[if_pos h,h]
 ·rw[if_neg h]
structure PtsOk (n:Nat) (L:List Ra):Prop where
 fine:∀q∈L,FineR n q
 red:∀q∈L,RedR q
theorem cmp_on {n:Nat}{L:List Ra}(hn:n≤3)(h:PtsOk n L):CmpOn (fun a b=>i_compareFractions a b) L:=by
 have hc:∀a∈L,∀b∈L,i_compareFractions a b=some (cmpR a b):=fun a ha b hb=>compareF_eq hn (h.fine a ha) (h.fine b hb);have hlt:∀a∈L,∀b∈L,ltC (fun a b=>i_compareFractions a b) a b=decide (cmpR a b<0):=fun a ha b hb=>by unfold ltC;simp only[hc a ha b hb]
 refine⟨fun a ha b hb=>by rw[hc a ha b hb];rfl,fun a ha=>?_,fun a ha b hb c hcm h1 h2=>?_,fun a ha b hb h1 h2=>?_⟩
 ·rw[hlt a ha a ha];have:=cmpR_anti a a;simp;omega
 ·rw[hlt a ha b hb,decide_eq_true_eq]at h1;rw[hlt b hb c hcm,decide_eq_true_eq]at h2;rw[hlt a ha c hcm,decide_eq_true_eq];exact(cmpR_trans (h.fine a ha) (h.fine b hb) (h.fine c hcm) (by omega) (by omega)).2 (.inl h1)
 ·rw[hlt a ha b hb,decide_eq_false_iff_not]at h1;rw[hlt b hb a ha,decide_eq_false_iff_not]at h2;have:=cmpR_anti a b;exact red_same (h.red a ha) (h.red b hb) ((h.fine a ha).len.trans (h.fine b hb).len.symm) (by omega)
noncomputable def sortP (L:List Ra):List Ra:=sortC (fun a b=>i_compareFractions a b) L
theorem sortP_eq {n:Nat}{L:List Ra}(hn:n≤3)(h:PtsOk n L):g_SortFunc_Rational L=some ((),(sortP L,())):=by
 unfold g_SortFunc_Rational sortRF;rw[if_pos (cmp_on hn h)];rfl
theorem sortP_ok {n:Nat}{L:List Ra}(hn:n≤3)(h:PtsOk n L):(sortP L).Pairwise (fun a b=>cmpR a b≤0)∧(∀q,q∈sortP L↔q∈L)∧(sortP L).length=L.length:=by
 have hp:=sortC_perm (fun a b=>i_compareFractions a b) L;have hs:=sortC_sorted (cmp_on hn h);refine⟨?_,fun q=>hp.mem_iff,hp.length_eq⟩;refine List.Pairwise.imp_of_mem (fun{a b} ha hb hab=>?_) hs;have ha:=hp.mem_iff.1 ha;have hb:=hp.mem_iff.1 hb;unfold ltC at hab;simp only[compareF_eq hn (h.fine b hb) (h.fine a ha)]at hab;have:=cmpR_anti b a;simp only[decide_eq_false_iff_not]at hab;omega
def ddN (L:List Ra):Nat→List Ra
 | 0=>[]
 | m+1=>match L[m]? with
  | none=>ddN L m
  | some x=>if 0<m∧L[m-1]? = some x then ddN L m else ddN L m++[x]
theorem ddN_ok {n:Nat}{L:List Ra}(h:PtsOk n L)(hs:L.Pairwise fun a b=>cmpR a b≤0):∀m,m≤L.length→SortR (ddN L m)∧(∀q,q∈ddN L m↔q∈L.take m)∧(∀q,(ddN L m).getLast? = some q→L[m-1]? = some q)
 | 0,_=>by simp[ddN,SortR]
 | m+1,hm=>by
  obtain⟨h1,h2,h3⟩:=ddN_ok h hs m (by omega)
  have hx:L[m]? = some (L[m]'(by omega)):=List.getElem?_eq_getElem _
  have htk:L.take (m+1)=L.take m++[L[m]'(by omega)]:=by rw[List.take_add_one,hx];rfl
  have hmx:(L[m]'(by omega))∈L:=List.getElem_mem _
  simp only[ddN,hx];split
  ·rename_i hc;have hin:(L[m]'(by omega))∈L.take m:=by
    obtain⟨j,rfl⟩:∃j,m=j+1:=⟨m-1,by omega⟩
    have:=hc.2;simp only[Nat.add_sub_cancel]at this;rw[List.mem_iff_getElem?];exact⟨j,by rw[List.getElem?_take,if_pos (by omega)];exact this⟩
   refine⟨h1,fun q=>?_,fun q hq=>?_⟩
   ·rw[h2,htk,List.mem_append,List.mem_singleton];exact⟨.inl,fun h=>h.elim id fun e=>e▸hin⟩
   ·have:=h3 q hq;rw[hc.2]at this;rw[Nat.add_sub_cancel,hx];exact this
  ·rename_i hc;refine⟨?_,fun q=>?_,fun q hq=>?_⟩
   ·unfold SortR at h1 ⊢;rw[List.pairwise_append];refine⟨h1,List.pairwise_singleton _ _,fun a ha b hb=>?_⟩;rw[List.mem_singleton]at hb;subst hb;have ham:=(h2 a).1 ha;obtain⟨i,hi⟩:=List.mem_iff_getElem?.1 ham;rw[List.getElem?_take]at hi;split at hi
    ·rename_i him;obtain⟨hil,rfl⟩:=List.getElem?_eq_some_iff.1 hi;have hle:=List.pairwise_iff_getElem.1 hs i m hil (by omega) him
     rcases Int.lt_or_eq_of_le hle with hlt | heq
     ·exact hlt
     ·exfalso;have hsame:=red_same (h.red _ (List.getElem_mem hil)) (h.red _ hmx) ((h.fine _ (List.getElem_mem hil)).len.trans (h.fine _ hmx).len.symm) heq;apply hc
      refine⟨by omega,?_⟩
      have hp:L[m-1]? = some (L[m-1]'(by omega)):=List.getElem?_eq_getElem _
      rw[hp];by_cases hi1:i=m-1
      ·subst hi1;rw[hsame]
      ·have g1:=List.pairwise_iff_getElem.1 hs i (m-1) hil (by omega) (by omega)
       have g2:=List.pairwise_iff_getElem.1 hs (m-1) m (by omega) (by omega) (by omega)
       rw[hsame]at g1;have g3:=cmpR_anti (L[m]'(by omega)) (L[m-1]'(by omega))
       have hpm:(L[m-1]'(by omega))∈L:=List.getElem_mem _
       exact congrArg some (red_same (h.red _ hpm) (h.red _ hmx) ((h.fine _ hpm).len.trans (h.fine _ hmx).len.symm) (by omega))
    ·cases hi
   ·rw[List.mem_append,h2,htk,List.mem_append]
   ·rw[List.getLast?_concat,Option.some.injEq]at hq;subst hq;rw[Nat.add_sub_cancel,hx]
theorem eqR_eq {n:Nat}{p q:Ra}(hn:n≤3)(hp:FineR n p)(hq:FineR n q)(rp:RedR p)(rq:RedR q):i_VerticesOf_2 p q=some (decide (p=q)):=by
 unfold i_VerticesOf_2;rw[show i_compareFractions (p.1,p.2) (q.1,q.2)=some (cmpR p q)from compareF_eq hn hp hq,Option.bind_some]
 congr 1
 by_cases h:p=q
 ·subst h;have:=cmpR_anti p p;rw[decide_eq_true rfl];simp;omega
 ·rw[decide_eq_false h];have:cmpR p q≠0:=fun h0=>h (red_same rp rq (hp.len.trans hq.len.symm) h0);simpa using this
theorem compact9 {n:Nat} {L:List Ra} (hn:n≤3) (h:PtsOk n L) (hl:L.length≤100000) {k0:Nat} (hk0:1≤k0) (hk0l:k0 < L.length) (hpre:ddN L k0 = L.take k0) (hrep:ddN L (k0 + 1) = L.take k0) :
  ∃k:Nat,∃A:List Ra,iter (g_CompactFunc_Rational_s9 ((k0:Int),L)) ((k0:Int),((1:Int),L))=some ((k:Int),A)∧k≤A.length∧A.length=L.length∧A.take k=ddN L L.length:=by
 have hev:∀(i j:Nat) (hi:i<L.length) (hj:j<L.length),i_VerticesOf_2 L[i] L[j]=some (decide (L[i]=L[j])):=fun i j hi hj =>
  eqR_eq hn (h.fine _ (List.getElem_mem _)) (h.fine _ (List.getElem_mem _)) (h.red _ (List.getElem_mem _)) (h.red _ (List.getElem_mem _))
 obtain⟨y,e,hy⟩:=iter_run (step:=g_CompactFunc_Rational_s9 ((k0:Int),L)) (fun s=>∃k j:Nat,s.1=(k:Int)∧s.2.1=(j:Int)∧1≤j∧k0+j≤L.length∧k+1≤k0+j∧s.2.2.length=L.length∧s.2.2.take k=ddN L (k0+j)∧s.2.2.drop (k0+j-1)=L.drop (k0+j-1)) (fun s=>(L.length-s.2.1).toNat)
  (fun _ y=>∃k:Nat,y.1=(k:Int)∧k≤y.2.length∧y.2.length=L.length∧y.2.take k=ddN L L.length) (fun s hs=>by
  obtain⟨s1,s2,A⟩:=s;obtain⟨k,j,e1,e2,hj1,hj2,hkj,hA,htk,hdr⟩:=hs;simp only at e1 e2 hA htk hdr;subst e1 e2;have hm:((((L.length:Int)).toNat-((k0:Int)).toNat:Nat):Int)=((L.length-k0:Nat):Int):=by simp
  have hmn:((L.length:Int)).toNat-((k0:Int)).toNat=L.length-k0:=by simp
  unfold g_CompactFunc_Rational_s9;simp only;rw[hmn];by_cases hj:k0+j<L.length
  ·right;have hge:∀i,k0+j-1≤i→A[i]? = L[i]?:=fun i hi=>by
    have h1:=congrArg (fun l=>l[i-(k0+j-1)]?) hdr;simp only[List.getElem?_drop]at h1
    rwa [show k0+j-1+(i-(k0+j-1))=i from by omega]at h1
   have a1:A[k0+j]? = some (L[k0+j]'hj):=by rw[hge _ (by omega)];exact List.getElem?_eq_getElem _
   have a2:A[k0+(j-1)]? = some (L[k0+(j-1)]'(by omega)):=by rw[hge _ (by omega)];exact List.getElem?_eq_getElem _
   have wj:IntKind.i64.wrap ((j:Int)-1)=((j-1:Nat):Int):=by rw[wrap_small (by omega) (by omega)];omega
   have i1:inIdx (L.length-k0) (j:Int)=some ():=inIdx_nat (by omega)
   have i2:inIdx (L.length-k0) ((j-1:Nat):Int)=some ():=inIdx_nat (by omega)
   rw[show decide ((j:Int)<((L.length-k0:Nat):Int))=true from by simp;omega,cond_true,i1,Option.bind_some,Int.toNat_natCast,Int.toNat_natCast,idx_some a1,Option.bind_some,wj,i2,Option.bind_some,Int.toNat_natCast,idx_some a2,Option.bind_some]
   rw[hev _ _ hj (by omega),Option.bind_some]
   have hdd:ddN L (k0+j+1)=if L[k0+j]'hj=L[k0+(j-1)]'(by omega)then ddN L (k0+j)else ddN L (k0+j)++[L[k0+j]'hj]:=by
    rw[ddN,List.getElem?_eq_getElem hj];simp only;have e3:k0+j-1=k0+(j-1):=by omega
    rw[e3,List.getElem?_eq_getElem (by omega:k0+(j-1)<L.length)]
    by_cases q:L[k0+j]'hj=L[k0+(j-1)]'(by omega)
    ·rw[if_pos q,if_pos ⟨by omega,by rw[q]⟩]
    ·rw[if_neg q,if_neg (fun hc=>q (Option.some.inj hc.2).symm)]
   by_cases q:L[k0+j]'hj=L[k0+(j-1)]'(by omega)
   ·rw[decide_eq_true q,Bool.not_true,cond_false,wrap_small (by omega) (by omega)]
    refine⟨_,rfl,⟨k,j+1,rfl,by simp,by omega,by omega,by omega,hA,?_,?_⟩,by simp only;omega,fun y hy=>hy⟩
    ·rw[htk,show k0+(j+1)=k0+j+1 from rfl,hdd,if_pos q]
    ·have:=congrArg (List.drop 1) hdr;simp only[List.drop_drop]at this;rw[show k0+(j+1)-1=k0+j-1+1 from by omega]
     exact this
   ·have hk:k<A.length:=by omega
    rw[decide_eq_false q,Bool.not_false,cond_true,inIdx_nat hk,Option.bind_some,Option.bind_some,Int.toNat_natCast,inIdx_nat hk,Option.bind_some,wrap_small (by omega) (by omega),wrap_small (by omega) (by omega)]
    refine⟨_,rfl,⟨k+1,j+1,by simp,by simp,by omega,by omega,by omega,by simpa using hA,?_,?_⟩,by simp only;omega,fun y hy=>hy⟩
    ·rw[show k0+(j+1)=k0+j+1 from rfl,hdd,if_neg q,←htk]
     have hgk:(A.set k ((L[k0+j]'hj).1,(L[k0+j]'hj).2))[k]? = some (L[k0+j]'hj):=by rw[List.getElem?_set,if_pos rfl,if_pos hk]
     rw[List.take_add_one,hgk,List.take_set_of_le (Nat.le_refl _)];rfl
    ·rw[show k0+(j+1)-1=k0+j-1+1 from by omega,List.drop_set_of_lt (by omega)]
     have:=congrArg (List.drop 1) hdr;simp only[List.drop_drop]at this;exact this
  ·left;have hjl:k0+j=L.length:=by omega
   rw[show decide ((j:Int)<((L.length-k0:Nat):Int))=false from by simp;omega,cond_false]
   exact⟨_,rfl,k,rfl,by simp only;omega,hA,by rw[htk,hjl]⟩) ((k0:Int),((1:Int),L)) ⟨k0,1,rfl,rfl,by omega,by omega,by omega,rfl,hrep.symm,rfl⟩
 obtain⟨y1,A⟩:=y;obtain⟨k,e1,h1,h2,h3⟩:=hy;simp only at e1 h1 h2 h3;subst e1;exact⟨k,A,e,h1,h2,h3⟩
theorem ddN_full {L:List Ra}(h:L.length<2):ddN L L.length=L:=by
 match L,h with
 | [],_=>rfl
 | [a],_=>rfl
 | _::_::_,h=>simp at h;omega
theorem compact_eq {n:Nat}{L:List Ra}(hn:n≤3)(h:PtsOk n L)(hl:L.length≤100000):g_CompactFunc_Rational L=some (ddN L L.length):=by
 have hev:∀(i j:Nat) (hi:i<L.length) (hj:j<L.length),i_VerticesOf_2 L[i] L[j]=some (decide (L[i]=L[j])):=fun i j hi hj =>
  eqR_eq hn (h.fine _ (List.getElem_mem _)) (h.fine _ (List.getElem_mem _)) (h.red _ (List.getElem_mem _)) (h.red _ (List.getElem_mem _))
 unfold g_CompactFunc_Rational;by_cases h2:L.length<2
 ·rw[show decide ((L.length:Int)<2)=true from by simp;omega,cond_true,ddN_full h2]
 ·rw[show decide ((L.length:Int)<2)=false from by simp;omega,cond_false]
  obtain⟨y,e,hy⟩:=iter_run (step:=g_CompactFunc_Rational_s4) (fun s=>∃k:Nat,s.1=(k:Int)∧1≤k∧k≤L.length∧s.2=L∧ddN L k=L.take k) (fun s=>(L.length-s.1).toNat)
   (fun _ y=>y=.inl (ddN L L.length)∨y=.inr (ddN L L.length)) (fun s hs=>by
   obtain⟨s1,A⟩:=s;obtain⟨k,e1,hk1,hkl,e2,hdd⟩:=hs;simp only at e1 e2;subst e1 e2;unfold g_CompactFunc_Rational_s4;simp only;by_cases hk:k<A.length
   ·have wk:IntKind.i64.wrap ((k:Int)-1)=((k-1:Nat):Int):=by rw[wrap_small (by omega) (by omega)];omega
    have a1:A[k]? = some (A[k]'hk):=List.getElem?_eq_getElem _;have a2:A[k-1]? = some (A[k-1]'(by omega)):=List.getElem?_eq_getElem _
    rw[show decide ((k:Int)<(A.length:Int))=true from by simp;omega,cond_true,inIdx_nat hk,Option.bind_some,Int.toNat_natCast,idx_some a1,Option.bind_some,wk,inIdx_nat (by omega:k-1<A.length),Option.bind_some,Int.toNat_natCast,idx_some a2,Option.bind_some,hev _ _ hk (by omega),Option.bind_some]
    have hdd1:ddN A (k+1)=if A[k]'hk=A[k-1]'(by omega)then ddN A k else ddN A k++[A[k]'hk]:=by
     rw[ddN,a1];simp only;rw[a2];by_cases q:A[k]'hk=A[k-1]'(by omega)
     ·rw[if_pos q,if_pos ⟨by omega,by rw[q]⟩]
     ·rw[if_neg q,if_neg (fun hc=>q (Option.some.inj hc.2).symm)]
    by_cases q:A[k]'hk=A[k-1]'(by omega)
    ·left;rw[decide_eq_true q,cond_true];obtain⟨m,B,g1,g2,g3,g4⟩:=compact9 hn h hl hk1 hk hdd (by rw[hdd1,if_pos q,hdd])
     have s1:subl A (k:Int) (A.length:Int)=some (A.drop k):=by
      rw[subl_nat (by omega) (by omega),List.take_length]
     have s2:subl B (m:Int) (B.length:Int)=some (B.drop m):=by
      rw[subl_nat (by omega) (by omega),List.take_length]
     have hcl:clrD ((m:Int)).toNat ((B.length:Int)).toNat B.length=some ():=by
      unfold clrD;rw[if_pos ⟨by simp;omega,by simp⟩]
     rw[s1,Option.bind_some,g1,Option.bind_some];simp only;rw[s2,Option.bind_some,hcl,Option.bind_some];have s3:subl (B.take ((m:Int)).toNat++List.replicate (((B.length:Int)).toNat-((m:Int)).toNat) (([]:List Int),(0:Int))) 0 (m:Int)=some (B.take m):=by
      simp only[Int.toNat_natCast];have:=subl_nat (xs:=B.take m++List.replicate (B.length-m) (([]:List Int),(0:Int))) (a:=0) (b:=m) (by omega) (by simp;omega)
      rw[show((0:Nat):Int)=0 from rfl]at this
      rw[this,List.drop_zero,List.take_append_of_le_length (by simp;omega),List.take_take,Nat.min_self]
     rw[s3,Option.bind_some];exact⟨_,rfl,.inr (by rw[g4])⟩
    ·right;rw[decide_eq_false q,cond_false,wrap_small (by omega) (by omega)]
     refine⟨_,rfl,⟨k+1,by simp,by omega,by omega,rfl,?_⟩,by simp only;omega,fun y hy=>hy⟩
     rw[hdd1,if_neg q,hdd,List.take_add_one,a1];rfl
   ·left;have:k=A.length:=by omega
    subst this;rw[show decide ((A.length:Int)<(A.length:Int))=false from by simp,cond_false]
    exact⟨_,rfl,.inl (by rw[hdd,List.take_length])⟩) ((1:Int),L) ⟨1,rfl,by omega,by omega,rfl,by
    match L,h2 with
    | a::L,_=>rfl
    | [],h2=>simp at h2⟩
  rw[e,Option.bind_some];rcases hy with rfl | rfl<;>rfl
theorem pts_ok {r:Rg}{n:Nat}(h:RegOk r n){S:List (List Hf)}(hS:∀X∈S,X.length=n∧∀x∈X,x∈r.2):PtsOk n (S.filterMap (ptsI r n)):=by
 have key:∀q∈S.filterMap (ptsI r n),FineR n q∧RedR q:=fun q hq=>by
  obtain⟨X,hX,hp⟩:=List.mem_filterMap.1 hq;obtain⟨h1,h2⟩:=hS X hX;unfold ptsI at hp;split at hp
  ·rename_i hc;simp only[Bool.and_eq_true]at hc;obtain rfl:=Option.some.inj hp;have h0:det (normals X)≠0:=fun h0=>by
    have:=hc.1;unfold solveL at this;rw[if_pos h0]at this;cases this
   rw[solve_red h0];exact solve_fine h h1 h2 h0
  ·cases hp
 exact⟨fun q hq=>(key q hq).1,fun q hq=>(key q hq).2⟩
theorem foldR_mem {r:Rg}{n:Nat}(h:RegOk r n):∀(S:List (List Hf)) (out:List Ra),(∀X∈S,X.length=n∧∀x∈X,x∈r.2)→PtsOk n out→∀q,q∈S.foldl (stepR r n) out↔q∈out∨q∈S.filterMap (ptsI r n)
 | [],out,_,_,q=>by simp
 | X::S,out,hS,ho,q=>by
  have hX:=pts_ok h (S:=[X]) (fun Y hY=>hS Y (by simp only[List.mem_singleton]at hY;subst hY;simp))
  have hmem:∀q,q∈stepR r n out X↔q∈out∨ptsI r n X=some q:=fun q=>by
   unfold stepR;have he:ptsI r n X=if(solveL X n).2&&hasRat r (solveL X n).1 then some (solveL X n).1 else none:=rfl;by_cases hc:((solveL X n).2&&hasRat r (solveL X n).1)=true
   ·rw[if_pos hc]at he ⊢;rw[he];have hp:(solveL X n).1∈[X].filterMap (ptsI r n):=by simp[he]
    constructor
    ·intro hq;rcases insR_mem hq with rfl | hq
     ·exact .inr rfl
     ·exact .inl hq
    ·rintro(hq | hq)
     ·exact insR_keep hq
     ·obtain rfl:=Option.some.inj hq;obtain⟨z,hz1,hz2⟩:=insR_has (p:=(solveL X n).1) (L:=out);rcases insR_mem hz1 with rfl | hz
      ·exact hz1
      ·have:=red_same (hX.red _ hp) (ho.red z hz) ((hX.fine _ hp).len.trans (ho.fine z hz).len.symm) hz2;exact this.symm▸hz1
   ·rw[if_neg hc]at he ⊢;rw[he];simp
  have ho2:PtsOk n (stepR r n out X):=by
   have key:∀q∈stepR r n out X,FineR n q∧RedR q:=fun q hq=>by
    rcases(hmem q).1 hq with hq | hq
    ·exact⟨ho.fine q hq,ho.red q hq⟩
    ·have:q∈[X].filterMap (ptsI r n):=by simp[hq]
     exact⟨hX.fine q this,hX.red q this⟩
   exact⟨fun q hq=>(key q hq).1,fun q hq=>(key q hq).2⟩
  rw[List.foldl_cons,foldR_mem h S _ (fun Y hY=>hS Y (List.mem_cons_of_mem _ hY)) ho2 q,hmem,List.filterMap_cons];cases ptsI r n X with
  | none=>simp
  | some z =>
   simp only[Option.some.injEq,List.mem_cons];constructor
   ·rintro((a | a) | a)
    ·exact .inl a
    ·exact .inr (.inl a.symm)
    ·exact .inr (.inr a)
   ·rintro(a | a | a)
    ·exact .inl (.inl a)
    ·exact .inl (.inr a.symm)
    ·exact .inr a
theorem sortR_nodup {L:List Ra}(h:SortR L):L.Nodup:=by
 unfold SortR at h;refine List.Pairwise.imp (fun{a b} hab he=>?_) h;subst he;have:=cmpR_anti a a;omega
theorem sortR_unique {n:Nat}{K L:List Ra}(hK:SortR K)(hL:SortR L)(h:∀q,q∈K↔q∈L):K=L:=by
 have hp:K.Perm L:=(List.perm_ext_iff_of_nodup (sortR_nodup hK) (sortR_nodup hL)).2 h;refine List.Perm.eq_of_pairwise (le:=fun a b=>cmpR a b<0) (fun a b _ _ h1 h2=>?_) hK hL hp;have:=cmpR_anti a b;omega
theorem i_vertices_eq {r:Rg}(hl:r.2.length≤lim)(hh:∀h∈r.2,h.1.length≤lim):i_VerticesOf r=some (vertS r):=by
 unfold i_VerticesOf;rw[i_IsRegion_eq (r:=(r.1,r.2)) hl hh,Option.bind_some];unfold vertS;cases hr:regB r with
 | false =>
  rfl
 | true =>
  obtain⟨n,h⟩:=regOk hr;have hn:r.1.toNat=n:=by have:=h.dim;omega
  rw[Bool.not_true,cond_false,if_pos rfl,hn];have hs:=subs_len (m:=n) (L:=r.2);have hp:2 ^ r.2.length≤2 ^ 8:=Nat.pow_le_pow_right (by omega) h.len
  have hhi:=h.hi;have hpick:=pick_eq hr h n (29999-n) 0 [] [] (by simp) (by simp) (by omega) (by simp only[List.drop_zero,List.length_nil];omega)
  rw[show 29999-n+n+1=30000 from by omega]at hpick
  simp only[List.drop_zero,List.nil_append]at hpick;have e:i_VerticesOf_1 (r.1,r.2) 0 [] []=some ((subs n r.2).filterMap (ptsI r n)):=hpick;have hS:∀X∈subs n r.2,X.length=n∧∀x∈X,x∈r.2:=fun X hX=>subs_mem hX;have hok:=pts_ok h hS;have hlen:((subs n r.2).filterMap (ptsI r n)).length≤256:=by
   have:=List.length_filterMap_le (ptsI r n) (subs n r.2);omega
  rw[e,Option.bind_some,sortP_eq hhi hok,Option.bind_some];simp only;obtain⟨s1,s2,s3⟩:=sortP_ok hhi hok;have hok2:PtsOk n (sortP ((subs n r.2).filterMap (ptsI r n))):=⟨fun q hq=>hok.fine q ((s2 q).1 hq),fun q hq=>hok.red q ((s2 q).1 hq)⟩;rw[compact_eq hhi hok2 (by omega),Option.bind_some]
  congr 1
  obtain⟨d1,d2,_⟩:=ddN_ok hok2 s1 _ (Nat.le_refl _);obtain⟨f1,_⟩:=foldR_ok h (subs n r.2) (out:=[]) ⟨by simp,by simp[SortR]⟩
  refine sortR_unique (n:=n) d1 f1.sort fun q=>?_;rw[d2,List.take_length,s2,foldR_mem h _ _ hS ⟨by simp,by simp⟩]
  simp
end Go.Proofs.YtfknaeamhcpfgaaGreat
