/-
  Regions by inequalities, their points; implied halves. Plain, no condition.
-/
import Derived.Test.YtfknaeamhcpfgaaGreatPlX
namespace Go.Proofs.YtfknaeamhcpfgaaGreat
open Go Go.Proofs.YtfknaeamhcpfgaaGreat.Eng
set_option linter.all false
abbrev Hf:Type:=List Int×Int
abbrev Rg:Type:=Int×List (List Int×Int)
def halfB (n:Int)(h:Hf):Bool:=inR 1 3 n&&((h.1.length:Int)==n)&&h.1.all (inR (-20) 20)&&decide (0<gcdL h.1)&&inR (-200) 200 h.2
theorem small20 {v:List Int}(h:v.all (inR (-20) 20)=true):∀x∈v,Sm x:=fun x hx=>by
 have:=(List.all_eq_true.1 h) x hx;rw[inR_iff]at this;unfold Sm;omega
theorem i_IsHalf_eq {n:Int}{h:Hf}(hl:h.1.length≤lim):i_IsHalf n h=some (halfB n h):=by
 unfold i_IsHalf halfB;rw[within_eq];simp only[Option.bind_some];cases inR 1 3 n with
 | false=>rfl
 | true =>
  rw[cond_true,Bool.true_and];cases (h.1.length:Int)==n with
  | false=>rfl
  | true =>
   rw[cond_true,Bool.true_and,allWithin_eq hl];simp only[Option.bind_some];cases h3:h.1.all (inR (-20) 20)with
   | false=>rfl
   | true =>
    rw[cond_true,Bool.true_and,gcdAll_eq hl (small20 h3)];simp only[Option.bind_some,within_eq];show cond (decide (0<gcdL h.1)) _ _=_;cases decide (0<gcdL h.1)<;>rfl
theorem s_IsHalf_eq {n:Int}{h:Hf}(hl:h.1.length≤lim):s_IsHalf n h=some (halfB n h):=by
 unfold s_IsHalf halfB;rw[l1In_eq];simp only[Option.bind_some];cases inR 1 3 n with
 | false=>rfl
 | true =>
  rw[cond_true,Bool.true_and];cases (h.1.length:Int)==n with
  | false=>rfl
  | true =>
   rw[cond_true,Bool.true_and,l2Small_eq hl (by decide) (by decide)]
   simp only[Option.bind_some];cases h3:h.1.all (inR (-20) 20)with
   | false=>rfl
   | true =>
    rw[cond_true,Bool.true_and,l2All_eq hl (small20 h3)];simp only[Option.bind_some,l1In_eq];show cond (decide (0<gcdL h.1)) _ _=_;cases decide (0<gcdL h.1)<;>rfl
def regB (r:Rg):Bool:=inR 1 3 r.1&&decide (r.2.length≤8)&&r.2.all (halfB r.1)
theorem i_IsRegion_eq {r:Rg}(hl:r.2.length≤lim)(hh:∀h∈r.2,h.1.length≤lim):i_IsRegion r=some (regB r):=by
 unfold i_IsRegion regB;rw[within_eq];simp only[Option.bind_some];cases inR 1 3 r.1 with
 | false=>rfl
 | true =>
  rw[Bool.not_true,cond_false,Bool.true_and];by_cases h8:r.2.length≤8
  ·rw[show decide ((r.2.length:Int)>8)=false from by simp;omega,cond_false,show decide (r.2.length≤8)=true from by simpa using h8,Bool.true_and]
   have:=iter_all (step:=i_IsRegion_s4 r) r.2 (halfB r.1) (fun k x hx=>by
    have hk:=len_lt hx;unfold i_IsRegion_s4;rw[show decide ((k:Int)<(r.2.length:Int))=true from by simp;omega,cond_true,idx_some hx]
    simp only[Option.bind_some];rw[i_IsHalf_eq (h:=(x.1,x.2)) (hh x (List.mem_of_getElem? hx)),wrap_succ (by omega)]
    simp only[Option.bind_some];cases halfB r.1 (x.1,x.2)<;>rfl) (by
    unfold i_IsRegion_s4;simp)
   rw[this];cases r.2.all (halfB r.1)<;>rfl
  ·rw[show decide ((r.2.length:Int)>8)=true from by simp;omega,cond_true,show decide (r.2.length≤8)=false from by simpa using h8];rfl
theorem s_IsRegion_eq {r:Rg}(hl:r.2.length≤lim)(hh:∀h∈r.2,h.1.length≤lim):s_IsRegion r=some (regB r):=by
 unfold s_IsRegion regB;have:=iter_all (step:=s_IsRegion_s2 r) r.2 (halfB r.1) (fun k x hx=>by
  have hk:=len_lt hx;unfold s_IsRegion_s2;rw[show decide ((k:Int)<(r.2.length:Int))=true from by simp;omega,cond_true,idx_some hx]
  simp only[Option.bind_some];rw[s_IsHalf_eq (hh x (List.mem_of_getElem? hx)),wrap_succ (by omega)]
  simp only[Option.bind_some];cases halfB r.1 x<;>rfl) (by
  unfold s_IsRegion_s2;simp)
 rw[this];cases r.2.all (halfB r.1)with
 | false=>simp
 | true =>
  simp only[if_true,Option.bind_some,l1In_eq,Bool.and_true];have e:decide ((r.2.length:Int)≤8)=decide (r.2.length≤8):=by
   rw[decide_eq_decide];omega
  cases inR 1 3 r.1 with
  | false=>rfl
  | true=>rw[cond_true,e,Bool.true_and]
def dtL (a b:List Int):Int:=(a.zip b).foldl (fun s p=>s+p.1*p.2) 0
theorem prod_bd {a b:Int}(ha:-1000000≤a∧a≤1000000)(hb:-1000000≤b∧b≤1000000):-1000000000000≤a*b∧a*b≤1000000000000:=by
 have:=abs_mul_le ha.1 ha.2 hb.1 hb.2;omega
theorem fold_bd (Z:List (Int×Int))(hZ:∀p∈Z,-1000000000000≤p.1*p.2∧p.1*p.2≤1000000000000):(k:Nat)→k≤Z.length→-(1000000000000*(k:Int))≤(Z.take k).foldl (fun(s:Int) (p:Int×Int)=>s+p.1*p.2) (0:Int)∧(Z.take k).foldl (fun(s:Int) (p:Int×Int)=>s+p.1*p.2) (0:Int)≤1000000000000*(k:Int)
 | 0,_=>by simp
 | k+1,hk=>by
  have h:=fold_bd Z hZ k (by omega)
  have hg:Z[k]? = some Z[k]:=List.getElem?_eq_getElem (by omega)
  rw[foldl_take_succ _ hg];have:=hZ _ (List.getElem_mem (show k<Z.length by omega))
  omega
theorem dotG_eq {a b:List Int}(hl:a.length=b.length)(h3:a.length≤1000)(hZ:∀p∈a.zip b,-1000000000000≤p.1*p.2∧p.1*p.2≤1000000000000):i_dot a b=some (dtL a b)∧s_l2Dot a b=some (dtL a b):=by
 have hz:(a.zip b).length=a.length:=by simp[hl]
 have get:∀k,k<a.length→∃x y,a[k]? = some x∧b[k]? = some y∧(a.zip b)[k]? = some (x,y):=fun k hk=>by
  refine⟨a[k],b[k]'(by omega),List.getElem?_eq_getElem hk,List.getElem?_eq_getElem (by omega),?_⟩
  rw[List.getElem?_zip_eq_some];exact⟨List.getElem?_eq_getElem hk,List.getElem?_eq_getElem (by omega)⟩
 have upd:∀{k x y},k<a.length→(a.zip b)[k]? = some (x,y)→IntKind.i64.wrap (((a.zip b).take k).foldl (fun s p=>s+p.1*p.2) 0+IntKind.i64.wrap (x*y))=((a.zip b).take (k+1)).foldl (fun s p=>s+p.1*p.2) 0:=fun{k x y} hk hg=>by
  have h1:=fold_bd (a.zip b) hZ k (by omega)
  have h2:-1000000000000≤x*y∧x*y≤1000000000000:=hZ _ (List.mem_of_getElem? hg);rw[foldl_take_succ _ hg];show _=_+x*y;rw[wrap_small (x:=x*y) (by omega) (by omega),wrap_small (by omega) (by omega)]
 constructor
 ·have:=iter_up (step:=i_dot_s3 a b) a.length (fun k=>(((a.zip b).take k).foldl (fun s p=>s+p.1*p.2) 0,(k:Int))) (dtL a b) (fun k hk=>by
   obtain⟨x,y,h1,h2,h4⟩:=get k hk;unfold i_dot_s3;simp only;rw[show decide ((k:Int)<(a.length:Int))=true from by simp;omega,cond_true,idx_some h1,idx_some h2]
   simp only[Option.bind_some];rw[upd hk h4,wrap_small (by omega) (by omega)]
   rfl) (by
   unfold i_dot_s3;have:(a.zip b).take a.length=a.zip b:=by rw[←hz,List.take_length]
   simp[this,dtL])
  unfold i_dot;have e:((0,0):Int×Int)=(((a.zip b).take 0).foldl (fun s p=>s+p.1*p.2) 0,((0:Nat):Int)):=by simp
  rw[e,this];rfl
 ·have:=iter_up (step:=s_l2Dot_s3 a b) a.length (fun k=>(((a.zip b).take k).foldl (fun s p=>s+p.1*p.2) 0,(k:Int))) (dtL a b) (fun k hk=>by
   obtain⟨x,y,h1,h2,h4⟩:=get k hk;unfold s_l2Dot_s3;simp only;rw[show decide ((k:Int)<(a.length:Int))=true from by simp;omega,cond_true,show decide ((k:Int)<(b.length:Int))=true from by simp;omega,cond_true,idx_some h1,idx_some h2]
   simp only[Option.bind_some];rw[upd hk h4,wrap_small (by omega) (by omega)]
   rfl) (by
   unfold s_l2Dot_s3;have:(a.zip b).take a.length=a.zip b:=by rw[←hz,List.take_length]
   simp[this,dtL])
  unfold s_l2Dot;have e:((0,0):Int×Int)=(((a.zip b).take 0).foldl (fun s p=>s+p.1*p.2) 0,((0:Nat):Int)):=by simp
  rw[e,this];rfl
theorem dotL_eq {a b:List Int}(hl:a.length=b.length)(h3:a.length≤1000)(ha:∀x∈a,-1000000≤x∧x≤1000000)(hb:∀x∈b,-1000000≤x∧x≤1000000):i_dot a b=some (dtL a b)∧s_l2Dot a b=some (dtL a b) :=
 dotG_eq hl h3 fun p hp=>by
  have:=List.of_mem_zip hp;exact prod_bd (ha _ this.1) (hb _ this.2)
structure RegOk (r:Rg) (n:Nat):Prop where
 dim:r.1=n
 lo:1≤n
 hi:n≤3
 len:r.2.length≤8
 halves:∀h∈r.2,h.1.length=n∧(∀x∈h.1,-20≤x∧x≤20)∧-200≤h.2∧h.2≤200∧0<gcdL h.1
theorem halfB_of {n:Int}{h:Hf}(hb:halfB n h=true):(h.1.length:Int)=n∧(∀x∈h.1,-20≤x∧x≤20)∧-200≤h.2∧h.2≤200∧0<gcdL h.1:=by
 unfold halfB at hb;simp only[Bool.and_eq_true,beq_iff_eq,decide_eq_true_eq,List.all_eq_true,inR_iff]at hb;exact⟨hb.1.1.1.2,hb.1.1.2,hb.2.1,hb.2.2,hb.1.2⟩
theorem regOk {r:Rg}(h:regB r=true):∃n,RegOk r n:=by
 unfold regB at h;simp only[Bool.and_eq_true,inR_iff,decide_eq_true_eq,List.all_eq_true]at h;refine⟨r.1.toNat,by omega,by omega,by omega,h.1.2,fun x hx=>?_⟩
 obtain⟨h1,h2⟩:=halfB_of (h.2 x hx);exact⟨by omega,h2⟩
def hasR (r:Rg)(x:List Int):Bool:=r.2.all fun h=>decide (dtL h.1 x≤h.2)
def ptsL (n:Nat):List (List Int):=latt (List.replicate n ((-6:Int),(6:Int))) [[]]
theorem pts_facts {n:Nat}(hn:n≤3):(∀v∈ptsL n,v.length=n∧∀x∈v,-6≤x∧x≤6)∧(ptsL n).length≤8000000:=by
 have h1:=latt_facts (List.replicate n ((-6:Int),(6:Int))) (fun p hp=>by rw[List.eq_of_mem_replicate hp];decide) n (by simp)
 have e:(List.replicate n ((-6:Int),(6:Int))).take n=List.replicate n ((-6:Int),(6:Int)):=by rw[List.take_of_length_le];simp
 rw[e]at h1;refine⟨fun v hv=>⟨h1.1 v hv,?_⟩,Nat.le_trans h1.2 ?_⟩
 ·have:∀(B:List (Int×Int)) (L:List (List Int)),(∀p∈B,p=(-6,6))→(∀v∈L,∀x∈v,-6≤x∧x≤6)→∀v∈latt B L,∀x∈v,-6≤x∧x≤6:=by
   intro B;induction B with
   | nil=>intro L _ hL;exact hL
   | cons p B ih =>
    intro L hp hL;refine ih _ (fun q hq=>hp q (List.mem_cons_of_mem _ hq)) fun v hv x hx=>?_;rw[hp p (by simp)]at hv
    unfold ext at hv;obtain⟨u,hu,hv⟩:=List.mem_flatMap.1 hv;obtain⟨y,hy,rfl⟩:=List.mem_map.1 hv;rcases List.mem_append.1 hx with hx | hx
    ·exact hL u hu x hx
    ·simp only[List.mem_singleton]at hx;subst hx;exact rng_mem.1 hy
  exact this _ _ (fun p hp=>List.eq_of_mem_replicate hp) (by simp) v hv
 ·have:n=0∨n=1∨n=2∨n=3:=by omega
  rcases this with rfl | rfl | rfl | rfl<;>decide
theorem i_has_eq {r:Rg}{n:Nat}(h:RegOk r n)(hr:regB r=true){x:List Int}(hx:x.length=n∧∀y∈x,-6≤y∧y≤6):i_HasPoint r x=some (hasR r x)∧s_l4Has r x=some (hasR r x):=by
 have hlim:r.2.length≤lim:=by have:=h.len;rw[lim_eq];omega
 have hhl:∀q∈r.2,q.1.length≤lim:=fun q hq=>by have:=(h.halves q hq).1;have:=h.hi;rw[lim_eq];omega
 have hd:∀q∈r.2,i_dot q.1 x=some (dtL q.1 x)∧s_l2Dot q.1 x=some (dtL q.1 x):=fun q hq=>by
  have hh:=h.halves q hq;have:=h.hi;exact dotL_eq (by rw[hh.1,hx.1]) (by omega) (fun y hy=>by have:=hh.2.1 y hy;omega) (fun y hy=>by have:=hx.2 y hy;omega)
 have hxl:x.length≤lim:=by have:=h.hi;have:=hx.1;rw[lim_eq];omega
 constructor
 ·unfold i_HasPoint;have hv:vecB x=true:=by
   unfold vecB;rw[Bool.and_eq_true,inR_iff,List.all_eq_true];refine⟨?_,fun y hy=>?_⟩
   ·have:=h.lo;have:=h.hi;have:=hx.1;omega
   ·rw[inR_iff];have:=hx.2 y hy;omega
  rw[i_IsRegion_eq (r:=(r.1,r.2)) hlim hhl,show regB (r.1,r.2)=true from hr]
  simp only[Option.bind_some,Bool.not_true,cond_false];rw[i_IsVector_eq hxl,hv];simp only[Option.bind_some,Bool.not_true,cond_false];rw[show((x.length:Int) != r.1)=false from by rw[h.dim,hx.1];simp,cond_false]
  have:=iter_all (step:=i_HasPoint_s4 r x) r.2 (fun q=>decide (dtL q.1 x≤q.2)) (fun k q hq=>by
   have hk:=len_lt hq;unfold i_HasPoint_s4;rw[show decide ((k:Int)<(r.2.length:Int))=true from by simp;omega,cond_true,idx_some hq]
   simp only[Option.bind_some,(hd q (List.mem_of_getElem? hq)).1];rw[wrap_succ (by omega)]
   by_cases hc:dtL q.1 x≤q.2
   ·rw[show decide (dtL q.1 x>q.2)=false from by simp;omega,cond_false,if_pos (by simpa using hc)]
   ·rw[show decide (dtL q.1 x>q.2)=true from by simp;omega,cond_true,if_neg (by simpa using hc)]) (by
   unfold i_HasPoint_s4;simp)
  rw[this];show _=some (r.2.all fun q=>decide (dtL q.1 x≤q.2));cases r.2.all fun q=>decide (dtL q.1 x≤q.2)<;>rfl
 ·unfold s_l4Has;have:=iter_all (step:=s_l4Has_s2 r x) r.2 (fun q=>decide (dtL q.1 x≤q.2)) (fun k q hq=>by
   have hk:=len_lt hq;unfold s_l4Has_s2;rw[show decide ((k:Int)<(r.2.length:Int))=true from by simp;omega,cond_true,idx_some hq]
   simp only[Option.bind_some,(hd q (List.mem_of_getElem? hq)).2];rw[wrap_succ (by omega)]
   by_cases hc:dtL q.1 x≤q.2
   ·rw[show decide (dtL q.1 x>q.2)=false from by simp;omega,cond_false,if_pos (by simpa using hc)]
   ·rw[show decide (dtL q.1 x>q.2)=true from by simp;omega,cond_true,if_neg (by simpa using hc)]) (by
   unfold s_l4Has_s2;simp)
  rw[this];show _=some (r.2.all fun q=>decide (dtL q.1 x≤q.2));cases r.2.all fun q=>decide (dtL q.1 x≤q.2)<;>rfl
theorem pointsIn_eq {r:Rg}{n:Nat}(h:RegOk r n)(hr:regB r=true):i_PointsIn r=some ((ptsL n).filter (hasR r))∧s_PointsIn r=some ((ptsL n).filter (hasR r)):=by
 have hlim:r.2.length≤lim:=by have:=h.len;rw[lim_eq];omega
 have hhl:∀q∈r.2,q.1.length≤lim:=fun q hq=>by have:=(h.halves q hq).1;have:=h.hi;rw[lim_eq];omega
 obtain⟨f1,f2⟩:=pts_facts h.hi;have fl:∀k,(((ptsL n).take k).filter (hasR r)).length≤8000000:=fun k=>by
  have:=List.length_filter_le (hasR r) ((ptsL n).take k);simp at this;omega
 have hn:=h.hi;constructor
 ·unfold i_PointsIn;rw[i_IsRegion_eq (r:=(r.1,r.2)) hlim hhl,show regB (r.1,r.2)=true from hr,h.dim]
  simp only[Option.bind_some,Bool.not_true,cond_false];rw[mkD_some (by rw[lim_eq];omega) (by rw[lim_eq];omega)]
  simp only[Option.bind_some];have L1:(List.replicate n (-6:Int)).length=n:=by simp
  have L2:(List.replicate n (6:Int)).length=n:=by simp
  have:=iter_up (step:=i_PointsIn_s5 (List.replicate n 0)) n (fun k=>((List.replicate n (-6:Int)).take k++List.replicate ((List.replicate n (-6:Int)).length-k) 0,(List.replicate n (6:Int)).take k++List.replicate ((List.replicate n (6:Int)).length-k) 0,(k:Int))) (List.replicate n (-6),List.replicate n 6) (fun k hk=>by
   have g1:(List.replicate n (-6:Int))[k]? = some (-6):=by rw[List.getElem?_replicate,if_pos hk]
   have g2:(List.replicate n (6:Int))[k]? = some 6:=by rw[List.getElem?_replicate,if_pos hk]
   have e1:((List.replicate n (-6:Int)).take k++List.replicate ((List.replicate n (-6:Int)).length-k) 0).length=n:=by simp;omega
   have e2:((List.replicate n (6:Int)).take k++List.replicate ((List.replicate n (6:Int)).length-k) 0).length=n:=by simp;omega
   unfold i_PointsIn_s5;simp only;rw[show decide ((k:Int)<((List.replicate n (0:Int)).length:Int))=true from by simp;omega,cond_true,e1,e2]
   simp only[Int.toNat_natCast];rw[inIdx_nat hk];simp only[Option.bind_some];rw[set_take g1,set_take g2,wrap_small (by omega) (by omega)]
   rfl) (by
   unfold i_PointsIn_s5;simp only;rw[show decide ((n:Int)<((List.replicate n (0:Int)).length:Int))=false from by simp,cond_false]
   simp)
  have e:((List.replicate n 0,List.replicate n 0,0):List Int×List Int×Int)=((List.replicate n (-6:Int)).take 0++List.replicate ((List.replicate n (-6:Int)).length-0) 0,(List.replicate n (6:Int)).take 0++List.replicate ((List.replicate n (6:Int)).length-0) 0,((0:Nat):Int)):=by simp
  rw[e,this];simp only[Option.bind_some];have hl:=lattice_eq (List.replicate n ((-6:Int),(6:Int))) (fun p hp=>by rw[List.eq_of_mem_replicate hp];decide) (by simpa using hn)
  rw[List.map_replicate,List.map_replicate]at hl;rw[hl];simp only[Option.bind_some];show((iter (i_PointsIn_s11 r (ptsL n)) ([],0)).bind fun v11=>some v11)=_;have:=iter_up (step:=i_PointsIn_s11 r (ptsL n)) (ptsL n).length (fun k=>(((ptsL n).take k).filter (hasR r),(k:Int))) ((ptsL n).filter (hasR r)) (fun k hk=>by
   have hg:(ptsL n)[k]? = some (ptsL n)[k]:=List.getElem?_eq_getElem hk;unfold i_PointsIn_s11;simp only;rw[show decide ((k:Int)<((ptsL n).length:Int))=true from by simp;omega,cond_true,idx_some hg]
   simp only[Option.bind_some];have hp:=(i_has_eq h hr (f1 _ (List.getElem_mem hk))).1;rw[show i_HasPoint (r.1,r.2) (ptsL n)[k]=_ from hp]
   simp only[Option.bind_some];have:=fl k;rw[appD_some (by simp[lim_eq];omega) (by simp[lim_eq];omega),filter_take_succ _ hg,wrap_small (by omega) (by omega)]
   cases hasR r (ptsL n)[k]with
   | true=>rfl
   | false=>simp) (by
   unfold i_PointsIn_s11;simp)
  have e:(([],0):List (List Int)×Int)=(((ptsL n).take 0).filter (hasR r),((0:Nat):Int)):=by simp
  rw[e,this];rfl
 ·unfold s_PointsIn;rw[s_IsRegion_eq (r:=(r.1,r.2)) hlim hhl,show regB (r.1,r.2)=true from hr,h.dim,l5All_eq n hn (by decide) (by decide) (by decide) (by decide)]
  simp only[Option.bind_some,Bool.not_true,cond_false];show((iter (s_PointsIn_s6 r (ptsL n)) ([],0)).bind fun v8=>some v8)=_;have:=iter_up (step:=s_PointsIn_s6 r (ptsL n)) (ptsL n).length (fun k=>(((ptsL n).take k).filter (hasR r),(k:Int))) ((ptsL n).filter (hasR r)) (fun k hk=>by
   have hg:(ptsL n)[k]? = some (ptsL n)[k]:=List.getElem?_eq_getElem hk;unfold s_PointsIn_s6;simp only;rw[show decide ((k:Int)<((ptsL n).length:Int))=true from by simp;omega,cond_true,idx_some hg]
   simp only[Option.bind_some];have hp:=(i_has_eq h hr (f1 _ (List.getElem_mem hk))).2;rw[show s_l4Has (r.1,r.2) (ptsL n)[k]=_ from hp]
   simp only[Option.bind_some];have:=fl k;rw[appD_some (by simp[lim_eq];omega) (by simp[lim_eq];omega),filter_take_succ _ hg,wrap_small (by omega) (by omega)]
   cases hasR r (ptsL n)[k]with
   | true=>rfl
   | false=>simp) (by
   unfold s_PointsIn_s6;simp)
  have e:(([],0):List (List Int)×Int)=(((ptsL n).take 0).filter (hasR r),((0:Nat):Int)):=by simp
  rw[e,this];rfl
structure FitH (xs:List Hf):Prop where
 len:xs.length≤1048576
 each:∀h∈xs,h.1.length≤1048576
end Go.Proofs.YtfknaeamhcpfgaaGreat
