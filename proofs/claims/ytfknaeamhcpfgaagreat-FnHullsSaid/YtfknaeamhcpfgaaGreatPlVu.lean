/-
  Texts put together: PlVt, PlVu. No condition.
-/
import Derived.Test.YtfknaeamhcpfgaaGreatPlCt
import Derived.Test.YtfknaeamhcpfgaaGreatPlK
namespace Go.Proofs.YtfknaeamhcpfgaaGreat
open Go Go.Proofs.YtfknaeamhcpfgaaGreat.Eng
set_option linter.all false
def det:List (List Int)→Int
 | [[a]]=>a
 | [[a,b],[c,d]]=>a*d-b*c
 | [[a,b,c],[d,e,f],[g,h,i]]=>a*(e*i-f*h)+b*(f*g-d*i)+c*(d*h-e*g)
 | _=>0
def B3 (x:Int):Prop:=-200≤x∧x≤200
theorem b3_mul {x y:Int}(hx:B3 x)(hy:B3 y):-40000≤x*y∧x*y≤40000:=by
 unfold B3 at *;have:=abs_mul_le (a:=x) (b:=y) (m:=200) (n:=200) (by omega) (by omega) (by omega) (by omega)
 omega
theorem b3_mul2 {x z:Int}(hx:B3 x)(hz:-80000≤z∧z≤80000):-16000000≤x*z∧x*z≤16000000:=by
 unfold B3 at *;have:=abs_mul_le (a:=x) (b:=z) (m:=200) (n:=80000) (by omega) (by omega) (by omega) (by omega)
 omega
theorem det_two {a b c d:Int}(ha:B3 a)(hb:B3 b)(hc:B3 c)(hd:B3 d):s_l3Det [[a,b],[c,d]]=some (a*d-b*c):=by
 have h1:=b3_mul ha hd;have h2:=b3_mul hb hc;have e:s_l3Det [[a,b],[c,d]]=some (IntKind.i64.wrap ((IntKind.i64.wrap (a*d))-(IntKind.i64.wrap (b*c)))):=rfl;rw[e,wrap_small (x:=a*d) (by omega) (by omega),wrap_small (x:=b*c) (by omega) (by omega),wrap_small (by omega) (by omega)]
theorem det_three {a b c d e f g h i:Int} (ha:B3 a) (hb:B3 b) (hc:B3 c) (hd:B3 d) (he:B3 e) (hf:B3 f) (hg:B3 g) (hh:B3 h) (hi:B3 i) :
  s_l3Det [[a,b,c],[d,e,f],[g,h,i]]=some (a*(e*i-f*h)+b*(f*g-d*i)+c*(d*h-e*g)):=by
 have e0:∀s:Int,s_l3Det_s8 [[a,b,c],[d,e,f],[g,h,i]] (s,0)=some (.inl (IntKind.i64.wrap (s+IntKind.i64.wrap (a*IntKind.i64.wrap (IntKind.i64.wrap (e*i)-IntKind.i64.wrap (f*h)))),1)):=fun s=>rfl;have e1:∀s:Int,s_l3Det_s8 [[a,b,c],[d,e,f],[g,h,i]] (s,1)=some (.inl (IntKind.i64.wrap (s+IntKind.i64.wrap (b*IntKind.i64.wrap (IntKind.i64.wrap (f*g)-IntKind.i64.wrap (d*i)))),2)):=fun s=>rfl;have e2:∀s:Int,s_l3Det_s8 [[a,b,c],[d,e,f],[g,h,i]] (s,2)=some (.inl (IntKind.i64.wrap (s+IntKind.i64.wrap (c*IntKind.i64.wrap (IntKind.i64.wrap (d*h)-IntKind.i64.wrap (e*g)))),3)):=fun s=>rfl;have e3:∀s:Int,s_l3Det_s8 [[a,b,c],[d,e,f],[g,h,i]] (s,3)=some (.inr s):=fun s=>rfl;have term:∀{x p q r s:Int},B3 x→B3 p→B3 q→B3 r→B3 s→IntKind.i64.wrap (x*IntKind.i64.wrap (IntKind.i64.wrap (p*q)-IntKind.i64.wrap (r*s)))=x*(p*q-r*s)∧-16000000≤x*(p*q-r*s)∧x*(p*q-r*s)≤16000000:=fun{x p q r s} hx hp hq hr hs=>by
  have h1:=b3_mul hp hq;have h2:=b3_mul hr hs;have h3:=b3_mul2 (x:=x) (z:=p*q-r*s) hx (by omega)
  rw[wrap_small (x:=p*q) (by omega) (by omega),wrap_small (x:=r*s) (by omega) (by omega),wrap_small (x:=p*q-r*s) (by omega) (by omega),wrap_small (by omega) (by omega)]
  exact⟨rfl,h3⟩
 obtain⟨t0,b0,b0'⟩:=term ha he hi hf hh;obtain⟨t1,b1,b1'⟩:=term hb hf hg hd hi;obtain⟨t2,b2,b2'⟩:=term hc hd hh he hg;have hl:s_l3Det [[a,b,c],[d,e,f],[g,h,i]]=(iter (s_l3Det_s8 [[a,b,c],[d,e,f],[g,h,i]]) ((0:Int),(0:Int))).bind fun v24=>some v24:=rfl;rw[hl,iter_next (e0 0),t0,iter_next (e1 _),t1,iter_next (e2 _),t2,iter_end (e3 _)];simp only[Option.bind_some];rw[wrap_small (x:=0+a*(e*i-f*h)) (by omega) (by omega),wrap_small (x:=0+a*(e*i-f*h)+b*(f*g-d*i)) (by omega) (by omega),wrap_small (by omega) (by omega)]
 congr 1
 omega
structure Sq (n:Nat) (M:List (List Int)):Prop where
 one:1≤n
 three:n≤3
 rows:M.length=n
 cols:∀r∈M,r.length=n∧∀x∈r,B3 x
theorem row_one {r:List Int}(h:r.length=1):∃a,r=[a]:=by
 match r,h with
 | [a],_=>exact⟨a,rfl⟩
theorem row_two {r:List Int}(h:r.length=2):∃a b,r=[a,b]:=by
 match r,h with
 | [a,b],_=>exact⟨a,b,rfl⟩
theorem row_three {r:List Int}(h:r.length=3):∃a b c,r=[a,b,c]:=by
 match r,h with
 | [a,b,c],_=>exact⟨a,b,c,rfl⟩
theorem l3Det_eq {n:Nat}{M:List (List Int)}(h:Sq n M):s_l3Det M=some (det M)∧-48000000≤det M∧det M≤48000000:=by
 obtain⟨h1,h3,hr,hc⟩:=h;have:n=1∨n=2∨n=3:=by omega
 rcases this with rfl | rfl | rfl
 ·match M,hr with
  | [r],_ =>
   obtain⟨k,hb⟩:=hc r (by simp)
   obtain⟨a,rfl⟩:=row_one k;have:=hb a (by simp)
   unfold B3 at this;exact⟨rfl,by show -48000000≤a∧a≤48000000;omega⟩
 ·match M,hr with
  | [r,s],_ =>
   obtain⟨k,hb⟩:=hc r (by simp)
   obtain⟨k',hb'⟩:=hc s (by simp)
   obtain⟨a,b,rfl⟩:=row_two k;obtain⟨c,d,rfl⟩:=row_two k';have ha:=hb a (by simp)
   have hb2:=hb b (by simp)
   have hc2:=hb' c (by simp)
   have hd:=hb' d (by simp)
   refine⟨det_two ha hb2 hc2 hd,?_⟩;have q1:=b3_mul ha hd;have q2:=b3_mul hb2 hc2;show -48000000≤a*d-b*c∧a*d-b*c≤48000000;omega
 ·match M,hr with
  | [r,s,t],_ =>
   obtain⟨k,hb⟩:=hc r (by simp)
   obtain⟨k',hb'⟩:=hc s (by simp)
   obtain⟨k'',hb''⟩:=hc t (by simp)
   obtain⟨a,b,c,rfl⟩:=row_three k;obtain⟨d,e,f,rfl⟩:=row_three k';obtain⟨g,h,i,rfl⟩:=row_three k'';have ha:=hb a (by simp)
   have hb2:=hb b (by simp)
   have hc2:=hb c (by simp)
   have hd:=hb' d (by simp)
   have he:=hb' e (by simp)
   have hf:=hb' f (by simp)
   have hg:=hb'' g (by simp)
   have hh:=hb'' h (by simp)
   have hi:=hb'' i (by simp)
   refine⟨det_three ha hb2 hc2 hd he hf hg hh hi,?_⟩;have q1:=b3_mul he hi;have q2:=b3_mul hf hh;have q3:=b3_mul hf hg;have q4:=b3_mul hd hi;have q5:=b3_mul hd hh;have q6:=b3_mul he hg;have p1:=b3_mul2 (z:=e*i-f*h) ha (by omega)
   have p2:=b3_mul2 (z:=f*g-d*i) hb2 (by omega)
   have p3:=b3_mul2 (z:=d*h-e*g) hc2 (by omega)
   show -48000000≤a*(e*i-f*h)+b*(f*g-d*i)+c*(d*h-e*g)∧a*(e*i-f*h)+b*(f*g-d*i)+c*(d*h-e*g)≤48000000;omega
structure Sys (n:Nat) (X:List Hf):Prop where
 one:1≤n
 three:n≤3
 rows:X.length=n
 cols:∀h∈X,h.1.length=n∧(∀x∈h.1,B3 x)∧B3 h.2
def normals (X:List Hf):List (List Int):=X.map (·.1)
def swapC (X:List Hf)(c:Nat):List (List Int):=X.map fun h=>h.1.set c h.2
def numsL (X:List Hf)(n:Nat):List Int:=(List.range n).map fun c=>det (swapC X c)
theorem take_map1 {α β:Type}(f:α→β){xs:List α}{k:Nat}{x:α}(h:xs[k]? = some x):(xs.take (k+1)).map f=(xs.take k).map f++[f x]:=by
 rw[List.take_add_one,h];simp
theorem Sys.sq {n:Nat}{X:List Hf}(h:Sys n X):Sq n (normals X) :=
 ⟨h.one,h.three,by simp[normals,h.rows],fun r hr=>by
  obtain⟨q,hq,rfl⟩:=List.mem_map.1 hr;exact⟨(h.cols q hq).1,(h.cols q hq).2.1⟩⟩
theorem Sys.sqc {n:Nat}{X:List Hf}(h:Sys n X)(c:Nat):Sq n (swapC X c) :=
 ⟨h.one,h.three,by simp[swapC,h.rows],fun r hr=>by
  obtain⟨q,hq,rfl⟩:=List.mem_map.1 hr;obtain⟨q1,q2,q3⟩:=h.cols q hq;refine⟨by simp[q1],fun x hx=>?_⟩
  rcases List.mem_or_eq_of_mem_set hx with hx | rfl
  ·exact q2 x hx
  ·exact q3⟩
theorem solve3 {n:Nat}{X:List Hf}(h:Sys n X){z:List Int×Int}:iter (s_l6Solve_s3 X) (z,([],0))=some (z,normals X):=by
 have hr:=h.rows;have h3:=h.three;have:=iter_up (step:=s_l6Solve_s3 X) X.length (fun k=>(z,(((X.take k).map (·.1)),(k:Int)))) (z,X.map (·.1)) (fun k hk=>by
  have hx:X[k]? = some X[k]:=List.getElem?_eq_getElem hk;unfold s_l6Solve_s3;simp only;rw[show decide ((k:Int)<(X.length:Int))=true from by simp;omega,cond_true,idx_some hx]
  simp only[Option.bind_some];rw[appD_some (by rw[lim_eq];simp;omega) (by rw[lim_eq];simp;omega),Option.bind_some,wrap_small (by omega) (by omega),take_map1 _ hx]
  rfl) (by
  unfold s_l6Solve_s3;simp)
 simpa[normals]using this
theorem solve15 {n:Nat} {X:List Hf} (h:Sys n X) {z z':List Int × Int} {N:List Int} {c:Nat} (hc:c < n) :
  iter (s_l6Solve_s15 X (z',normals X) (z,(N,(c:Int)))) (z,(N,([],0)))=some (z,(N,swapC X c)):=by
 have hr:=h.rows;have h3:=h.three;have:=iter_up (step:=s_l6Solve_s15 X (z',normals X) (z,(N,(c:Int)))) X.length (fun k=>(z,(N,(((X.take k).map fun h=>h.1.set c h.2),(k:Int))))) (z,(N,swapC X c)) (fun k hk=>by
  have hx:X[k]? = some X[k]:=List.getElem?_eq_getElem hk;obtain⟨q1,q2,q3⟩:=h.cols _ (List.getElem_mem hk);have hn:(normals X)[k]? = some X[k].1:=by unfold normals;rw[List.getElem?_map,hx];rfl
  have hl:(normals X).length=X.length:=by simp[normals]
  unfold s_l6Solve_s15;simp only;rw[show decide ((k:Int)<((normals X).length:Int))=true from by rw[hl];simp;omega,cond_true,idx_some hn,Option.bind_some,appD_some (by rw[lim_eq];simp;omega) (by rw[lim_eq];simp;omega),Option.bind_some,idx_some hx,List.nil_append]
  simp only[Option.bind_some];rw[inIdx_nat (k:=c) (by omega),Option.bind_some,Int.toNat_natCast,inIdx_nat (k:=c) (by omega),Option.bind_some,appD_some (by rw[lim_eq];simp;omega) (by rw[lim_eq];simp;omega),Option.bind_some,wrap_small (by omega) (by omega),take_map1 _ hx]
  rfl) (by
  have hl:(normals X).length=X.length:=by simp[normals]
  unfold s_l6Solve_s15;simp only;rw[hl];simp[swapC])
 simpa using this
theorem solve11 {n:Nat}{X:List Hf}(h:Sys n X){z z':List Int×Int}:iter (s_l6Solve_s11 X (z',normals X)) (z,([],0))=some (z,numsL X n):=by
 have hr:=h.rows;have h3:=h.three;have hl:(normals X).length=n:=by simp[normals,hr]
 have:=iter_up (step:=s_l6Solve_s11 X (z',normals X)) n (fun k=>(z,(((List.range k).map fun c=>det (swapC X c)),(k:Int)))) (z,numsL X n) (fun k hk=>by
  unfold s_l6Solve_s11;simp only;rw[hl,show decide ((k:Int)<(n:Int))=true from by simp;omega,cond_true,solve15 h hk,Option.bind_some]
  simp only;rw[(l3Det_eq (h.sqc k)).1,Option.bind_some,appD_some (by rw[lim_eq];simp;omega) (by rw[lim_eq];simp;omega),Option.bind_some,wrap_small (by omega) (by omega),List.range_succ]
  simp) (by
  unfold s_l6Solve_s11;simp only;rw[hl];simp[numsL])
 simpa using this
theorem numsL_bd {n:Nat}{X:List Hf}(h:Sys n X):(numsL X n).length=n∧∀x∈numsL X n,-48000000≤x∧x≤48000000:=by
 refine⟨by simp[numsL],fun x hx=>?_⟩
 obtain⟨c,_,rfl⟩:=List.mem_map.1 hx;exact(l3Det_eq (h.sqc c)).2
theorem gcdL_small:(v:List Int)→(∀x∈v,Sm x)→Sm (gcdL v):=fun v hv=>by
 have key:∀(v:List Int) (g:Int),Sm g→(∀x∈v,Sm x)→Sm (v.foldl (fun g x=>(Int.gcd g x:Int)) g):=by
  intro v;induction v with
  | nil=>intro g hg _;exact hg
  | cons x v ih=>intro g hg hv;exact ih _ (gcd_sm hg (hv x (by simp))) fun y hy=>hv y (List.mem_cons_of_mem _ hy)
 exact key v 0 (by unfold Sm;omega) hv
theorem quoI_some {a b:Int}(hb:b≠0)(ha:-1000000000≤a∧a≤1000000000):quoI .i64 a b=some (a.tdiv b):=by
 have:=tdiv_bd (a:=a) (b:=b);unfold quoI;rw[if_neg hb,wrap_small (by omega) (by omega)]
theorem solve27 {N:List Int}(hl:N.length≤3)(hN:∀x∈N,-1000000000≤x∧x≤1000000000){g d:Int}(hg:g≠0){z:List Int×Int}:iter (s_l6Solve_s27 N g) (z,(([],d),0))=some (z,(N.map fun x=>x.tdiv g,d)):=by
 have:=iter_up (step:=s_l6Solve_s27 N g) N.length (fun k=>(z,((((N.take k).map fun x=>x.tdiv g),d),(k:Int)))) (z,(N.map fun x=>x.tdiv g,d)) (fun k hk=>by
  have hx:N[k]? = some N[k]:=List.getElem?_eq_getElem hk;unfold s_l6Solve_s27;simp only;rw[show decide ((k:Int)<(N.length:Int))=true from by simp;omega,cond_true,idx_some hx,Option.bind_some,quoI_some hg (hN _ (List.getElem_mem hk)),Option.bind_some,appD_some (by rw[lim_eq];simp;omega) (by rw[lim_eq];simp;omega),Option.bind_some,wrap_small (by omega) (by omega),take_map1 _ hx]
  rfl) (by
  unfold s_l6Solve_s27;simp)
 simpa using this
theorem solve27b {z':List Int×Int}{N:List Int}:s_l6Solve_s27b31 (z',N)=s_l6Solve_s27 N:=rfl
def solveL (X:List Hf)(n:Nat):Ra×Bool :=
 if det (normals X)=0 then(([],0),false)
 else if det (normals X)<0 then
  (let g:Int:=(Int.gcd (gcdL ((numsL X n).map fun x=>x * (-1))) (-det (normals X)):Nat)
   ((((numsL X n).map fun x=>x*(-1)).map fun x=>x.tdiv g,(-det (normals X)).tdiv g),true))
 else
  (let g:Int:=(Int.gcd (gcdL (numsL X n)) (det (normals X)):Nat)
   (((numsL X n).map fun x=>x.tdiv g,(det (normals X)).tdiv g),true))
theorem solve_eq {n:Nat}{X:List Hf}(h:Sys n X):s_l6Solve X=some (solveL X n):=by
 have h3:=h.three;obtain⟨d1,d2,d3⟩:=l3Det_eq h.sq;obtain⟨n1,n2⟩:=numsL_bd h;unfold s_l6Solve;rw[solve3 h,Option.bind_some];simp only;rw[d1,Option.bind_some];unfold solveL;by_cases h0:det (normals X)=0
 ·rw[if_pos h0,show(det (normals X)==0)=true from by simpa using h0,cond_true]
 ·rw[if_neg h0,show(det (normals X)==0)=false from by simpa using h0,cond_false,solve11 h,Option.bind_some]
  simp only;by_cases hneg:det (normals X)<0
  ·rw[if_pos hneg,decide_eq_true hneg,cond_true];have e0:s_l2Scale (numsL X n) (-1)=some ((numsL X n).map fun x=>x*(-1)):=l2Scale_eq (by omega) (fun x hx=>by have:=n2 x hx;unfold Tn;omega) (by unfold Tn;omega)
   have hb:∀x∈(numsL X n).map (fun x=>x*(-1)),-48000000≤x∧x≤48000000:=fun x hx=>by
    obtain⟨y,hy,rfl⟩:=List.mem_map.1 hx;have:=n2 y hy;omega
   have hl:((numsL X n).map fun x=>x*(-1)).length=n:=by simp[n1]
   generalize (numsL X n).map (fun x=>x*(-1))=N at e0 hb hl;have hsm:∀x∈N,Sm x:=fun x hx=>by have:=hb x hx;unfold Sm;omega
   have hw:IntKind.i64.wrap (0-det (normals X))=- det (normals X):=by rw[wrap_small (by omega) (by omega)];omega
   have hg:((Int.gcd (gcdL N) (-det (normals X)):Nat):Int)≠0:=fun he=>by
    have:=Int.eq_zero_of_gcd_eq_zero_right (a:=gcdL N) (b:=-det (normals X)) (by omega)
    omega
   rw[e0,Option.bind_some,l2All_eq (Nat.le_trans (show N.length≤3 by omega) (by decide)) hsm,Option.bind_some,hw,l2Gcd_eq (gcdL_small N hsm) (by unfold Sm;omega),Option.bind_some,quoI_some hg (by omega),Option.bind_some,solve27 (by omega) (fun x hx=>by have:=hb x hx;omega) hg]
   rfl
  ·rw[if_neg hneg,decide_eq_false hneg,cond_false];have hsm:∀x∈numsL X n,Sm x:=fun x hx=>by have:=n2 x hx;unfold Sm;omega
   have hg:((Int.gcd (gcdL (numsL X n)) (det (normals X)):Nat):Int)≠0:=fun he=>by
    have:=Int.eq_zero_of_gcd_eq_zero_right (a:=gcdL (numsL X n)) (b:=det (normals X)) (by omega)
    omega
   rw[l2All_eq (Nat.le_trans (show(numsL X n).length≤3 by omega) (by decide)) hsm,Option.bind_some,l2Gcd_eq (gcdL_small _ hsm) (by unfold Sm;omega),Option.bind_some,quoI_some hg (by omega),Option.bind_some,solve27b,solve27 (by omega) (fun x hx=>by have:=n2 x hx;omega) hg]
   rfl
open Go Go.Proofs.YtfknaeamhcpfgaaGreat.Eng
set_option linter.all false
def cmpL:List Int→List Int→Int→Int→Int
 | x::xs,y::ys,d,e=>if x*e=y*d then cmpL xs ys d e else if x*e<y*d then -1 else 1
 | _,_,_,_=>0
def cmpR (p q:Ra):Int:=cmpL p.1 q.1 p.2 q.2
structure FineR (n:Nat) (p:Ra):Prop where
 len:p.1.length=n
 den:1≤p.2∧p.2≤100000
 cells:∀x∈p.1,-10000000≤x∧x≤10000000
theorem fineR_of {n:Nat}{p:Ra}(h:ratB p=true)(hl:p.1.length=n):FineR n p:=by
 unfold ratB at h;simp only[Bool.and_eq_true,inR_iff,List.all_eq_true]at h;exact⟨hl,h.1,h.2⟩
theorem FineR.rat {n:Nat}{p:Ra}(h:FineR n p):ratB p=true:=by
 unfold ratB;simp only[Bool.and_eq_true,inR_iff,List.all_eq_true];exact⟨h.den,h.cells⟩
theorem cmpL_anti:∀(xs ys:List Int) (d e:Int),cmpL ys xs e d=- cmpL xs ys d e
 | x::xs,y::ys,d,e=>by
  unfold cmpL;by_cases h:x*e=y*d
  ·rw[if_pos h,if_pos h.symm];exact cmpL_anti xs ys d e
  ·rw[if_neg h,if_neg (Ne.symm h)];by_cases h1:x*e<y*d
   ·rw[if_pos h1,if_neg (by omega)];rfl
   ·rw[if_neg h1,if_pos (by omega)]
 | [],[],_,_=>by simp[cmpL]
 | [],_::_,_,_=>by simp[cmpL]
 | _::_,[],_,_=>by simp[cmpL]
theorem mid_lt {x y z d e f:Int}(hd:0<d)(he:0<e)(hf:0<f)(h1:x*e≤y*d)(h2:y*f≤z*e):x*f≤z*d∧(x*e<y*d∨y*f<z*e→x*f<z*d):=by
 have a1:x*e*f≤y*d*f:=Int.mul_le_mul_of_nonneg_right h1 (by omega)
 have a2:y*f*d≤z*e*d:=Int.mul_le_mul_of_nonneg_right h2 (by omega)
 have e1:x*e*f=e*(x*f):=by rw[Int.mul_assoc,Int.mul_left_comm]
 have e2:z*e*d=e*(z*d):=by rw[Int.mul_comm z e,Int.mul_assoc]
 have e3:y*d*f=y*f*d:=by rw[Int.mul_assoc,Int.mul_comm d f,Int.mul_assoc]
 refine⟨Int.le_of_mul_le_mul_left (a:=e) (by omega) he,fun h=>Int.lt_of_mul_lt_mul_left (a:=e) ?_ (by omega)⟩
 rcases h with h | h
 ·have:x*e*f<y*d*f:=Int.mul_lt_mul_of_pos_right h hf;omega
 ·have:y*f*d<z*e*d:=Int.mul_lt_mul_of_pos_right h hd;omega
theorem cmpL_trans {d e f:Int} (hd:0 < d) (he:0 < e) (hf:0 < f):∀ (xs ys zs:List Int),xs.length = ys.length→ys.length = zs.length→cmpL xs ys d e≤0→cmpL ys zs e f≤0 →
  cmpL xs zs d f≤0∧(cmpL xs ys d e<0∨cmpL ys zs e f<0→cmpL xs zs d f<0)
 | [],[],[],_,_,_,_=>by simp[cmpL]
 | x::xs,y::ys,z::zs,l1,l2,h1,h2=>by
  simp only[List.length_cons]at l1 l2;unfold cmpL at h1 h2 ⊢;have le1:x*e≤y*d:=by
   by_cases h:x*e=y*d
   ·omega
   ·rw[if_neg h]at h1;by_cases h':x*e<y*d
    ·omega
    ·rw[if_neg h']at h1;omega
  have le2:y*f≤z*e:=by
   by_cases h:y*f=z*e
   ·omega
   ·rw[if_neg h]at h2;by_cases h':y*f<z*e
    ·omega
    ·rw[if_neg h']at h2;omega
  obtain⟨m1,m2⟩:=mid_lt hd he hf le1 le2;by_cases q1:x*e=y*d
  ·by_cases q2:y*f=z*e
   ·obtain⟨m3,_⟩:=mid_lt (x:=z) (y:=y) (z:=x) hf he hd (by omega) (by omega)
    rw[if_pos q1]at h1 ⊢;rw[if_pos q2]at h2 ⊢;rw[if_pos (by omega)]
    exact cmpL_trans hd he hf xs ys zs (by omega) (by omega) h1 h2
   ·have:=m2 (.inr (by omega))
    rw[if_neg (by omega:¬x*f=z*d),if_pos this]
    exact⟨by omega,fun _=>by omega⟩
  ·have:=m2 (.inl (by omega))
   rw[if_neg (by omega:¬x*f=z*d),if_pos this]
   exact⟨by omega,fun _=>by omega⟩
 | [],[],_::_,_,l,_,_=>by simp at l
 | [],_::_,_,l,_,_,_=>by simp at l
 | _::_,[],_,l,_,_,_=>by simp at l
 | _::_,_::_,[],_,l,_,_=>by simp at l
theorem cmpR_trans {n:Nat}{p q r:Ra}(hp:FineR n p)(hq:FineR n q)(hr:FineR n r)(h1:cmpR p q≤0)(h2:cmpR q r≤0):cmpR p r≤0∧(cmpR p q<0∨cmpR q r<0→cmpR p r<0) :=
 cmpL_trans (by have:=hp.den;omega) (by have:=hq.den;omega) (by have:=hr.den;omega) _ _ _ (hp.len.trans hq.len.symm) (hq.len.trans hr.len.symm) h1 h2
theorem cmpR_anti (p q:Ra):cmpR q p=- cmpR p q:=cmpL_anti _ _ _ _
theorem prod_fine {n:Nat}{p q:Ra}(hp:FineR n p)(hq:FineR n q){x:Int}(hx:x∈p.1):-1000000000000≤x*q.2∧x*q.2≤1000000000000:=by
 have h1:=hp.cells x hx;have h2:=hq.den;have:=abs_mul_le (a:=x) (b:=q.2) (m:=10000000) (n:=100000) (by omega) (by omega) (by omega) (by omega)
 omega
def exC (x:Int):Unit⊕Int:=if x=0 then .inl ()else .inr x
theorem compare_eq {n:Nat}{p q:Ra}(hn:n≤3)(hp:FineR n p)(hq:FineR n q):s_CompareRationals p q=some (cmpR p q):=by
 have lp:=hp.len;have lq:=hq.len;unfold s_CompareRationals;rw[s_rational_eq (p:=(p.1,p.2)) (by rw[lim_eq];simp only;omega),s_rational_eq (p:=(q.1,q.2)) (by rw[lim_eq];simp only;omega)]
 rw[show ratB (p.1,p.2)=true from hp.rat,show ratB (q.1,q.2)=true from hq.rat]
 simp only[Option.bind_some,Bool.not_true,cond_false];rw[show((p.1.length:Int) != (q.1.length:Int))=false from by rw[lp,lq];simp,cond_false]
 have key:∀(d k:Nat),k+d=n→iter (s_CompareRationals_s4 p q) (k:Int)=some (exC (cmpL (p.1.drop k) (q.1.drop k) p.2 q.2)):=by
  intro d;induction d with
  | zero =>
   intro k hk;have:p.1.drop k=[]:=List.drop_eq_nil_of_le (by omega)
   rw[this];refine iter_end ?_;unfold s_CompareRationals_s4;rw[show decide ((k:Int)<(p.1.length:Int))=false from by simp;omega]
   simp[cmpL,exC]
  | succ d ih =>
   intro k hk;have h1:p.1[k]? = some (p.1[k]'(by omega)):=List.getElem?_eq_getElem _
   have h2:q.1[k]? = some (q.1[k]'(by omega)):=List.getElem?_eq_getElem _
   have b1:=prod_fine hp hq (List.getElem_mem (by omega:k<p.1.length))
   have b2:=prod_fine hq hp (List.getElem_mem (by omega:k<q.1.length))
   have st:s_CompareRationals_s4 p q (k:Int)=some (if(p.1[k]'(by omega))*q.2=(q.1[k]'(by omega))*p.2 then .inl ((k:Int)+1)else .inr (.inr (if(p.1[k]'(by omega))*q.2<(q.1[k]'(by omega))*p.2 then -1 else 1))):=by
    unfold s_CompareRationals_s4;rw[show decide ((k:Int)<(p.1.length:Int))=true from by simp;omega,cond_true,idx_some h1,idx_some h2]
    simp only[Option.bind_some];rw[wrap_small (by omega) (by omega),wrap_small (by omega) (by omega)]
    by_cases e:(p.1[k]'(by omega))*q.2=(q.1[k]'(by omega))*p.2
    ·rw[if_pos e,show((p.1[k]'(by omega))*q.2 != (q.1[k]'(by omega))*p.2)=false from by simpa using e,cond_false,wrap_small (by omega) (by omega)]
    ·rw[if_neg e,show((p.1[k]'(by omega))*q.2 != (q.1[k]'(by omega))*p.2)=true from by simpa using e,cond_true]
     by_cases l:(p.1[k]'(by omega))*q.2<(q.1[k]'(by omega))*p.2
     ·rw[if_pos l,decide_eq_true l];rfl
     ·rw[if_neg l,decide_eq_false l];rfl
   rw[List.drop_eq_getElem_cons (by omega:k<p.1.length),List.drop_eq_getElem_cons (by omega:k<q.1.length)]
   unfold cmpL;by_cases e:(p.1[k]'(by omega))*q.2=(q.1[k]'(by omega))*p.2
   ·rw[if_pos e]at st;rw[if_pos e,iter_next st];exact ih (k+1) (by omega)
   ·rw[if_neg e]at st;rw[if_neg e,iter_end st];by_cases l:(p.1[k]'(by omega))*q.2<(q.1[k]'(by omega))*p.2
    ·rw[if_pos l];rfl
    ·rw[if_neg l];rfl
 have k0:=key n 0 (by omega)
 rw[show((0:Nat):Int)=0 from rfl]at k0
 rw[k0,Option.bind_some];simp only[List.drop_zero];show(match exC (cmpR p q)with | .inl v8=>some 0 | .inr v9=>some v9)=some (cmpR p q)
 unfold exC;by_cases h:cmpR p q=0
 ·rw[if_pos h,h]
 ·rw[if_neg h]
def SortR (L:List Ra):Prop:=L.Pairwise fun a b=>cmpR a b<0
def insR (p:Ra):List Ra→List Ra
 | []=>[p]
 | q::L=>if cmpR p q<0 then p::q::L else if cmpR p q=0 then q::L else q::insR p L
theorem insR_mem {p q:Ra}:∀{L:List Ra},q∈insR p L→q=p∨q∈L
 | [],h=>by simp[insR]at h;exact .inl h
 | x::L,h=>by
  unfold insR at h;split at h
  ·rcases List.mem_cons.1 h with h | h
   ·exact .inl h
   ·exact .inr h
  ·split at h
   ·exact .inr h
   ·rcases List.mem_cons.1 h with h | h
    ·exact .inr (by simp[h])
    ·rcases insR_mem h with h | h
     ·exact .inl h
     ·exact .inr (List.mem_cons_of_mem _ h)
theorem insR_keep {p q:Ra}:∀{L:List Ra},q∈L→q∈insR p L
 | x::L,h=>by
  unfold insR;split
  ·exact List.mem_cons_of_mem _ h
  ·split
   ·exact h
   ·rcases List.mem_cons.1 h with h | h
    ·simp[h]
    ·exact List.mem_cons_of_mem _ (insR_keep h)
theorem insR_has {p:Ra}:∀{L:List Ra},∃q∈insR p L,cmpR p q=0
 | []=>⟨p,by simp[insR],by
  have:=cmpR_anti p p;omega⟩
 | x::L=>by
  unfold insR;split
  ·exact⟨p,by simp,by have:=cmpR_anti p p;omega⟩
  ·split
   ·exact⟨x,by simp,by assumption⟩
   ·obtain⟨q,h1,h2⟩:=insR_has (p:=p) (L:=L);exact⟨q,List.mem_cons_of_mem _ h1,h2⟩
theorem insR_len {p:Ra}:∀{L:List Ra},(insR p L).length≤L.length+1
 | []=>by simp[insR]
 | x::L=>by
  unfold insR;split
  ·simp
  ·split
   ·simp
   ·have:=insR_len (p:=p) (L:=L);simp only[List.length_cons];omega
theorem insR_sort {n:Nat}{p:Ra}(hp:FineR n p):∀{L:List Ra},(∀q∈L,FineR n q)→SortR L→SortR (insR p L)
 | [],_,_=>by simp[insR,SortR]
 | x::L,hf,hs=>by
  unfold SortR at hs ⊢;obtain⟨s1,s2⟩:=List.pairwise_cons.1 hs;have hx:=hf x (by simp)
  unfold insR;split
  ·rename_i h;refine List.pairwise_cons.2 ⟨fun b hb=>?_,hs⟩;rcases List.mem_cons.1 hb with rfl | hb
   ·exact h
   ·exact(cmpR_trans hp hx (hf b (List.mem_cons_of_mem _ hb)) (by omega) (by have:=s1 b hb;omega)).2 (.inl h)
  ·split
   ·exact hs
   ·rename_i h1 h2;refine List.pairwise_cons.2 ⟨fun b hb=>?_,insR_sort hp (fun q hq=>hf q (List.mem_cons_of_mem _ hq)) s2⟩;rcases insR_mem hb with rfl | hb
    ·have:=cmpR_anti x b;omega
    ·exact s1 b hb
theorem insR_at {n:Nat} {p:Ra} (hp:FineR n p):∀ (A B:List Ra),(∀ q∈A,FineR n q)→(∀ q∈B,cmpR p q < 0)→SortR A→(∀ q,A.getLast? = some q→0≤cmpR p q) →
  insR p (A++B)=if(∃q,A.getLast? = some q∧cmpR p q=0)then A++B else A++p::B
 | [],B,_,hB,_,_=>by
  have:¬∃q,([]:List Ra).getLast? = some q∧cmpR p q=0:=by simp
  rw[if_neg this];cases B with
  | nil=>rfl
  | cons b B=>simp only[List.nil_append,insR];rw[if_pos (hB b (by simp))]
 | [a],B,hf,hB,hs,hl=>by
  have h0:=hl a rfl;simp only[List.singleton_append,insR];rw[if_neg (by omega)]
  by_cases h:cmpR p a=0
  ·rw[if_pos h,if_pos ⟨a,rfl,h⟩]
  ·rw[if_neg h,if_neg (by rintro⟨q,hq,h'⟩;simp at hq;subst hq;exact h h')]
   have:=insR_at hp [] B (by simp) hB (by simp[SortR]) (by simp)
   simp only[List.nil_append]at this;rw[this,if_neg (by simp)]
 | a::b::A,B,hf,hB,hs,hl=>by
  unfold SortR at hs;obtain⟨s1,s2⟩:=List.pairwise_cons.1 hs;have hlast:(a::b::A).getLast? = (b::A).getLast?:=by simp[List.getLast?_cons_cons]
  rw[hlast]at hl ⊢;have hgt:0<cmpR p a:=by
   have hne:(b::A)≠[]:=by simp
   have hm:(b::A).getLast hne∈b::A:=List.getLast_mem _;have h0:=hl _ (List.getLast?_eq_some_getLast hne);have h1:=s1 _ hm;have h2:=cmpR_anti p ((b::A).getLast hne);have h3:=(cmpR_trans (hf a (by simp)) (hf _ (List.mem_cons_of_mem _ hm)) hp (by omega) (by omega)).2 (.inl h1)
   have h4:=cmpR_anti p a;omega
  have ih:=insR_at hp (b::A) B (fun q hq=>hf q (List.mem_cons_of_mem _ hq)) hB s2 hl;rw[show(a::b::A)++B=a::((b::A)++B)from rfl]
  rw[show insR p (a::((b::A)++B))=a::insR p ((b::A)++B)from by
   rw[insR,if_neg (by omega),if_neg (by omega)]]
  rw[ih];by_cases h:∃q,(b::A).getLast? = some q∧cmpR p q=0
  ·rw[if_pos h,if_pos h]
  ·rw[if_neg h,if_neg h];rfl
theorem put_eq {n:Nat}{p:Ra}{L:List Ra}(hn:n≤3)(hp:FineR n p)(hf:∀q∈L,FineR n q)(hs:SortR L)(hl:L.length≤100000):s_l6Put L p=some (insR p L):=by
 obtain⟨y,e,hy⟩:=iter_run (step:=s_l6Put_s2 p) (fun t=>t.1=L∧0≤t.2∧t.2≤L.length∧∀q∈L.drop t.2.toNat,cmpR p q<0) (fun t=>t.2.toNat)
  (fun _ y=>y.1=L∧0≤y.2∧y.2≤L.length∧(∀q∈L.drop y.2.toNat,cmpR p q<0)∧∀q,(L.take y.2.toNat).getLast? = some q→0≤cmpR p q) (fun t ht=>by
  obtain⟨M,k⟩:=t;obtain⟨g1,g2,g3,g4⟩:=ht;simp only at g1 g2 g3 g4;subst g1;obtain⟨k,rfl⟩:=Int.eq_ofNat_of_zero_le g2;simp only[Int.toNat_natCast]at g4 ⊢;unfold s_l6Put_s2;simp only;by_cases hk:0<k
  ·obtain⟨j,rfl⟩:∃j,k=j+1:=⟨k-1,by omega⟩
   have wj:IntKind.i64.wrap (((j+1:Nat):Int)-1)=(j:Int):=by rw[wrap_small (by omega) (by omega)];omega
   have hj:M[j]? = some (M[j]'(by omega)):=List.getElem?_eq_getElem _
   rw[show decide (((j+1:Nat):Int)>0)=true from decide_eq_true (by omega),cond_true,wj,inIdx_nat (by omega),Option.bind_some,Int.toNat_natCast,idx_some hj,Option.bind_some,compare_eq hn hp (hf _ (List.getElem_mem _)),Option.bind_some]
   by_cases hc:cmpR p (M[j]'(by omega))<0
   ·right;rw[decide_eq_true hc,cond_true];refine⟨_,rfl,⟨rfl,by simp only;omega,by simp only;omega,fun q hq=>?_⟩,by simp only;omega,fun y hy=>hy⟩
    simp only[Int.toNat_natCast]at hq;rw[List.drop_eq_getElem_cons (by omega:j<M.length)]at hq
    rcases List.mem_cons.1 hq with rfl | hq
    ·exact hc
    ·exact g4 q hq
   ·left;rw[decide_eq_false hc,cond_false];refine⟨_,rfl,rfl,by simp only;omega,by simp only;omega,by simpa using g4,fun q hq=>?_⟩
    simp only[Int.toNat_natCast]at hq;rw[List.take_add_one,hj,Option.toList_some,List.getLast?_concat,Option.some.injEq]at hq;subst hq;omega
  ·left;have:k=0:=by omega
   subst this;rw[show decide (((0:Nat):Int)>0)=false from rfl,cond_false]
   refine⟨_,rfl,rfl,by simp only;omega,by simp only;omega,by simpa using g4,fun q hq=>by simp at hq⟩) (L,(L.length:Int)) ⟨rfl,by simp only;omega,by simp only;omega,fun q hq=>by simp at hq⟩
 obtain⟨M,k⟩:=y;obtain⟨g1,g2,g3,g4,g5⟩:=hy;simp only at g1 g2 g3 g4 g5;subst g1;obtain⟨k,rfl⟩:=Int.eq_ofNat_of_zero_le g2;simp only[Int.toNat_natCast]at g4 g5;have hat:=insR_at hp (M.take k) (M.drop k) (fun q hq=>hf q (List.mem_of_mem_take hq)) g4 (List.Pairwise.sublist (List.take_sublist _ _) hs) g5;rw[List.take_append_drop]at hat;have tail:((subl M (k:Int) (M.length:Int)).bind fun v7=>(subl M (((k:Int)).toNat:Int) (((M.length:Int)).toNat:Int)).bind fun v8=>(appD 32 ([]:List Ra) v8).bind fun v9=>(subl M 0 (k:Int)).bind fun v10=>(appD 32 v10 ([(p.1,p.2)]:List Ra)).bind fun v11=>(appD 32 v11 v9).bind fun v12=>some v12)=some (M.take k++p::M.drop k):=by
  have h1:subl M (k:Int) (M.length:Int)=some (M.drop k):=by rw[subl_nat (by omega) (by omega),List.take_length]
  rw[Int.toNat_natCast,Int.toNat_natCast,h1];simp only[Option.bind_some];rw[appD_some (by rw[lim_eq];simp;omega) (by rw[lim_eq];simp;omega)]
  simp only[Option.bind_some,List.nil_append];have h2:subl M 0 (k:Int)=some (M.take k):=by
   have:=subl_nat (xs:=M) (a:=0) (b:=k) (by omega) (by omega)
   simpa using this
  rw[h2,Option.bind_some,appD_some (by rw[lim_eq];simp;omega) (by rw[lim_eq];simp;omega),Option.bind_some,appD_some (by rw[lim_eq];simp;omega) (by rw[lim_eq];simp;omega)]
  simp
 unfold s_l6Put;rw[e,Option.bind_some];simp only;by_cases hk:0<k
 ·obtain⟨j,rfl⟩:∃j,k=j+1:=⟨k-1,by omega⟩
  have wj:IntKind.i64.wrap (((j+1:Nat):Int)-1)=(j:Int):=by rw[wrap_small (by omega) (by omega)];omega
  have hj:M[j]? = some (M[j]'(by omega)):=List.getElem?_eq_getElem _
  have hlast:(M.take (j+1)).getLast? = some (M[j]'(by omega)):=by rw[List.take_add_one,hj,Option.toList_some,List.getLast?_concat]
  rw[show decide (((j+1:Nat):Int)>0)=true from decide_eq_true (by omega),cond_true,wj,inIdx_nat (by omega),Option.bind_some,Int.toNat_natCast,idx_some hj,Option.bind_some,compare_eq hn hp (hf _ (List.getElem_mem _)),Option.bind_some]
  by_cases hc:cmpR p (M[j]'(by omega))=0
  ·rw[show(cmpR p (M[j]'(by omega))==0)=true from by simpa using hc,cond_true,hat,if_pos ⟨_,hlast,hc⟩]
  ·rw[show(cmpR p (M[j]'(by omega))==0)=false from by simpa using hc,cond_false,tail,hat,if_neg]
   rintro⟨q,h1,h2⟩
   rw[hlast]at h1;simp only[Option.some.injEq]at h1;subst h1;exact hc h2
 ·have:k=0:=by omega
  subst this;rw[show decide (((0:Nat):Int)>0)=false from rfl,cond_false,tail,hat,if_neg]
  simp
def subs {α:Type}:Nat→List α→List (List α)
 | 0,_=>[[]]
 | _+1,[]=>[]
 | m+1,x::xs=>(subs m xs).map (x::·)++subs (m+1) xs
theorem subs_mem {α:Type}:∀{m:Nat} {L X:List α},X∈subs m L→X.length=m∧∀x∈X,x∈L
 | 0,_,X,h=>by simp[subs]at h;subst h;simp
 | _+1,[],X,h=>by simp[subs]at h
 | m+1,y::L,X,h=>by
  rw[subs]at h;rcases List.mem_append.1 h with h | h
  ·obtain⟨Y,hY,rfl⟩:=List.mem_map.1 h;obtain⟨h1,h2⟩:=subs_mem hY;refine⟨by simp[h1],fun x hx=>?_⟩
   rcases List.mem_cons.1 hx with rfl | hx
   ·simp
   ·exact List.mem_cons_of_mem _ (h2 x hx)
  ·obtain⟨h1,h2⟩:=subs_mem h;exact⟨h1,fun x hx=>List.mem_cons_of_mem _ (h2 x hx)⟩
theorem subs_len {α:Type}:∀{m:Nat} {L:List α},(subs m L).length≤2 ^ L.length
 | 0,L=>by simp[subs];exact Nat.one_le_two_pow
 | _+1,[]=>by simp[subs]
 | m+1,y::L=>by
  have h1:=subs_len (m:=m) (L:=L);have h2:=subs_len (m:=m+1) (L:=L);simp only[subs,List.length_append,List.length_map,List.length_cons,Nat.pow_succ];omega
def stepR (r:Rg)(n:Nat)(out:List Ra)(X:List Hf):List Ra :=
 if(solveL X n).2&&hasRat r (solveL X n).1 then insR (solveL X n).1 out else out
structure OutOk (n:Nat) (L:List Ra):Prop where
 fine:∀q∈L,FineR n q
 sort:SortR L
theorem RegOk.sys {r:Rg}{n:Nat}(h:RegOk r n){X:List Hf}(hl:X.length=n)(hX:∀x∈X,x∈r.2):Sys n X :=
 ⟨h.lo,h.hi,hl,fun x hx=>by
  obtain⟨a,b,c,d,_⟩:=h.halves x (hX x hx);exact⟨a,fun y hy=>by have:=b y hy;unfold B3;omega,by unfold B3;omega⟩⟩
theorem solveL_len {n:Nat}{X:List Hf}(h:(solveL X n).2=true):(solveL X n).1.1.length=n:=by
 unfold solveL at h ⊢;split
 ·rename_i h0;rw[if_pos h0]at h;simp at h
 ·split<;>simp[numsL]
theorem hasRat_fine {r:Rg}{n:Nat}{p:Ra}(h:RegOk r n)(hp:hasRat r p=true):FineR n p:=by
 unfold hasRat at hp;simp only[Bool.and_eq_true,beq_iff_eq]at hp;exact fineR_of hp.1.1.2 (by have:=h.dim;omega)
theorem stepR_ok {r:Rg}{n:Nat}(h:RegOk r n){out:List Ra}(ho:OutOk n out)(X:List Hf):OutOk n (stepR r n out X)∧(stepR r n out X).length≤out.length+1:=by
 unfold stepR;split
 ·rename_i hc;simp only[Bool.and_eq_true]at hc;have hf:=hasRat_fine h hc.2;refine⟨⟨fun q hq=>?_,insR_sort hf ho.fine ho.sort⟩,insR_len⟩;rcases insR_mem hq with rfl | hq
  ·exact hf
  ·exact ho.fine q hq
 ·exact⟨ho,by omega⟩
theorem foldR_ok {r:Rg}{n:Nat}(h:RegOk r n):∀(S:List (List Hf)) {out:List Ra},OutOk n out→OutOk n (S.foldl (stepR r n) out)∧(S.foldl (stepR r n) out).length≤out.length+S.length
 | [],out,ho=>⟨ho,by simp⟩
 | X::S,out,ho=>by
  obtain⟨h1,h2⟩:=stepR_ok h ho X;obtain⟨h3,h4⟩:=foldR_ok h S h1;exact⟨h3,by simp only[List.foldl_cons,List.length_cons];omega⟩
theorem choose_eq {r:Rg} {n:Nat} (hr:regB r = true) (h:RegOk r n):∀ (m fuel:Nat) (k:Nat) (X:List Hf) (out:List Ra),m + X.length = n→(∀ x∈X,x∈r.2)→k≤r.2.length→OutOk n out→out.length + (subs m (r.2.drop k)).length≤50000 →
  s_l6ChooseR (fuel+m+1) r (k:Int) X out=some ((subs m (r.2.drop k)).foldl (fun o Y=>stepR r n o (X++Y)) out):=by
 have hlim:r.2.length≤lim:=by have:=h.len;rw[lim_eq];omega
 have hhl:∀q∈r.2,q.1.length≤lim:=fun q hq=>by have:=(h.halves q hq).1;have:=h.hi;rw[lim_eq];omega
 have hdim:=h.dim;have hhi:=h.hi;intro m;induction m with
 | zero =>
  intro fuel k X out hm hX hk ho hb;show s_l6ChooseB (s_l6ChooseR (fuel+0)) r (k:Int) X out=_;unfold s_l6ChooseB;rw[show((X.length:Int)==r.1)=true from by simp;omega,cond_true,solve_eq (h.sys (by omega) hX),Option.bind_some]
  have:subs 0 (r.2.drop k)=[[]]:=by simp[subs]
  rw[this];simp only[List.foldl_cons,List.foldl_nil,List.append_nil];unfold stepR;cases hb2:(solveL X n).2 with
  | false=>simp only[cond_false,Bool.false_and];rfl
  | true =>
   have hl:=solveL_len hb2;rw[cond_true,hasRatS_eq (r:=(r.1,r.2)) (p:=((solveL X n).1.1,(solveL X n).1.2)) hlim hhl (by rw[lim_eq];simp only;omega),Option.bind_some]
   cases hc:hasRat r (solveL X n).1 with
   | false =>
    rfl
   | true =>
    have:=put_eq (p:=((solveL X n).1.1,(solveL X n).1.2)) h.hi (hasRat_fine h hc) ho.fine ho.sort (by simp only[this,List.length_singleton]at hb;omega)
    rw[cond_true,this];rfl
 | succ m ih =>
  intro fuel k X out hm hX hk ho hb;show s_l6ChooseB (s_l6ChooseR (fuel+(m+1))) r (k:Int) X out=_;unfold s_l6ChooseB;rw[show((X.length:Int)==r.1)=false from by simp;omega,cond_false]
  have key:∀ (L:List Hf) (k:Nat) (out:List Ra),r.2.drop k = L→k≤r.2.length→OutOk n out→out.length + (subs (m + 1) L).length≤50000 →
    iter (s_l6Choose_s7 (s_l6ChooseR (fuel+(m+1))) r X) (out,(k:Int))=some ((subs (m+1) L).foldl (fun o Y=>stepR r n o (X++Y)) out):=by
   intro L;induction L with
   | nil =>
    intro k out hL hk ho hb;have hk':r.2.length≤k:=List.drop_eq_nil_iff.1 hL;refine iter_end ?_;unfold s_l6Choose_s7;simp only;rw[show decide ((k:Int)<(r.2.length:Int))=false from by simp;omega,cond_false]
    simp[subs]
   | cons x L ihL =>
    intro k out hL hk ho hb;have hlt:k<r.2.length:=by
     apply Decidable.byContradiction;intro hn
     rw[List.drop_eq_nil_of_le (by omega)]at hL
     simp at hL
    rw[List.drop_eq_getElem_cons hlt]at hL;simp only[List.cons.injEq]at hL;obtain⟨hx,hL⟩:=hL;have hg:r.2[k]? = some x:=by rw[List.getElem?_eq_getElem hlt,hx]
    have hlen:=h.len;simp only[subs,List.length_append,List.length_map]at hb;have hrec:=ih fuel (k+1) (X++[x]) out (by simp;omega) (fun y hy=>by
     rcases List.mem_append.1 hy with hy | hy
     ·exact hX y hy
     ·simp only[List.mem_singleton]at hy;subst hy;rw[←hx];exact List.getElem_mem _) (by omega) ho (by rw[hL];omega)
    rw[hL]at hrec;have hf:=foldR_ok h ((subs m L).map fun Y=>X++[x]++Y) ho;rw[List.foldl_map]at hf;simp only[List.length_map]at hf;have st:s_l6Choose_s7 (s_l6ChooseR (fuel+(m+1))) r X (out,(k:Int))=some (.inl ((subs m L).foldl (fun o Y=>stepR r n o (X++[x]++Y)) out,((k+1:Nat):Int))):=by
     unfold s_l6Choose_s7;simp only;rw[show decide ((k:Int)<(r.2.length:Int))=true from by simp;omega,cond_true,appD_some (by rw[lim_eq];simp;omega) (by rw[lim_eq];simp;omega),Option.bind_some,idx_some hg,Option.bind_some,List.nil_append,appD_some (by rw[lim_eq];simp;omega) (by rw[lim_eq];simp;omega),Option.bind_some,wrap_small (by omega) (by omega)]
     rw[show fuel+(m+1)=fuel+m+1 from rfl]
     have e1:((k:Int)+1)=((k+1:Nat):Int):=by omega
     rw[e1];have hrec':s_l6ChooseR (fuel+m+1) (r.1,r.2) ((k+1:Nat):Int) (X++[(x.1,x.2)]) out=some ((subs m L).foldl (fun o Y=>stepR r n o (X++[x]++Y)) out):=hrec;rw[hrec'];rfl
    rw[iter_next st,ihL (k+1) _ hL (by omega) hf.1 (by omega)]
    rw[subs,List.foldl_append,List.foldl_map];simp only[List.append_assoc,List.singleton_append]
  rw[key _ k out rfl hk ho hb];rfl
def vertS (r:Rg):List Ra:=if regB r then(subs r.1.toNat r.2).foldl (stepR r r.1.toNat) []else []
theorem vertS_eq {r:Rg}(hl:r.2.length≤lim)(hh:∀h∈r.2,h.1.length≤lim):s_VerticesOf r=some (vertS r):=by
 unfold s_VerticesOf vertS;rw[s_IsRegion_eq (r:=(r.1,r.2)) hl hh,Option.bind_some];cases hr:regB r with
 | false=>rfl
 | true =>
  obtain⟨n,h⟩:=regOk hr;have hn:r.1.toNat=n:=by have:=h.dim;omega
  rw[Bool.not_true,cond_false,if_pos rfl,hn];have hs:=subs_len (m:=n) (L:=r.2);have hp:2 ^ r.2.length≤2 ^ 8:=Nat.pow_le_pow_right (by omega) h.len
  have hhi:=h.hi;have:=choose_eq hr h n (29999-n) 0 [] [] (by simp) (by simp) (by omega) ⟨by simp,by simp[SortR]⟩ (by simp only[List.drop_zero,List.length_nil];omega)
  rw[show 29999-n+n+1=30000 from by omega]at this
  simp only[List.drop_zero,List.nil_append]at this;have e:s_l6Choose (r.1,r.2) 0 [] []=some ((subs n r.2).foldl (stepR r n) []):=this;rw[e];rfl
theorem vertS_ok {r:Rg}:∃n,n≤3∧OutOk n (vertS r)∧(vertS r).length≤256:=by
 unfold vertS;split
 ·rename_i hr;obtain⟨n,h⟩:=regOk hr;have hn:r.1.toNat=n:=by have:=h.dim;omega
  rw[hn];have hs:=subs_len (m:=n) (L:=r.2);have hp:2 ^ r.2.length≤2 ^ 8:=Nat.pow_le_pow_right (by omega) h.len
  obtain⟨h1,h2⟩:=foldR_ok h (subs n r.2) (out:=[]) ⟨by simp,by simp[SortR]⟩
  exact⟨n,h.hi,h1,by simp only[List.length_nil]at h2;omega⟩
 ·exact⟨0,by omega,⟨by simp,by simp[SortR]⟩,by simp⟩
end Go.Proofs.YtfknaeamhcpfgaaGreat
