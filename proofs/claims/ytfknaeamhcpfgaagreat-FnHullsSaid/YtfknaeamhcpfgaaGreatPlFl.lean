/-
  Texts put together: PlHu, PlFh, PlFl. No condition.
-/
import Derived.Test.YtfknaeamhcpfgaaGreatPlVx
import Derived.Test.YtfknaeamhcpfgaaGreatPlTi
import Derived.Test.YtfknaeamhcpfgaaGreatPlRg
import Derived.Test.YtfknaeamhcpfgaaGreatPlBc
import Derived.Test.YtfknaeamhcpfgaaGreatPlHd
import Derived.Test.YtfknaeamhcpfgaaGreatPlHp
namespace Go.Proofs.YtfknaeamhcpfgaaGreat
open Go Go.Proofs.YtfknaeamhcpfgaaGreat.Eng
set_option linter.all false
open Hull (Pt Pol tn lx at_ at_some at_of at_mem Asc)
theorem corner_pos {P:List Pt}(h:Pol P){k:Nat}(hk:k<P.length):0<tn (at_ P (pv P k)) (at_ P k) (nx P k):=by
 have h3:=h.len;have hp:pv P k<P.length:=Nat.mod_lt _ (by omega)
 have hc:=(Hull.pol_chk h3).1 h (pv P k) hp;unfold Hull.chk at hc;simp only[Bool.and_eq_true,decide_eq_true_eq]at hc;have ht:=hc.1;have e1:at_ P ((pv P k+1) % P.length)=at_ P k:=nx_pv hk;have e2:at_ P ((pv P k+2) % P.length)=nx P k:=by
  unfold nx pv;rw[Nat.mod_add_mod,show k+P.length-1+2=(k+1)+P.length by omega,Nat.add_mod_right]
 rw[e1,e2]at ht;exact ht
theorem cone_dt (u p n y a:Pt):tn u p n*(dt a y-dt a p)=tn u p y*(dt a n-dt a p)+tn p n y*(dt a u-dt a p):=by
 unfold tn dt;grind
theorem cone_1 (u p n y:Pt):tn u p n*(y.1-p.1)=tn u p y*(n.1-p.1)+tn p n y*(u.1-p.1):=by
 unfold tn;grind
theorem cone_2 (u p n y:Pt):tn u p n*(y.2-p.2)=tn u p y*(n.2-p.2)+tn p n y*(u.2-p.2):=by
 unfold tn;grind
theorem neg_of_mul {a b:Int}(ha:0<a)(h:a*b<0):b<0:=by
 rcases Int.lt_or_le b 0 with h' | h'
 ·exact h'
 ·have:=Int.mul_nonneg (Int.le_of_lt ha) h';omega
theorem zero_of_mul {a b:Int}(ha:0<a)(h:a*b=0):b=0:=by
 rcases Int.mul_eq_zero.1 h with h | h
 ·omega
 ·exact h
theorem vert_in {P:List Pt}(h:Pol P){q a:Pt}(hq:q∈P)(ha:∀r∈P,r≠q→dt a r<dt a q){y:Pt}(hy:inP P y)(hne:y≠q):dt a y<dt a q:=by
 have h3:=h.len;obtain⟨k,hk,ek⟩:=List.mem_iff_getElem.1 hq;have ek:at_ P k=q:=at_of (by rw[List.getElem?_eq_getElem hk,ek])
 have hp:pv P k<P.length:=Nat.mod_lt _ (by omega)
 have hD:=corner_pos h hk;have f1:0≤tn (at_ P (pv P k)) (at_ P k) y:=by
  have:=hy (pv P k) hp;unfold sd at this;rw[show at_ P ((pv P k+1) % P.length)=at_ P k from nx_pv hk]at this
  exact this
 have f2:0≤tn (at_ P k) (nx P k) y:=hy k hk;have mu:at_ P (pv P k)∈P:=at_mem hp;have mn':nx P k∈P:=nx_mem (by omega) k
 have nu:at_ P (pv P k)≠at_ P k:=fun e=>by rw[e]at hD;unfold tn at hD;grind
 have nn:nx P k≠at_ P k:=fun e=>by rw[e]at hD;unfold tn at hD;grind
 subst ek;have g1:=ha _ mu nu;have g2:=ha _ mn' nn;have c:=cone_dt (at_ P (pv P k)) (at_ P k) (nx P k) y a;have c1:=cone_1 (at_ P (pv P k)) (at_ P k) (nx P k) y;have c2:=cone_2 (at_ P (pv P k)) (at_ P k) (nx P k) y;generalize tn (at_ P (pv P k)) (at_ P k) (nx P k)=D at *;generalize tn (at_ P (pv P k)) (at_ P k) y=A at *;generalize tn (at_ P k) (nx P k) y=B at *;generalize hu:dt a (at_ P (pv P k))-dt a (at_ P k)=u at *;generalize hn:dt a (nx P k)-dt a (at_ P k)=n at *;have hu0:u<0:=by omega
 have hn0:n<0:=by omega
 have hA:A*n≤0:=Int.mul_nonpos_of_nonneg_of_nonpos f1 (by omega)
 have hB:B*u≤0:=Int.mul_nonpos_of_nonneg_of_nonpos f2 (by omega)
 have:D*(dt a y-dt a (at_ P k))<0:=by
  rcases Int.lt_or_le 0 A with hA' | hA'
  ·have:=Int.mul_neg_of_pos_of_neg hA' hn0;omega
  ·rcases Int.lt_or_le 0 B with hB' | hB'
   ·have:=Int.mul_neg_of_pos_of_neg hB' hu0;omega
   ·have eA:A=0:=by omega
    have eB:B=0:=by omega
    subst eA;subst eB;have z1:=zero_of_mul hD (by rw[c1];simp)
    have z2:=zero_of_mul hD (by rw[c2];simp)
    exact absurd (Prod.ext (by omega) (by omega)) hne
 have:=neg_of_mul hD this;omega
theorem hull_all {P S:List Pt}(h:Pol P)(hB:∀q∈P,Bd 400 q)(hs:Asc S)(hP:∀q∈P,q∈S)(hS:∀s∈S,inP P s)(hBS:∀s∈S,Bd 400 s):3≤(Hull.hull S).length∧Hull.hull S=P:=by
 have h3:=h.len;have hm:∀j,j % P.length<P.length:=fun j=>Nat.mod_lt _ (by omega)
 have hc:=(Hull.pol_chk h3).1 h 0 (by omega)
 unfold Hull.chk at hc;simp only[Bool.and_eq_true,decide_eq_true_eq]at hc;have ht:=hc.1;have hl:3≤(Hull.hull S).length:=hull_three hs (hP _ (at_mem (by omega:0<P.length))) (hP _ (at_mem (hm (0+1)))) (hP _ (at_mem (hm (0+2)))) (by omega)
 have hH:=Hull.pol_hull hs hl;have hHB:∀q∈Hull.hull S,Bd 400 q:=fun q hq=>hBS q (hull_sub hq);have a1:∀q∈P,q∈Hull.hull S:=fun q hq=>by
  obtain⟨a,ha⟩:=vert h hB hq;exact vert_mem hs hl (hP q hq) fun r hr hne=>vert_in h hq ha (hS r hr) hne
 have a2:∀q∈Hull.hull S,q∈P:=fun q hq=>by
  obtain⟨a,ha⟩:=vert hH hHB hq;obtain⟨_,p,hp,e⟩:=sup_spec (P:=P) (by omega) a
  have hi:=in_sup h3 h a (hS q (hull_sub hq));by_cases he:p=q
  ·exact he▸hp
  ·have:=ha p (a1 p hp) he;omega
 obtain⟨s1,s2⟩:=Hull.sorted_spec P;have e1:=Hull.hull_pol h s1 s2;have e2:=Hull.hull_pol hH s1 fun y=>by rw[s2];exact⟨a1 y,a2 y⟩
 exact⟨hl,by rw[←e2];exact e1⟩
theorem idA {a1 a2 b1 b2 w1 w2:Int}(h:b1*w2-b2*w1=0):(a1*b2-a2*b1)*w1=(a1*w2-a2*w1)*b1:=by
 have:(a1*b2-a2*b1)*w1-(a1*w2-a2*w1)*b1=-a1*(b1*w2-b2*w1):=by grind
 rw[h]at this;omega
theorem idB {a1 a2 b1 b2 w1 w2:Int}(h:b1*w2-b2*w1=0):(a1*b2-a2*b1)*w2=(a1*w2-a2*w1)*b2:=by
 have:(a1*b2-a2*b1)*w2-(a1*w2-a2*w1)*b2=-a2*(b1*w2-b2*w1):=by grind
 rw[h]at this;omega
theorem idC (a1 a2 u1 u2 x y d:Int):a1*(y-d*(u2+a2))-a2*(x-d*(u1+a1))=a1*(y-d*u2)-a2*(x-d*u1):=by grind
theorem idD {D T d b1 b2 w1 w2 e1 e2:Int}(h1:D*w1=T*b1)(h2:D*w2=T*b2):D*(e1*(w2-d*b2)-e2*(w1-d*b1))=(D*d-T)*(b1*e2-b2*e1):=by
 have:D*(e1*(w2-d*b2)-e2*(w1-d*b1))=e1*(D*w2)-e2*(D*w1)-D*d*(e1*b2-e2*b1):=by grind
 rw[this,h1,h2];grind
theorem idE {D T d b1 b2 w1 w2 g1 g2 f:Int}(h1:D*w1=T*b1)(h2:D*w2=T*b2)(h:g1*w2-g2*w1+d*f=0):T*(g1*b2-g2*b1)+D*d*f=0:=by
 have:D*(g1*w2-g2*w1+d*f)=g1*(D*w2)-g2*(D*w1)+D*d*f:=by grind
 rw[h,h1,h2]at this;rw[show T*(g1*b2-g2*b1)+D*d*f=g1*(T*b2)-g2*(T*b1)+D*d*f from by grind]
 omega
theorem vert_core {p1 p2 u1 u2 n1 n2 s1 s2 j1 j2 k1 k2 x y d:Int} (hd:0 < d)
  (D1:0<(p1-u1)*(n2-p2)-(p2-u2)*(n1-p1))
  (D2:0<(n1-p1)*(s2-n2)-(n2-p2)*(s1-n1))
  (F0:(n1-p1)*(y-d*p2)-(n2-p2)*(x-d*p1)=0)
  (F1:0≤(p1-u1)*(y-d*u2)-(p2-u2)*(x-d*u1))
  (F2:0≤(s1-n1)*(y-d*n2)-(s2-n2)*(x-d*n1))
  (Fj:(k1-j1)*(y-d*j2)-(k2-j2)*(x-d*j1)=0)
  (f1:0≤(k1-j1)*(p2-j2)-(k2-j2)*(p1-j1))
  (f2:0≤(k1-j1)*(n2-j2)-(k2-j2)*(n1-j1))
  (hc:(k1-j1)*(n2-p2)-(k2-j2)*(n1-p1)≠0):(x=d*p1∧y=d*p2)∨(x=d*n1∧y=d*n2):=by
 have w1:=idA (a1:=p1-u1) (a2:=p2-u2) F0;have w2:=idB (a1:=p1-u1) (a2:=p2-u2) F0;have T0:0≤(p1-u1)*(y-d*p2)-(p2-u2)*(x-d*p1):=by
  have:=idC (p1-u1) (p2-u2) u1 u2 x y d;rw[show u2+(p2-u2)=p2 by omega,show u1+(p1-u1)=p1 by omega]at this
  omega
 have Ex:x-d*n1=(x-d*p1)-d*(n1-p1):=by rw[Int.mul_sub];omega
 have Ey:y-d*n2=(y-d*p2)-d*(n2-p2):=by rw[Int.mul_sub];omega
 have hf3:(k1-j1)*(n2-j2)-(k2-j2)*(n1-j1)=((k1-j1)*(p2-j2)-(k2-j2)*(p1-j1))+((k1-j1)*(n2-p2)-(k2-j2)*(n1-p1)):=by
  rw[show n2-j2=(p2-j2)+(n2-p2) by omega,show n1-j1=(p1-j1)+(n1-p1) by omega,Int.mul_add,Int.mul_add];omega
 have hFj:(k1-j1)*(y-d*p2)-(k2-j2)*(x-d*p1)+d*((k1-j1)*(p2-j2)-(k2-j2)*(p1-j1))=0:=by
  rw[←Fj];generalize k1-j1=a;generalize k2-j2=b;clear w1 w2 T0 Ex Ey hf3 hc f1 f2 Fj F1 F2 F0 D1 D2 hd;grind
 rw[Ex,Ey]at F2;rw[hf3]at f2;generalize hD:(p1-u1)*(n2-p2)-(p2-u2)*(n1-p1)=D at *;generalize hT:(p1-u1)*(y-d*p2)-(p2-u2)*(x-d*p1)=T at *;generalize hff:(k1-j1)*(p2-j2)-(k2-j2)*(p1-j1)=f at *;have e:=idD (d:=d) (e1:=s1-n1) (e2:=s2-n2) w1 w2;have key:=idE w1 w2 hFj;generalize hE:(n1-p1)*(s2-n2)-(n2-p2)*(s1-n1)=E at *;generalize hcc:(k1-j1)*(n2-p2)-(k2-j2)*(n1-p1)=c at *;have T1:T≤D*d:=by
  have:=Int.mul_nonneg (Int.le_of_lt D1) F2;rw[e]at this;rcases Int.lt_or_le (D*d-T) 0 with h | h
  ·have:=Int.mul_neg_of_neg_of_pos h D2;omega
  ·omega
 have Dd:0<D*d:=Int.mul_pos D1 hd;rcases Int.lt_or_le 0 c with hp | hn
 ·
  have h1:=Int.mul_nonneg T0 (Int.le_of_lt hp);have h2:=Int.mul_nonneg (Int.le_of_lt Dd) f1;have hT0:T=0:=by
   have:T*c=0:=by omega
   rcases Int.mul_eq_zero.1 this with h | h
   ·exact h
   ·omega
  rw[hT0,Int.zero_mul]at w1 w2;have z1:=zero_of_mul D1 w1;have z2:=zero_of_mul D1 w2;exact .inl ⟨by omega,by omega⟩
 ·
  have hn:c<0:=by omega
  have hT1:T=D*d:=by
   have e1:D*d*(f+c)=(D*d-T)*c:=by
    rw[Int.mul_add,Int.sub_mul];omega
   have h1:=Int.mul_nonneg (Int.le_of_lt Dd) f2;rcases Int.lt_or_le 0 (D*d-T)with h | h
   ·have:=Int.mul_neg_of_pos_of_neg h hn;omega
   ·omega
  rw[hT1,Int.mul_assoc]at w1 w2;have z1:=zero_of_mul D1 (b:=x-d*p1-d*(n1-p1)) (by rw[Int.mul_sub,w1];omega)
  have z2:=zero_of_mul D1 (b:=y-d*p2-d*(n2-p2)) (by rw[Int.mul_sub,w2];omega)
  exact .inr ⟨by omega,by omega⟩
theorem vtn (u p n:Pt):(p.1-u.1)*(n.2-u.2)-(p.2-u.2)*(n.1-u.1)=(p.1-u.1)*(n.2-p.2)-(p.2-u.2)*(n.1-p.1):=by grind
def sdH (P:List Pt)(x y d:Int)(k:Nat):Int:=((nx P k).1-(at_ P k).1)*(y-d*(at_ P k).2)-((nx P k).2-(at_ P k).2)*(x-d*(at_ P k).1)
theorem nxnx {P:List Pt}(hP:0<P.length)(k:Nat):nx P ((k+1) % P.length)=at_ P ((k+2) % P.length):=by
 unfold nx;rw[Nat.mod_add_mod]
theorem vert_pol {P:List Pt} (h:Pol P) {x y d:Int} (hd:0 < d) (hF:∀ k,k < P.length→0≤sdH P x y d k) {i j:Nat} (hi:i < P.length) (hj:j < P.length) (Fi:sdH P x y d i = 0) (Fj:sdH P x y d j = 0)
  (hc:((nx P j).1-(at_ P j).1)*((nx P i).2-(at_ P i).2)-((nx P j).2-(at_ P j).2)*((nx P i).1-(at_ P i).1)≠0):∃v∈P,x=d*v.1∧y=d*v.2:=by
 have h3:=h.len;have hm:∀j,j % P.length<P.length:=fun j=>Nat.mod_lt _ (by omega)
 have hp:pv P i<P.length:=hm _;have c1:=corner_pos h hi;have hc2:=(Hull.pol_chk h3).1 h i hi;unfold Hull.chk at hc2;simp only[Bool.and_eq_true,decide_eq_true_eq]at hc2;have c2:=hc2.1;have g1:=hF (pv P i) hp;have g2:=hF ((i+1) % P.length) (hm _);have m1:=mem_in h (at_mem hi) j hj;have m2:=mem_in h (nx_mem (by omega:0<P.length) i) j hj
 unfold sdH at g1 g2 Fi Fj;rw[nx_pv hi]at g1;rw[nxnx (by omega)]at g2
 have e:at_ P ((i+1) % P.length)=nx P i:=rfl;rw[e]at c2 g2;unfold sd at m1 m2;have e':at_ P ((j+1) % P.length)=nx P j:=rfl;rw[e']at m1 m2;unfold tn at c1 c2 m1 m2;rcases vert_core (p1:=(at_ P i).1) (p2:=(at_ P i).2) (u1:=(at_ P (pv P i)).1) (u2:=(at_ P (pv P i)).2) (n1:=(nx P i).1) (n2:=(nx P i).2) (s1:=(at_ P ((i + 2) % P.length)).1) (s2:=(at_ P ((i + 2) % P.length)).2)
   (j1:=(at_ P j).1) (j2:=(at_ P j).2) (k1:=(nx P j).1) (k2:=(nx P j).2) (x:=x) (y:=y) (d:=d) hd
   (by have:=vtn (at_ P (pv P i)) (at_ P i) (nx P i);omega) (by have:=vtn (at_ P i) (nx P i) (at_ P ((i+2) % P.length));omega) Fi g1 g2 Fj m1 m2 hc with h | h
 ·exact⟨_,at_mem hi,h⟩
 ·exact⟨_,nx_mem (by omega) i,h⟩
open Go Go.Proofs.YtfknaeamhcpfgaaGreat.Eng
set_option linter.all false
open Hull (Pt Pol tn lx at_ at_some at_of at_mem Asc)
theorem side_at {P:List Pt}(h:Pol P){k:Nat}(hk:k<P.length):∃g l m:Int,0<g∧sideH P k=([m,-l],m*(at_ P k).1+-l*(at_ P k).2)∧(nx P k).1-(at_ P k).1=g*l∧(nx P k).2-(at_ P k).2=g*m:=by
 have hg:=gcd_pos_side h hk;refine⟨gcdP (at_ P k) (nx P k),(prm (sbp (nx P k) (at_ P k))).1,(prm (sbp (nx P k) (at_ P k))).2,hg,rfl,?_,?_⟩
 ·unfold prm sbp gcdP;exact(Int.mul_tdiv_cancel' (Int.gcd_dvd_left ..)).symm
 ·unfold prm sbp gcdP;exact(Int.mul_tdiv_cancel' (Int.gcd_dvd_right ..)).symm
theorem dtL_two (a b x y:Int):dtL [a,b] [x,y]=a*x+b*y:=by
 show 0+a*x+b*y=_;omega
theorem side_dtL {P:List Pt}(h:Pol P){k:Nat}(hk:k<P.length)(x y d:Int):∃g:Int,0<g∧g*((sideH P k).2*d-dtL (sideH P k).1 [x,y])=sdH P x y d k:=by
 obtain⟨g,l,m,hg,e,e1,e2⟩:=side_at h hk;refine⟨g,hg,?_⟩;rw[e];unfold sdH;rw[e1,e2];simp only;rw[dtL_two];grind
theorem region_ok {p:List (List Int)}(hr:(regionL p).2=true):isPoly p=true∧(regionL p).1=(2,(List.range p.length).map (sideH (p.map toP)))∧regB (regionL p).1=true:=by
 unfold regionL at hr ⊢;split at hr
 ·rename_i hc;rw[if_pos hc];simp only[Bool.and_eq_true]at hc;have h1:isPoly p=true∧(halvesL p).1=(List.range p.length).map (sideH (p.map toP)):=by
   have h2:=hc.1;unfold halvesL at h2 ⊢;split at h2
   ·rename_i hp;refine⟨hp,?_⟩;rw[if_pos hp];split at h2
    ·rename_i a ha;have:=hvB_end _ _ _ _ ha;simpa using this
    ·rename_i b hb;have:=hvB_end2 _ _ _ _ hb;rw[this]at h2;cases h2
   ·cases h2
  exact⟨h1.1,by rw[h1.2],hc.2⟩
 ·cases hr
theorem inP_iff {P:List Pt}(h:Pol P)(q:Pt):(∀k,k<P.length→dtL (sideH P k).1 (em q)≤(sideH P k).2)↔inP P q:=by
 have key:∀k,k<P.length→∃g:Int,0<g∧g*((sideH P k).2-dtL (sideH P k).1 (em q))=sd P q k:=fun k hk=>by
  obtain⟨g,hg,e⟩:=side_dtL h hk q.1 q.2 1;refine⟨g,hg,?_⟩;have e2:sdH P q.1 q.2 1 k=sd P q k:=by
   show _=tn (at_ P k) (nx P k) q;unfold sdH tn;simp only[Int.one_mul]
  rw[←e2,←e,Int.mul_one];rfl
 constructor
 ·intro hh k hk;obtain⟨g,hg,e⟩:=key k hk;have:=hh k hk;rw[←e];exact Int.mul_nonneg (by omega) (by omega)
 ·intro hh k hk;obtain⟨g,hg,e⟩:=key k hk;have:=hh k hk;rw[←e]at this;rcases Int.lt_or_le (sideH P k).2 (dtL (sideH P k).1 (em q))with h' | h'
  ·have:=Int.mul_neg_of_pos_of_neg hg (show(sideH P k).2-dtL (sideH P k).1 (em q)<0 by omega);omega
  ·exact h'
theorem ptsL2_at {v:List Int}(hv:v∈ptsL 2):∃q:Pt,v=em q∧Bd 6 q:=by
 obtain⟨f1,_⟩:=pts_facts (n:=2) (by omega)
 obtain⟨h1,h2⟩:=f1 v hv;obtain⟨a,b,rfl⟩:=row_two h1;have ha:=h2 a (by simp)
 have hb:=h2 b (by simp)
 exact⟨(a,b),rfl,ha.1,ha.2,hb.1,hb.2⟩
theorem ptsL2_len:(ptsL 2).length=169:=by decide +kernel
theorem whole_reg {p:List (List Int)}(hr:(regionL p).2=true)(h6:∀v∈p,v.all (inR (-6) 6)=true):wholeS (regionL p).1=(p,true):=by
 obtain⟨hp,e,hb⟩:=region_ok hr;obtain⟨P,rfl,hB,g3,g12,hpol⟩:=poly_of hp;rw[map_toP,List.length_map]at e;unfold wholeS;rw[if_pos (by rw[hb,e];rfl)]
 generalize hS:(ptsL 2).filter (hasR (regionL (P.map em)).1)=L;have hL:∀v,v∈L↔∃q:Pt,v=em q∧Bd 6 q∧inP P q:=fun v=>by
  rw[←hS,List.mem_filter,e];constructor
  ·rintro⟨h1,h2⟩
   obtain⟨q,rfl,hq⟩:=ptsL2_at h1;refine⟨q,rfl,hq,(inP_iff hpol q).1 fun k hk=>?_⟩;unfold hasR at h2;rw[List.all_eq_true]at h2;have:=h2 (sideH P k) (List.mem_map_of_mem (List.mem_range.2 hk));simpa using this
  ·rintro⟨q,rfl,hq,hi⟩
   refine⟨pts2_mem rfl ?_,?_⟩
   ·obtain⟨a,b,c,d⟩:=hq;simp only[em,List.all_cons,List.all_nil,Bool.and_true,Bool.and_eq_true,inR_iff];omega
   ·unfold hasR;rw[List.all_eq_true];intro x hx;obtain⟨k,hk,rfl⟩:=List.mem_map.1 hx;have:=(inP_iff hpol q).2 hi k (List.mem_range.1 hk);simpa using this
 have hLl:L.length≤169:=by rw[←hS,←ptsL2_len];exact List.length_filter_le _ _
 have b6:∀q:Pt,q∈P→Bd 6 q:=fun q hq=>by
  have:=h6 (em q) (List.mem_map_of_mem hq);simp only[em,List.all_cons,List.all_nil,Bool.and_true,Bool.and_eq_true,inR_iff]at this;exact⟨this.1.1,this.1.2,this.2.1,this.2.2⟩
 have h50:L.all (isPt 50)=true:=by
  rw[List.all_eq_true];intro v hv;obtain⟨q,rfl,hq,_⟩:=(hL v).1 hv;exact isPt_of (hq.mono (by decide))
 obtain⟨sA,sm⟩:=Hull.sorted_spec (L.map toP);have hmem:∀q,q∈Hull.sorted (L.map toP)↔Bd 6 q∧inP P q:=fun q=>by
  rw[sm,List.mem_map];constructor
  ·rintro⟨v,hv,rfl⟩
   obtain⟨q,rfl,h1,h2⟩:=(hL v).1 hv;rw[toP_em];exact⟨h1,h2⟩
  ·rintro⟨h1,h2⟩
   exact⟨em q,(hL _).2 ⟨q,rfl,h1,h2⟩,toP_em q⟩
 obtain⟨l3,eH⟩:=hull_all hpol (fun q hq=>(hB q hq).mono (by decide)) sA (fun q hq=>(hmem q).2 ⟨b6 q hq,mem_in hpol hq⟩) (fun s hs=>((hmem s).1 hs).2) (fun s hs=>(((hmem s).1 hs).1).mono (by decide))
 have hs3:3≤(Hull.sorted (L.map toP)).length:=by
  rcases Nat.lt_or_ge (Hull.sorted (L.map toP)).length 3 with h | h
  ·exfalso;rcases Nat.lt_or_ge (Hull.sorted (L.map toP)).length 2 with h' | h'
   ·have:=hull_len (Hull.sorted (L.map toP));omega
   ·have:=hull_two (S:=Hull.sorted (L.map toP)) (by omega);omega
  ·exact h
 unfold hullS;rw[if_pos ⟨by omega,h50⟩]
 simp only;rw[if_pos ⟨hs3,l3,by rw[eH];omega⟩,eH]
theorem foldR_sol {r:Rg} {n:Nat}:∀ (S:List (List Hf)) (out:List Ra),(∀ q∈out,∃ X,X.length = n∧(∀ x∈X,x∈r.2)∧(solveL X n).2 = true∧q = (solveL X n).1)→(∀ X∈S,X.length = n∧∀ x∈X,x∈r.2) →
  ∀q∈S.foldl (stepR r n) out,∃X,X.length=n∧(∀x∈X,x∈r.2)∧(solveL X n).2=true∧q=(solveL X n).1
 | [],out,h,_,q,hq=>h q hq
 | X::S,out,h,hS,q,hq=>foldR_sol S _ (fun z hz=>by
  unfold stepR at hz;split at hz
  ·rename_i hc;simp only[Bool.and_eq_true]at hc;rcases insR_mem hz with rfl | hz
   ·exact⟨X,(hS X (by simp)).1,(hS X (by simp)).2,hc.1,rfl⟩
   ·exact h z hz
  ·exact h z hz) (fun Y hY=>hS Y (List.mem_cons_of_mem _ hY)) q hq
theorem redL_scale {N:List Int}{d:Int}(hd:d≠0):∃t:Int,t≠0∧N=(redL N d).1.map (·*t)∧d=(redL N d).2*t:=by
 have hg:=gcd_ne (a:=gcdL N) hd;have hgl:((Int.gcd (gcdL N) d:Nat):Int)∣gcdL N:=Int.gcd_dvd_left ..;have hgr:((Int.gcd (gcdL N) d:Nat):Int)∣d:=Int.gcd_dvd_right ..;have hgx:∀x∈N,((Int.gcd (gcdL N) d:Nat):Int)∣x:=fun x hx=>Int.dvd_trans hgl (gvL_dvd hx);unfold redL;generalize ((Int.gcd (gcdL N) d:Nat):Int)=g at *;have back:∀t:Int,(∀x∈N,t∣x)→N=(N.map fun x=>x.tdiv t).map (·*t):=fun t ht=>by
  rw[List.map_map];conv=>lhs;rw[←List.map_id N]
  exact List.map_congr_left fun x hx=>(Int.tdiv_mul_cancel (ht x hx)).symm
 split
 ·exact⟨-g,by omega,back _ fun x hx=>(Int.neg_dvd).2 (hgx x hx),(Int.tdiv_mul_cancel ((Int.neg_dvd).2 hgr)).symm⟩
 ·exact⟨g,hg,back _ hgx,(Int.tdiv_mul_cancel hgr).symm⟩
theorem solA {l m bi l' m' bj x y t d:Int}(tx:bi*-l' - -l*bj=x*t)(ty:m*bj-bi*m'=y*t)(tD:m*-l' - -l*m'=d*t):t*(m*x+-l*y-bi*d)=0∧t*(m'*x+-l'*y-bj*d)=0:=by
 have e1:t*(m*x+-l*y-bi*d)=m*(x*t)+-l*(y*t)-bi*(d*t):=by clear tx ty tD;grind
 have e2:t*(m'*x+-l'*y-bj*d)=m'*(x*t)+-l'*(y*t)-bj*(d*t):=by clear tx ty tD;grind
 rw[e1,e2,←tx,←ty,←tD];clear e1 e2 tx ty tD;constructor<;>grind
theorem solB {g l m a1 a2 bi x y d:Int}(h1:m*a1+-l*a2=bi)(h2:m*x+-l*y=bi*d):g*l*(y-d*a2)-g*m*(x-d*a1)=0:=by
 have:g*l*(y-d*a2)-g*m*(x-d*a1)=-g*((m*x+-l*y)-d*(m*a1+-l*a2)):=by clear h1 h2;grind
 rw[this,h1,h2,Int.mul_comm d bi,Int.sub_self,Int.mul_zero]
theorem solC (g' g l m l' m':Int):g'*l'*(g*m)-g'*m'*(g*l)=-(g'*g*(m*-l' - -l*m')):=by grind
theorem vert_whole {p:List (List Int)}(hr:(regionL p).2=true)(h6:∀v∈p,v.all (inR (-6) 6)=true){q:Ra}(hq:q∈vertS (regionL p).1):q.2=1∧q.1.all (inR (-6) 6)=true:=by
 obtain⟨hp,e,hb⟩:=region_ok hr;have hhas:=vertS_has q hq;obtain⟨P,rfl,hB,g3,g12,hpol⟩:=poly_of hp;rw[map_toP,List.length_map]at e;unfold vertS at hq;rw[if_pos hb]at hq;have e2:(regionL (P.map em)).1.1.toNat=2:=by rw[e];rfl
 rw[e2]at hq;obtain⟨X,xl,xm,hs,rfl⟩:=foldR_sol _ [] (by simp) (fun X hX=>subs_mem hX) q hq
 have h0:det (normals X)≠0:=fun h=>by unfold solveL at hs;rw[if_pos h]at hs;cases hs
 rw[solve_red h0]at hhas ⊢;simp only at hhas ⊢;obtain⟨rr,_,rl,_⟩:=red_ok (N:=numsL X 2) h0;obtain⟨t,t0,tN,tD⟩:=redL_scale (N:=numsL X 2) h0;generalize redL (numsL X 2) (det (normals X))=z at *;obtain⟨zv,d⟩:=z;simp only at *;rw[show(numsL X 2).length=2 from rfl]at rl
 obtain⟨x,y,rfl⟩:=row_two rl;have hd:0<d:=rr.den;match X,xl with
 | [X1,X2],_ =>
  have m1:=xm X1 (by simp)
  have m2:=xm X2 (by simp)
  rw[e]at m1 m2;obtain⟨i,hi,rfl⟩:=List.mem_map.1 m1;obtain⟨j,hj,rfl⟩:=List.mem_map.1 m2;rw[List.mem_range]at hi hj;obtain⟨g,l,m,hg,s1,s2,s3⟩:=side_at hpol hi;obtain⟨g',l',m',hg',s1',s2',s3'⟩:=side_at hpol hj;generalize hbi:m*(at_ P i).1+-l*(at_ P i).2=bi at *;generalize hbj:m'*(at_ P j).1+-l'*(at_ P j).2=bj at *;rw[s1,s1']at tN tD h0;have tN:[bi*-l' - -l*bj,m*bj-bi*m']=[x*t,y*t]:=tN;have tD:m*-l' - -l*m'=d*t:=tD;have h0:m*-l' - -l*m'≠0:=h0;simp only[List.cons.injEq,and_true]at tN;obtain⟨tx,ty⟩:=tN;obtain⟨z1,z2⟩:=solA tx ty tD;have eq1:m*x+-l*y=bi*d:=by
   rcases Int.mul_eq_zero.1 z1 with h | h
   ·exact absurd h t0
   ·omega
  have eq2:m'*x+-l'*y=bj*d:=by
   rcases Int.mul_eq_zero.1 z2 with h | h
   ·exact absurd h t0
   ·omega
  unfold hasRat at hhas;simp only[Bool.and_eq_true,List.all_eq_true]at hhas;have hF:∀k,k<P.length→0≤sdH P x y d k:=fun k hk=>by
   obtain⟨gk,hgk,ek⟩:=side_dtL hpol hk x y d;have:=hhas.2 (sideH P k) (by rw[e];exact List.mem_map_of_mem (List.mem_range.2 hk))
   have:dtL (sideH P k).1 [x,y]≤(sideH P k).2*d:=by simpa using this
   rw[←ek];exact Int.mul_nonneg (by omega) (by omega)
  have Fi:sdH P x y d i=0:=by
   unfold sdH;rw[s2,s3];exact solB hbi eq1
  have Fj:sdH P x y d j=0:=by
   unfold sdH;rw[s2',s3'];exact solB hbj eq2
  have hc:((nx P j).1-(at_ P j).1)*((nx P i).2-(at_ P i).2)-((nx P j).2-(at_ P j).2)*((nx P i).1-(at_ P i).1)≠0:=by
   rw[s2,s3,s2',s3',solC];intro hz;have:g'*g*(m*-l' - -l*m')=0:=by omega
   rcases Int.mul_eq_zero.1 this with h | h
   ·rcases Int.mul_eq_zero.1 h with h | h<;>omega
   ·exact h0 h
  obtain⟨v,hv,vx,vy⟩:=vert_pol hpol hd hF hi hj Fi Fj hc;have d1:d=1:=by
   have hgcd:=rr.gcd;have hdv:d∣gcdL [x,y]:=by
    have:gcdL [x,y]=(Int.gcd x y:Nat):=gcdL_two x y;rw[this];exact Int.dvd_coe_gcd ⟨v.1,vx⟩ ⟨v.2,vy⟩
   have h1:d∣((Int.gcd (gcdL [x,y]) d:Nat):Int):=Int.dvd_coe_gcd hdv (Int.dvd_refl d);rw[hgcd]at h1;have:=Int.le_of_dvd (by decide) h1
   omega
  refine⟨d1,?_⟩;have:=h6 (em v) (List.mem_map_of_mem hv);subst d1;rw[vx,vy,Int.one_mul,Int.one_mul];exact this
theorem tight_reg {p:List (List Int)}(hr:(regionL p).2=true)(h6:∀v∈p,v.all (inR (-6) 6)=true):tightB (regionL p).1=true:=by
 unfold tightB;rw[whole_reg hr h6,Bool.true_and,List.all_eq_true];intro q hq;obtain⟨h1,h2⟩:=vert_whole hr h6 hq;rw[h1,h2];rfl
open Go Go.Proofs.YtfknaeamhcpfgaaGreat.Eng
set_option linter.all false
open Hull (Pt Pol tn lx at_ at_some at_of at_mem Asc)
theorem fl1:s_DrawWholeHull_s32_3=cstep:=rfl
theorem fl2:s_DrawRegionOf_s32_3=cstep:=rfl
theorem fl3:s_DrawHalvesOf_s32_3=cstep:=rfl
theorem fl4:s_DrawIsTight_s32_3=cstep:=rfl
theorem fl5:s_DrawBestCorner_s32_3=cstep:=rfl
structure SmallR (r:Rg):Prop where
 len:r.2.length≤12
 each:∀h∈r.2,h.1.length≤3
theorem SmallR.lim {r:Rg}(h:SmallR r):r.2.length≤Eng.lim:=Nat.le_trans h.len (by rw[lim_eq];omega)
theorem SmallR.lims {r:Rg}(h:SmallR r):∀k∈r.2,k.1.length≤Eng.lim:=fun k hk=>Nat.le_trans (h.each k hk) (by rw[lim_eq];omega)
theorem l23Draw_ok {s:Cur}(h:CurOk s):∃(r:Rg) (s':Cur),s_l23Draw s=some (r,(s',()))∧CurOk s'∧SmallR r:=by
 obtain⟨t,c,f1,f2⟩:=once_ok h (n:=10) (by omega)
 have f1:s_l1Once (s.1,(s.2.1,s.2.2)) 10=some (t,(c,())):=f1;unfold s_l23Draw;rw[f1];simp only[Option.bind_some];cases t with
 | true =>
  obtain⟨r,d,b1,b2,_,_,b5,b6⟩:=l4Bent_ok f2;have b1:s_l4Bent (c.1,(c.2.1,c.2.2))=some (r,(d,())):=b1;rw[cond_true,b1];exact⟨r,d,rfl,b2,by omega,fun k hk=>(b6 k hk).len⟩
 | false =>
  obtain⟨r,d,b1,b2,_,_,b5,b6⟩:=l4Draw_ok f2 (n:=2) (by omega) (by omega)
  have b1:s_l4Draw (c.1,(c.2.1,c.2.2)) 2=some (r,(d,())):=b1;rw[cond_false,b1];exact⟨r,d,rfl,b2,by omega,fun k hk=>((b6 k hk).hw (by omega) (by omega)).len⟩
theorem fl_hull {code:List Int}(hc:code.length≤1048576):∃r:Rg,s_DrawWholeHull code=some r∧SmallR r:=by
 unfold s_DrawWholeHull;rw[fl1];obtain⟨y,e⟩:=new_loop hc (IntKind.i64.wrap (26583+(code.length:Int)));obtain⟨r,s,a1,_,a2⟩:=l23Draw_ok (s:=(code,(0,y))) ⟨by simp,by simp,hc⟩
 rw[e];simp only[Option.bind_some];rw[a1];exact⟨r,rfl,a2⟩
theorem fl_poly {code:List Int}(hc:code.length≤1048576):∃p,s_DrawRegionOf code=some p∧s_DrawHalvesOf code=some p∧p.length≤12∧∀v∈p,v.length≤3:=by
 unfold s_DrawRegionOf s_DrawHalvesOf;rw[fl2,fl3];obtain⟨y,e⟩:=new_loop hc (IntKind.i64.wrap (26583+(code.length:Int)));obtain⟨p,s,a1,_,_,a3,a4⟩:=l7Bent_ok (s:=(code,(0,y))) ⟨by simp,by simp,hc⟩
 rw[e];simp only[Option.bind_some];rw[a1];exact⟨p,rfl,rfl,a3,a4⟩
theorem fl_best {code:List Int}(hc:code.length≤1048576):∃(r:Rg) (v:List Int),s_DrawBestCorner code=some (r,v)∧SmallR r∧v.length≤3:=by
 unfold s_DrawBestCorner;rw[fl5];obtain⟨y,e⟩:=new_loop hc (IntKind.i64.wrap (26583+(code.length:Int)));obtain⟨r,s,a1,a2,a3⟩:=l23Draw_ok (s:=(code,(0,y))) ⟨by simp,by simp,hc⟩
 rw[e];simp only[Option.bind_some];rw[a1];simp only[Option.bind_some];obtain⟨t,s1,f1,f2⟩:=once_ok a2 (n:=14) (by omega)
 have f1:s_l1Once (s.1,(s.2.1,s.2.2)) 14=some (t,(s1,())):=f1;obtain⟨z,g1,g2,g3⟩:=bit_ok t;have wz:IntKind.i64.wrap (2+z)=2+z:=wrap_id (by omega) (by omega)
 obtain⟨v,s2,k1,k2,k3,k4⟩:=draw_ok f2 (n:=2+z) (size:=4) (by omega) (by omega) (by omega) (by omega)
 have k1:s_l2Draw (s1.1,(s1.2.1,s1.2.2)) (2+z) 4=some (v,(s2,())):=k1;simp only[f1,g1,wz,k1,Option.bind_some];exact⟨r,v,rfl,a3,by omega⟩
theorem fl_tight {code:List Int}(hc:code.length≤1048576):∃r:Rg,s_DrawIsTight code=some r∧SmallR r:=by
 unfold s_DrawIsTight;rw[fl4];obtain⟨y,e⟩:=new_loop hc (IntKind.i64.wrap (26583+(code.length:Int)));obtain⟨p,c,a1,a2,a3,a4,a5⟩:=l7Draw_ok (s:=(code,(0,y))) ⟨by simp,by simp,hc⟩ (size:=3) (by omega) (by omega)
 have a1:s_l7Draw_1 (code,(0,y)) 3=some (p,(c,())):=a1;rw[e];simp only[Option.bind_some];rw[a1];simp only[Option.bind_some];rw[(region_eq (p:=p) (fit_small (by omega) fun v hv=>by have:=a5 v hv;omega)).1]
 simp only[Option.bind_some];have last:∀{g:Cur},CurOk g→∃r:Rg,((s_l23Draw (g.1,(g.2.1,g.2.2))).bind fun v7=>some (v7.1.1,v7.1.2))=some r∧SmallR r:=fun{g} hg=>by
  obtain⟨r,d,b1,b2,b3⟩:=l23Draw_ok hg;have b1:s_l23Draw (g.1,(g.2.1,g.2.2))=some (r,(d,())):=b1;rw[b1];exact⟨r,rfl,b3⟩
 obtain⟨z1,z2⟩:=region_fit (p:=p);cases (regionL p).2 with
 | false=>rw[cond_false];exact last a2
 | true =>
  obtain⟨t,f,q1,q2⟩:=once_ok a2 (n:=2) (by omega)
  have q1:s_l1Once (c.1,(c.2.1,c.2.2)) 2=some (t,(f,())):=q1;rw[cond_true,q1];simp only[Option.bind_some];cases t with
  | true=>rw[cond_true];exact⟨_,rfl,z1,fun k hk=>by have:=z2 k hk;omega⟩
  | false=>rw[cond_false];exact last q2
theorem sameHalf_self {h:Hf}(hl:h.1.length≤1000):w_sameHalf h h=some true:=by
 unfold w_sameHalf;rw[beq_self_eq_true,cond_true,sameInts_self (by rw[lim_eq];omega)];rfl
theorem sameHalves_self {xs:List Hf}(hl:xs.length≤1000)(h:∀x∈xs,x.1.length≤1000):w_sameHalves xs xs=some true:=by
 have e:=iter_up (step:=w_sameHalves_s4 xs xs) xs.length (fun k=>(k:Int)) (.inl ()) (fun k hk=>by
  unfold w_sameHalves_s4;rw[show decide ((k:Int)<(xs.length:Int))=true from by simp;omega,cond_true,idx_nat,List.getElem?_eq_getElem hk]
  simp only[Option.bind_some,sameHalf_self (h _ (List.getElem_mem hk)),Bool.not_true,cond_false];rw[wrap_id (by omega) (by omega)]
  rfl) (by
  unfold w_sameHalves_s4;rw[show decide ((xs.length:Int)<(xs.length:Int))=false from by simp,cond_false])
 unfold w_sameHalves;have e:iter (w_sameHalves_s4 xs xs) 0=some (.inl ()):=e;simp only[bne_self_eq_false,cond_false,e,Option.bind_some]
theorem eqRegion_self {r:Rg}(hl:r.2.length≤1000)(hh:∀h∈r.2,h.1.length≤1000):s_EqualRegion r r=some true:=by
 have e:=iter_up (step:=s_EqualRegion_s4 r r) r.2.length (fun k=>(k:Int)) (.inl ()) (fun k hk=>by
  unfold s_EqualRegion_s4;rw[show decide ((k:Int)<(r.2.length:Int))=true from by simp;omega,cond_true,idx_nat,List.getElem?_eq_getElem hk]
  simp only[Option.bind_some];rw[l4SameHalf_eq (by have:=hh _ (List.getElem_mem hk);rw[lim_eq];omega)]
  simp only[Option.bind_some,beq_self_eq_true,Bool.not_true,cond_false];rw[wrap_id (by omega) (by omega)]
  rfl) (by
  unfold s_EqualRegion_s4;rw[show decide ((r.2.length:Int)<(r.2.length:Int))=false from by simp,cond_false])
 unfold s_EqualRegion;have e:iter (s_EqualRegion_s4 r r) 0=some (.inl ()):=e;simp only[bne_self_eq_false,cond_false,e,Option.bind_some]
theorem size_le (x:Int)(h1:-1000≤x)(h2:x≤1000):∃z,w_size x=some z∧decide (z≤6)=inR (-6) 6 x:=by
 unfold w_size;by_cases h:x<0
 ·rw[decide_eq_true h,cond_true,wrap_small (by omega) (by omega)]
  refine⟨_,rfl,?_⟩;rw[Bool.eq_iff_iff,inR_iff,decide_eq_true_eq];omega
 ·rw[decide_eq_false h,cond_false];refine⟨_,rfl,?_⟩;rw[Bool.eq_iff_iff,inR_iff,decide_eq_true_eq];omega
theorem box_loop {P:List Pt}(hB:∀q∈P,Bd 50 q)(hl:P.length≤1000):iter (w_FnHulls_s26 (P.map em)) (true,(0:Int))=some ((P.map em).all fun v=>v.all (inR (-6) 6)):=by
 have e:=iter_up (step:=w_FnHulls_s26 (P.map em)) P.length (fun k=>(((P.map em).take k).all fun v=>v.all (inR (-6) 6),(k:Int))) ((P.map em).all fun v=>v.all (inR (-6) 6)) (fun k hk=>by
  have hk':k<(P.map em).length:=by simpa using hk
  have hb:=hB _ (at_mem hk);have gk:(P.map em)[k]? = some (em (at_ P k)):=by rw[List.getElem?_map,at_some hk];rfl
  obtain⟨z1,y1,y2⟩:=size_le (at_ P k).1 (by have:=hb.1;omega) (by have:=hb.2.1;omega)
  obtain⟨z2,x1,x2⟩:=size_le (at_ P k).2 (by have:=hb.2.2.1;omega) (by have:=hb.2.2.2;omega)
  have hany:((P.map em).take (k+1)).all (fun v=>v.all (inR (-6) 6))=(((P.map em).take k).all (fun v=>v.all (inR (-6) 6))&&(inR (-6) 6 (at_ P k).1&&inR (-6) 6 (at_ P k).2)):=by
   rw[List.take_add_one,gk,List.all_append,Option.toList_some,List.all_cons,List.all_nil,Bool.and_true];simp only[em,List.all_cons,List.all_nil,Bool.and_true]
  unfold w_FnHulls_s26;simp only;rw[show decide ((k:Int)<((P.map em).length:Int))=true from by simp;omega,cond_true,idx_some gk]
  simp only[Option.bind_some,(idx_em _).1,(idx_em _).2,y1,x1,y2,x2];rw[wrap_small (by omega) (by omega),hany]
  generalize ((P.map em).take k).all (fun v=>v.all (inR (-6) 6))=b0;generalize inR (-6) 6 (at_ P k).1=b1;generalize inR (-6) 6 (at_ P k).2=b2;cases b0<;>cases b1<;>cases b2<;>rfl) (by
  unfold w_FnHulls_s26;simp only[List.take_of_length_le (show(P.map em).length≤P.length by simp)]
  rw[show decide ((P.length:Int)<((P.map em).length:Int))=false from by simp,cond_false])
 exact e
theorem box_same2:w_FnHulls_s26b41=w_FnHulls_s26:=rfl
theorem bst2_max {S:List Pt}{a:Pt}:∀k,k<S.length→(∃i,i≤k∧bst2 S a k=at_ S i)∧∀j,j≤k→dt a (at_ S j)≤dt a (bst2 S a k)
 | 0,h=>⟨⟨0,by omega,rfl⟩,fun j hj=>by
   rw[show j=0 by omega];exact Int.le_refl _⟩
 | k+1,h=>by
  obtain⟨⟨i,hi,e⟩,h2⟩:=bst2_max (S:=S) (a:=a) k (by omega)
  simp only[bst2];by_cases c:dt a (at_ S (k+1))>dt a (bst2 S a k)
  ·rw[if_pos c];refine⟨⟨k+1,by omega,rfl⟩,fun j hj=>?_⟩
   by_cases ej:j=k+1
   ·rw[ej];exact Int.le_refl _
   ·have:=h2 j (by omega);omega
  ·rw[if_neg c];refine⟨⟨i,by omega,e⟩,fun j hj=>?_⟩
   by_cases ej:j=k+1
   ·rw[ej];omega
   ·exact h2 j (by omega)
theorem most_loop {S:List Pt}{a:Pt}(h0:0<S.length)(hl:S.length≤1000)(hB:∀q∈S,Bd 50 q)(ha:Bd 1000 a):iter (s_l5Best_s6 (em a) (-1) (S.map em)) (em (at_ S 0),1)=some (em (bst2 S a (S.length-1))):=by
 have:=iter_up (step:=s_l5Best_s6 (em a) (-1) (S.map em)) (S.length-1) (fun k=>(em (bst2 S a k),((k+1:Nat):Int))) (em (bst2 S a (S.length-1))) (fun k hk=>by
  obtain⟨⟨i,hi,e⟩,_⟩:=bst2_max (S:=S) (a:=a) k (by omega)
  have hk1:k+1<S.length:=by omega
  have bb:Bd 50 (bst2 S a k):=by rw[e];exact hB _ (at_mem (by omega))
  have d1:=(dot_em (ha.mono (by decide)) ((hB _ (at_mem hk1)).mono (by decide))).2
  have d2:=(dot_em (ha.mono (by decide)) (bb.mono (by decide))).2
  have g1:=dt_le ha (hB _ (at_mem hk1));have g2:=dt_le ha bb;unfold s_l5Best_s6;simp only;rw[show decide (((k+1:Nat):Int)<((S.map em).length:Int))=true from by simp;omega,cond_true,idxP hk1]
  simp only[Option.bind_some,d1,d2];rw[wrap_small (x:=((k+1:Nat):Int)+1) (by omega) (by omega),wrap_small (x:=-1*dt a (at_ S (k+1))) (by omega) (by omega),wrap_small (x:=-1*dt a (bst2 S a k)) (by omega) (by omega)]
  simp only[bst2];by_cases c:dt a (at_ S (k+1))>dt a (bst2 S a k)
  ·rw[if_pos c,show decide (-1*dt a (at_ S (k+1)) < -1*dt a (bst2 S a k))=true from decide_eq_true (by omega),cond_true]
   simp
  ·rw[if_neg c,show decide (-1*dt a (at_ S (k+1)) < -1*dt a (bst2 S a k))=false from decide_eq_false (by omega),cond_false]
   simp) (by
  unfold s_l5Best_s6;simp only;rw[show decide (((S.length-1+1:Nat):Int)<((S.map em).length:Int))=false from by simp;omega,cond_false])
 exact this
theorem wdot_em {a b:Pt}(ha:Bd 1000 a)(hb:Bd 1000 b):w_dot (em a) (em b)=some (dt a b):=by
 rw[show w_dot (em a) (em b)=s_l2Dot (em a) (em b)from rfl]
 exact(dot_em (ha.mono (by decide)) (hb.mono (by decide))).2
theorem dt_comm (a b:Pt):dt a b=dt b a:=by unfold dt;rw[Int.mul_comm,Int.mul_comm a.2]
theorem most_same {r:Rg} (hl:r.2.length≤lim) (hh:∀ h∈r.2,h.1.length≤lim) {a:List Int} (ha:a.length≤lim) (hb:(bestS r a).2 = true) :
  ∃(m:List Int) (z:Int),s_MostIn (r.1,r.2) a=some (m,true)∧w_dot m a=some z∧w_dot (bestS r a).1 a=some z:=by
 unfold bestS at hb ⊢;split at hb
 ·rename_i hc;rw[if_pos hc];simp only[Bool.and_eq_true,beq_iff_eq]at hc;obtain⟨hw,hv,h2⟩:=hc;obtain⟨A,rfl,bA⟩:=vec2 hv h2;rw[toP_em];unfold wholeS at hw ⊢;split at hw
  ·rename_i hr;rw[if_pos hr];simp only[Bool.and_eq_true,decide_eq_true_eq]at hr;obtain⟨hr,r2⟩:=hr;obtain⟨n,hn⟩:=regOk hr;have hn2:n=2:=by have:=hn.dim;omega
   subst hn2;have hpts:=(pointsIn_eq hn hr).2;have hL:∃S:List Pt,(ptsL 2).filter (hasR r)=S.map em∧∀q∈S,Bd 50 q:=by
    refine⟨((ptsL 2).filter (hasR r)).map toP,?_,fun q hq=>?_⟩
    ·rw[List.map_map];conv=>lhs;rw[←List.map_id ((ptsL 2).filter (hasR r))]
     refine List.map_congr_left fun v hv=>?_;obtain⟨q,rfl,_⟩:=ptsL2_at (List.mem_filter.1 hv).1;simp only[id,Function.comp_apply,toP_em]
    ·obtain⟨v,hv,rfl⟩:=List.mem_map.1 hq;obtain⟨q,rfl,h⟩:=ptsL2_at (List.mem_filter.1 hv).1;rw[toP_em];exact h.mono (by decide)
   obtain⟨S,eS,hB⟩:=hL;rw[eS]at hw hpts ⊢;unfold hullS at hw ⊢;split at hw
   ·rename_i hS;rw[if_pos hS];simp only[map_toP,List.length_map]at hw hS ⊢;split at hw
    ·rename_i hH;rw[if_pos hH];simp only[map_toP,List.length_map];obtain⟨sA,sm⟩:=Hull.sorted_spec S;have s0:0<S.length:=by
      have:=sorted_len S;omega
     have m1:s_MostIn (r.1,r.2) (em A)=some (em (bst2 S A (S.length-1)),true):=by
      unfold s_MostIn s_l5Best;rw[show s_PointsIn (r.1,r.2)=_ from hpts]
      simp only[Option.bind_some,List.length_map];rw[show((S.length:Int)==0)=false from beq_eq_false_iff_ne.2 (by omega),cond_false,s_IsVector_eq ha,hv]
      simp only[Option.bind_some,Bool.not_true,cond_false];rw[show(((em A).length:Int) != r.1)=false from by rw[show r.1=2 from r2];rfl,cond_false,show inIdx S.length 0=some ()from inIdx_nat (k:=0) s0]
      simp only[Option.bind_some];rw[show(((0:Int).toNat:Nat):Int)=((0:Nat):Int)from rfl,idxP s0]
      simp only[Option.bind_some];rw[most_loop s0 (by omega) hB bA];rfl
     obtain⟨⟨i,hi,c1⟩,c2⟩:=bst2_max (S:=S) (a:=A) (S.length-1) (by omega)
     obtain⟨b1,b2⟩:=bix_ok (a:=A) (H:=Hull.hull (Hull.sorted S)) (by omega) _ (Nat.le_refl _)
     have hmb:bst2 S A (S.length-1)∈S:=by rw[c1];exact at_mem (by omega)
     have hhb:at_ (Hull.hull (Hull.sorted S)) (bix (Hull.hull (Hull.sorted S)) A (Hull.hull (Hull.sorted S)).length)∈S:=(sm _).1 (hull_sub (at_mem b1));have same:dt A (bst2 S A (S.length-1))=dt A (at_ (Hull.hull (Hull.sorted S)) (bix (Hull.hull (Hull.sorted S)) A (Hull.hull (Hull.sorted S)).length)):=by
      obtain⟨u1,q,u2,u3,u4⟩:=sup_hull sA hH.2.1 A;have v1:=u1 _ ((sm _).2 hmb);obtain⟨j,hj,ej⟩:=List.getElem_of_mem u3;have v2:=b2 j hj;rw[at_of (List.getElem?_eq_getElem hj),ej]at v2;obtain⟨k,hk,ek⟩:=List.getElem_of_mem hhb;have v3:=c2 k (by omega)
      rw[at_of (List.getElem?_eq_getElem hk),ek]at v3;unfold Rel at v2;omega
     refine⟨_,_,m1,wdot_em ((hB _ hmb).mono (by decide)) bA,?_⟩
     rw[wdot_em ((hB _ hhb).mono (by decide)) bA,dt_comm,←same,dt_comm]
    ·cases hw
   ·cases hw
  ·cases hw
 ·cases hb
theorem law_Hulls (x:List Int)(hx:TyOk (.list (.int .u8)) x):w_FnHulls x=some true:=by
 unfold w_FnHulls w_big;simp only[Option.bind_some];by_cases hbig:(x.length:Int)>1048576
 ·rw[show decide ((x.length:Int)>1048576)=true from by simpa using hbig];rfl
 rw[show decide ((x.length:Int)>1048576)=false from by simpa using hbig,cond_false]
 obtain⟨r,d1,hr⟩:=fl_hull (code:=x) (by omega)
 obtain⟨p,d2,d3,pl,pe⟩:=fl_poly (code:=x) (by omega)
 obtain⟨t,d4,ht⟩:=fl_tight (code:=x) (by omega)
 obtain⟨b,v,d5,hb,vl⟩:=fl_best (code:=x) (by omega)
 have hlim:lim=140737488355328:=lim_eq;have fp:FitLL p:=fit_small (by omega) fun v hv=>by have:=pe v hv;omega
 obtain⟨w1,w2⟩:=whole_eq (r:=(r.1,r.2)) hr.lim hr.lims;obtain⟨g1,g2⟩:=region_eq fp;obtain⟨h1,h2⟩:=halves_eq fp;obtain⟨t1,t2⟩:=tight_eq (r:=(t.1,t.2)) ht.lim ht.lims;obtain⟨b1,b2⟩:=best_eqS (r:=(b.1,b.2)) hb.lim hb.lims (a:=v) (by omega)
 obtain⟨wf1,wf2⟩:=whole_fit (r:=(r.1,r.2));obtain⟨gf1,gf2⟩:=region_fit (p:=p);obtain⟨hf1,hf2⟩:=halves_fit (p:=p);have bf:(bestS (b.1,b.2) v).1.length≤2:=by
  unfold bestS;split
  ·simp[em]
  ·simp
 have self:∀L:List (List Int),L.length≤12→(∀u∈L,u.length≤3)→w_sameLists L L=some true:=fun L h1 h2=>sameLists_self (by omega) fun u hu=>by have:=h2 u hu;omega
 have last:(cond (!(regionL p).2) (some true) ((iter (w_FnHulls_s26 p) (true,(0:Int))).bind fun v31=>cond (!v31) (some true) ((i_WholeHull ((regionL p).1.1,(regionL p).1.2)).bind fun v32=>cond v32.2 ((w_sameLists v32.1 p).bind fun v33=>cond v33 ((i_IsTight ((regionL p).1.1,(regionL p).1.2)).bind fun v34=>some v34) (some false)) (some false))))=some true:=by
  cases hok:(regionL p).2 with
  | false=>rfl
  | true =>
   obtain⟨hp,_,_⟩:=region_ok hok;obtain⟨P,eP,hB,g3,g12,hpol⟩:=poly_of hp;have bl:iter (w_FnHulls_s26 p) (true,(0:Int))=some (p.all fun v=>v.all (inR (-6) 6)):=by rw[eP];exact box_loop hB (by omega)
   rw[Bool.not_true,cond_false,bl];simp only[Option.bind_some];cases hall:p.all fun v=>v.all (inR (-6) 6)with
   | false=>rfl
   | true =>
    rw[List.all_eq_true]at hall;have rl1:(regionL p).1.2.length≤lim:=by omega
    have rl2:∀h∈(regionL p).1.2,h.1.length≤lim:=fun h hh=>by have:=gf2 h hh;omega
    have wr:i_WholeHull ((regionL p).1.1,(regionL p).1.2)=some (p,true):=by
     rw[←whole_reg hok hall];exact(whole_eq (r:=(regionL p).1) rl1 rl2).2
    have tr:i_IsTight ((regionL p).1.1,(regionL p).1.2)=some true:=by
     rw[←tight_reg hok hall];exact(tight_eq (r:=(regionL p).1) rl1 rl2).1
    rw[Bool.not_true,cond_false,wr];simp only[Option.bind_some];rw[cond_true,self p pl pe];simp only[Option.bind_some];rw[cond_true,tr];rfl
 rw[d1];simp only[Option.bind_some];rw[w1,w2,d2];simp only[Option.bind_some];rw[g1,g2,d3];simp only[Option.bind_some];rw[h1,h2,d4,d5];simp only[Option.bind_some];rw[b1,b2];simp only[Option.bind_some,beq_self_eq_true,Bool.not_true,cond_false];rw[self _ wf1 fun u hu=>by have:=wf2 u hu;omega]
 simp only[Option.bind_some,Bool.not_true,cond_false];rw[show s_EqualRegion ((regionL p).1.1,(regionL p).1.2) ((regionL p).1.1,(regionL p).1.2)=some true from eqRegion_self (r:=(regionL p).1) (by omega) fun h hh=>by have:=gf2 h hh;omega]
 simp only[Option.bind_some,Bool.not_true,cond_false];rw[sameHalves_self (by omega) fun h hh=>by have:=hf2 h hh;omega]
 simp only[Option.bind_some,Bool.not_true,cond_false];rw[t1,t2];simp only[Option.bind_some,beq_self_eq_true,Bool.not_true,cond_false];rw[sameInts_self (by omega)]
 simp only[Option.bind_some,Bool.not_true,cond_false];rw[box_same2];cases hbest:(bestS (b.1,b.2) v).2 with
 | false=>rw[cond_false];exact last
 | true =>
  obtain⟨m,z,m1,m2,m3⟩:=most_same (r:=(b.1,b.2)) hb.lim hb.lims (a:=v) (by omega) hbest
  rw[cond_true,m1];simp only[Option.bind_some,Bool.not_true,cond_false];rw[m2,m3];simp only[Option.bind_some,bne_self_eq_false,cond_false];exact last
end Go.Proofs.YtfknaeamhcpfgaaGreat
