/-
  Numbers, vectors, common divisors: what the program and the reference compute. No condition.
-/
import Derived.Test.YtfknaeamhcpfgaaGreatPl2
namespace Go.Proofs.YtfknaeamhcpfgaaGreat
open Go Eng
set_option linter.all false
def inR (lo hi x:Int):Bool:=decide (lo≤x)&&decide (x≤hi)
theorem inR_iff {lo hi x:Int}:inR lo hi x=true↔lo≤x∧x≤hi:=by simp[inR]
theorem within_eq (x lo hi:Int):i_within x lo hi=some (inR lo hi x):=by
 unfold i_within inR;by_cases h:x≥lo
 ·simp[h]
 ·have:¬lo≤x:=h;simp[h,this]
theorem l1In_eq (x lo hi:Int):s_l1In x lo hi=some (inR lo hi x):=by
 unfold s_l1In inR;by_cases h:x≥lo
 ·simp[h]
 ·have:¬lo≤x:=h;simp[h,this]
theorem allWithin_eq {xs:List Int}(hl:xs.length≤lim)(lo hi:Int):i_allWithin xs lo hi=some (xs.all (inR lo hi)):=by
 unfold i_allWithin;rw[iter_all xs (inR lo hi) (fun k x hk=>?_) (by simp[i_allWithin_s2])]
 ·cases xs.all (inR lo hi)<;>rfl
 ·have hlt:=len_lt hk;have hd:decide ((k:Int)<(xs.length:Int))=true:=by simp;omega
  simp only[i_allWithin_s2,hd,cond_true,idx_some hk,Option.bind_some,within_eq,wrap_succ (Nat.le_trans (Nat.le_of_lt hlt) hl)];cases inR lo hi x<;>rfl
theorem l2Small_eq {xs:List Int}(hl:xs.length≤lim){m:Int}(h0:0≤m)(h1:m≤1000000000):s_l2Small xs m=some (xs.all (inR (-m) m)):=by
 unfold s_l2Small;rw[iter_all xs (inR (-m) m) (fun k x hk=>?_) (by simp[s_l2Small_s2])]
 ·cases xs.all (inR (-m) m)<;>rfl
 ·have hlt:=len_lt hk;have hd:decide ((k:Int)<(xs.length:Int))=true:=by simp;omega
  have hw:IntKind.i64.wrap (0-m)=-m:=by rw[wrap_id (by omega) (by omega)];omega
  simp only[s_l2Small_s2,hd,cond_true,idx_some hk,Option.bind_some,l1In_eq,hw,wrap_succ (Nat.le_trans (Nat.le_of_lt hlt) hl)];cases inR (-m) m x<;>rfl
def isPt (m:Int)(v:List Int):Bool:=v.length==2&&v.all (inR (-m) m)
theorem isPoint_eq {v:List Int}(hl:v.length≤lim){m:Int}(h0:0≤m)(h1:m≤1000000):i_isPoint v m=some (isPt m v):=by
 unfold i_isPoint isPt;have hw:IntKind.i64.wrap (0-m)=-m:=by rw[wrap_id (by omega) (by omega)];omega
 rw[hw,allWithin_eq hl,cond_ite];by_cases h:v.length=2
 ·rw[if_pos (by simp[h])];simp[h]
 ·rw[if_neg (by simp;omega)]
  have:(v.length==2)=false:=by simp[h]
  simp[this]
theorem isPt_iff {m:Int}{v:List Int}:isPt m v=true↔∃a b,v=[a,b]∧-m≤a∧a≤m∧-m≤b∧b≤m:=by
 unfold isPt;constructor
 ·intro h;simp only[Bool.and_eq_true,beq_iff_eq,List.all_eq_true]at h;match v,h with
  | [a,b],⟨_,h⟩ =>
   have ha:=inR_iff.1 (h a (by simp))
   have hb:=inR_iff.1 (h b (by simp))
   exact⟨a,b,rfl,ha.1,ha.2,hb.1,hb.2⟩
 ·rintro⟨a,b,rfl,h1,h2,h3,h4⟩
  simp[inR_iff.2 ⟨h1,h2⟩,inR_iff.2 ⟨h3,h4⟩]
def Sm (x:Int):Prop:=-4611686018427387904≤x∧x≤4611686018427387904
theorem magnitude_eq {x:Int}(h:Sm x):i_magnitude x=some (x.natAbs:Int):=by
 obtain⟨h1,h2⟩:=h;unfold i_magnitude;rw[wrap_id (by omega) (by omega)]
 congr 1
 split<;>omega
theorem l1Abs_eq {x:Int}(h:Sm x):s_l1Abs x=some (x.natAbs:Int):=by
 obtain⟨h1,h2⟩:=h;unfold s_l1Abs s_l1Max;rw[wrap_id (by omega) (by omega),cond_ite]
 by_cases hx:x>0-x
 ·rw[if_pos (by simpa using hx)]
  simp only[Option.bind_some];congr 1;omega
 ·rw[if_neg (by simpa using hx)]
  simp only[Option.bind_some];congr 1;omega
theorem gcd_step (a b:Int):Int.gcd b (a.tmod b)=Int.gcd a b:=by
 rw[Int.gcd_eq_natAbs_gcd_natAbs,Int.gcd_eq_natAbs_gcd_natAbs,Int.natAbs_tmod,Nat.gcd_comm,←Nat.gcd_rec,Nat.gcd_comm]
theorem tmod_lt {a b:Int}(hb:b≠0):(a.tmod b).natAbs<b.natAbs:=by
 rw[Int.natAbs_tmod];exact Nat.mod_lt _ (by omega)
theorem remI_some {a b:Int}(hb:b≠0):remI .i64 a b=some (a.tmod b):=by simp[remI,hb]
theorem divisor_loop {a b:Int}(ha:Sm a)(hb:Sm b):∃y,iter i_divisor_s1 (a,b)=some y∧y.natAbs=Int.gcd a b∧Sm y:=by
 refine iter_run (fun s:Int×Int=>Sm s.1∧Sm s.2) (fun s=>s.2.natAbs) (fun s y=>y.natAbs=Int.gcd s.1 s.2∧Sm y) (fun s hs=>?_) (a,b) ⟨ha,hb⟩;obtain⟨a,b⟩:=s;simp only at hs;by_cases h:b=0
 ·subst h;exact .inl ⟨a,by simp[i_divisor_s1],by simp,hs.1⟩
 ·refine .inr ⟨(b,a.tmod b),?_,⟨hs.2,?_⟩,tmod_lt h,fun y hy=>⟨by rw[hy.1,gcd_step],hy.2⟩⟩
  ·have:(b != 0)=true:=by simp[h]
   simp[i_divisor_s1,this,remI_some h]
  ·have:=tmod_lt (a:=a) h;have:=hs.2;unfold Sm at *;omega
theorem divisor_eq {a b:Int}(ha:Sm a)(hb:Sm b):i_divisor a b=some (Int.gcd a b:Int):=by
 obtain⟨y,h1,h2,h3⟩:=divisor_loop ha hb;unfold i_divisor;rw[h1,Option.bind_some,magnitude_eq h3,h2];rfl
theorem l2Gcd_loop {a b:Int}(ha:0≤a∧Sm a)(hb:0≤b∧Sm b):iter s_l2Gcd_s3 (a,b)=some (Int.gcd a b:Int):=by
 refine iter_fun (fun s:Int×Int=>(0≤s.1∧Sm s.1)∧0≤s.2∧Sm s.2) (fun s=>s.2.natAbs) (fun s=>(Int.gcd s.1 s.2:Int)) (fun s hs=>?_) ⟨ha,hb⟩;obtain⟨a,b⟩:=s;simp only at hs;by_cases h:b=0
 ·subst h;refine .inl ?_;have:((Int.gcd a 0:Nat):Int)=a:=by rw[Int.gcd_zero];omega
  simp only[s_l2Gcd_s3];rw[this];simp
 ·refine .inr ⟨(b,a.tmod b),?_,⟨hs.2,Int.tmod_nonneg _ hs.1.1,?_⟩,tmod_lt h,by rw[gcd_step]⟩
  ·have:(b != 0)=true:=by simp[h]
   simp[s_l2Gcd_s3,this,remI_some h]
  ·have:=tmod_lt (a:=a) h;have:=hs.2;unfold Sm at *;omega
theorem l2Gcd_eq {a b:Int}(ha:Sm a)(hb:Sm b):s_l2Gcd a b=some (Int.gcd a b:Int):=by
 unfold s_l2Gcd;rw[l1Abs_eq ha,l1Abs_eq hb];simp only[Option.bind_some];rw[l2Gcd_loop ⟨by omega,by unfold Sm at *;omega⟩ ⟨by omega,by unfold Sm at *;omega⟩]
 simp[Int.gcd_eq_natAbs_gcd_natAbs]
def gcdL (v:List Int):Int:=v.foldl (fun g x=>(Int.gcd g x:Int)) 0
theorem gcd_sm {a b:Int}(ha:Sm a)(hb:Sm b):Sm (Int.gcd a b:Int):=by
 unfold Sm at *;by_cases h:a=0
 ·subst h;rw[Int.zero_gcd];omega
 ·have:=Int.gcd_le_natAbs_left b h;omega
theorem gcdAll_eq {v:List Int}(hl:v.length≤lim)(hv:∀x∈v,Sm x):i_gcdAll v=some (gcdL v):=by
 unfold i_gcdAll;have:=iter_list0 (step:=i_gcdAll_s3 v) (fun a k=>(a,k)) v (fun g x=>.inl (Int.gcd g x:Int)) (fun g=>g) (fun _ g=>Sm g) (fun k g x hk hg=>?_) (fun a _=>by simp[i_gcdAll_s3]) 0 ⟨by omega,by omega⟩
 ·rw[this,runL_fold];rfl
 ·have hlt:=len_lt hk;have hd:decide ((k:Int)<(v.length:Int))=true:=by simp;omega
  have hx:=hv x (List.mem_of_getElem? hk);refine⟨by simp only[i_gcdAll_s3,hd,cond_true,idx_some hk,Option.bind_some,divisor_eq hg hx,wrap_succ (Nat.le_trans (Nat.le_of_lt hlt) hl)],fun a' ha'=>?_⟩
  simp only[Sum.inl.injEq]at ha';rw[←ha'];exact gcd_sm hg hx
theorem l2All_eq {v:List Int}(hl:v.length≤lim)(hv:∀x∈v,Sm x):s_l2All v=some (gcdL v):=by
 unfold s_l2All;have:=iter_list0 (step:=s_l2All_s3 v) (fun a k=>(a,k)) v (fun g x=>.inl (Int.gcd g x:Int)) (fun g=>g) (fun _ g=>Sm g) (fun k g x hk hg=>?_) (fun a _=>by simp[s_l2All_s3]) 0 ⟨by omega,by omega⟩
 ·rw[this,runL_fold];rfl
 ·have hlt:=len_lt hk;have hd:decide ((k:Int)<(v.length:Int))=true:=by simp;omega
  have hx:=hv x (List.mem_of_getElem? hk);refine⟨by simp only[s_l2All_s3,hd,cond_true,idx_some hk,Option.bind_some,l2Gcd_eq hg hx,wrap_succ (Nat.le_trans (Nat.le_of_lt hlt) hl)],fun a' ha'=>?_⟩
  simp only[Sum.inl.injEq]at ha';rw[←ha'];exact gcd_sm hg hx
theorem gcdL_two (a b:Int):gcdL [a,b]=(Int.gcd a b:Int):=by
 simp[gcdL,Int.gcd_eq_natAbs_gcd_natAbs]
def Tn (x:Int):Prop:=-1073741824≤x∧x≤1073741824
theorem mul_tn {a b:Int}(ha:Tn a)(hb:Tn b):-1152921504606846976≤a*b∧a*b≤1152921504606846976:=by
 obtain⟨h1,h2⟩:=ha;obtain⟨h3,h4⟩:=hb;have:(a*b).natAbs≤1073741824*1073741824:=by
  rw[Int.natAbs_mul];exact Nat.mul_le_mul (by omega) (by omega)
 omega
theorem wrap_mul {a b:Int}(ha:Tn a)(hb:Tn b):IntKind.i64.wrap (a*b)=a*b:=by
 have:=mul_tn ha hb;exact wrap_id (by omega) (by omega)
def crs (a b c d:Int):Int:=a*d-b*c
theorem cross_wrap {a b c d:Int}(ha:Tn a)(hb:Tn b)(hc:Tn c)(hd:Tn d):IntKind.i64.wrap (IntKind.i64.wrap (a*d)-IntKind.i64.wrap (b*c))=crs a b c d:=by
 rw[wrap_mul ha hd,wrap_mul hb hc];have h1:=mul_tn ha hd;have h2:=mul_tn hb hc;exact wrap_id (by omega) (by omega)
theorem cross_eq {a b c d:Int}(ha:Tn a)(hb:Tn b)(hc:Tn c)(hd:Tn d):i_cross [a,b] [c,d]=some (crs a b c d):=by
 simp only[i_cross,idx_of (xs:=[a,b]) (i:=0) (x:=a) (by decide) rfl,idx_of (xs:=[a,b]) (i:=1) (x:=b) (by decide) rfl,idx_of (xs:=[c,d]) (i:=0) (x:=c) (by decide) rfl,idx_of (xs:=[c,d]) (i:=1) (x:=d) (by decide) rfl,Option.bind_some,cross_wrap ha hb hc hd]
theorem l7Cross_eq {a b c d:Int}(ha:Tn a)(hb:Tn b)(hc:Tn c)(hd:Tn d):s_l7Cross [a,b] [c,d]=some (crs a b c d):=by
 simp only[s_l7Cross,idx_of (xs:=[a,b]) (i:=0) (x:=a) (by decide) rfl,idx_of (xs:=[a,b]) (i:=1) (x:=b) (by decide) rfl,idx_of (xs:=[c,d]) (i:=0) (x:=c) (by decide) rfl,idx_of (xs:=[c,d]) (i:=1) (x:=d) (by decide) rfl,Option.bind_some,cross_wrap ha hb hc hd]
end Go.Proofs.YtfknaeamhcpfgaaGreat
