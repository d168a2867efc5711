/-
  Supports and widths of polygons. Plain, no condition.
-/
import Derived.Test.YtfknaeamhcpfgaaGreatPlU
namespace Go.Proofs.YtfknaeamhcpfgaaGreat
open Go Go.Proofs.YtfknaeamhcpfgaaGreat.Eng
open Hull (Pt tn lx at_ at_some at_mem)
set_option linter.all false
def vecB (a:List Int):Bool:=inR 1 3 a.length&&a.all (inR (-1000) 1000)
theorem i_IsVector_eq {a:List Int}(h:a.length≤lim):i_IsVector a=some (vecB a):=by
 simp only[i_IsVector,within_eq,Option.bind_some,vecB];cases inR 1 3 (a.length:Int)with
 | false=>rfl
 | true=>rw[cond_true,allWithin_eq h];rfl
theorem s_IsVector_eq {a:List Int}(h:a.length≤lim):s_IsVector a=some (vecB a):=by
 simp only[s_IsVector,l1In_eq,Option.bind_some,vecB];cases inR 1 3 (a.length:Int)with
 | false=>rfl
 | true=>rw[cond_true,l2Small_eq h (by decide) (by decide)];rfl
theorem vec2 {a:List Int}(h1:vecB a=true)(h2:a.length=2):∃A:Pt,a=em A∧Bd 1000 A:=by
 unfold vecB at h1;simp only[Bool.and_eq_true]at h1;have:isPt 1000 a=true:=by unfold isPt;rw[h1.2,h2];rfl
 exact⟨_,isPt_em this⟩
def dt (a b:Pt):Int:=a.1*b.1+a.2*b.2
theorem abs_mul_le {a b m n:Int}(h1:-m≤a)(h2:a≤m)(h3:-n≤b)(h4:b≤n):-(m*n)≤a*b∧a*b≤m*n:=by
 have ha:a.natAbs≤m.natAbs:=by omega
 have hb:b.natAbs≤n.natAbs:=by omega
 have h:=Nat.mul_le_mul ha hb;rw[←Int.natAbs_mul,←Int.natAbs_mul]at h;have hm:0≤m:=by omega
 have hn:0≤n:=by omega
 have:=Int.mul_nonneg hm hn;omega
theorem dt_le {a b:Pt}{m n:Int}(ha:Bd m a)(hb:Bd n b):-(2*(m*n))≤dt a b∧dt a b≤2*(m*n):=by
 have h1:=abs_mul_le ha.1 ha.2.1 hb.1 hb.2.1;have h2:=abs_mul_le ha.2.2.1 ha.2.2.2 hb.2.2.1 hb.2.2.2;unfold dt;omega
theorem dot_em {a b:Pt}(ha:Bd 1000000 a)(hb:Bd 1000000 b):i_dot (em a) (em b)=some (dt a b)∧s_l2Dot (em a) (em b)=some (dt a b):=by
 have h1:=abs_mul_le ha.1 ha.2.1 hb.1 hb.2.1;have h2:=abs_mul_le ha.2.2.1 ha.2.2.2 hb.2.2.1 hb.2.2.2;have w0:IntKind.i64.wrap (0+IntKind.i64.wrap (a.1*b.1))=a.1*b.1:=by rw[wrap_small (x:=a.1*b.1) (by omega) (by omega),wrap_small (by omega) (by omega)];omega
 have w1:IntKind.i64.wrap (a.1*b.1+IntKind.i64.wrap (a.2*b.2))=dt a b:=by rw[wrap_small (x:=a.2*b.2) (by omega) (by omega),wrap_small (by omega) (by omega)];rfl
 have i0:i_dot_s3 (em a) (em b) (0,0)=some (.inl (a.1*b.1,1)):=by
  show cond (decide ((0:Int)<2)) ((idx (em a) 0).bind fun v2=>(idx (em b) 0).bind fun v3=>some (Sum.inl (IntKind.i64.wrap (0+IntKind.i64.wrap (v2*v3)),IntKind.i64.wrap (0+1)))) _=_;simp only[show decide ((0:Int)<2)=true from rfl,cond_true,em,idx0,Option.bind_some,w0];rfl
 have i1:i_dot_s3 (em a) (em b) (a.1*b.1,1)=some (.inl (dt a b,2)):=by
  show cond (decide ((1:Int)<2)) ((idx (em a) 1).bind fun v2=>(idx (em b) 1).bind fun v3=>some (Sum.inl (IntKind.i64.wrap (a.1*b.1+IntKind.i64.wrap (v2*v3)),IntKind.i64.wrap (1+1)))) _=_;simp only[show decide ((1:Int)<2)=true from rfl,cond_true,em,idx1,Option.bind_some,w1];rfl
 have s0:s_l2Dot_s3 (em a) (em b) (0,0)=some (.inl (a.1*b.1,1)):=by
  show cond (decide ((0:Int)<2)) (cond (decide ((0:Int)<2)) ((idx (em a) 0).bind fun v2=>(idx (em b) 0).bind fun v3=>some (Sum.inl (IntKind.i64.wrap (0+IntKind.i64.wrap (v2*v3)),IntKind.i64.wrap (0+1)))) _) _=_;simp only[show decide ((0:Int)<2)=true from rfl,cond_true,em,idx0,Option.bind_some,w0];rfl
 have s1:s_l2Dot_s3 (em a) (em b) (a.1*b.1,1)=some (.inl (dt a b,2)):=by
  show cond (decide ((1:Int)<2)) (cond (decide ((1:Int)<2)) ((idx (em a) 1).bind fun v2=>(idx (em b) 1).bind fun v3=>some (Sum.inl (IntKind.i64.wrap (a.1*b.1+IntKind.i64.wrap (v2*v3)),IntKind.i64.wrap (1+1)))) _) _=_;simp only[show decide ((1:Int)<2)=true from rfl,cond_true,em,idx1,Option.bind_some,w1];rfl
 have i2:i_dot_s3 (em a) (em b) (dt a b,2)=some (.inr (dt a b)):=rfl;have s2:s_l2Dot_s3 (em a) (em b) (dt a b,2)=some (.inr (dt a b)):=rfl;unfold i_dot s_l2Dot;rw[iter_next i0,iter_next i1,iter_end i2,iter_next s0,iter_next s1,iter_end s2];exact⟨rfl,rfl⟩
theorem Bd.mono {m n:Int}{q:Pt}(h:Bd m q)(hmn:m≤n):Bd n q:=by unfold Bd at *;omega
def mx (a b:Int):Int:=if b>a then b else a
def mn (a b:Int):Int:=if b<a then b else a
theorem l1Max_eq (a b:Int):s_l1Max a b=some (mx a b):=by
 unfold s_l1Max mx;by_cases h:a>b
 ·rw[show decide (a>b)=true from by simpa using h,cond_true,if_neg (by omega)]
 ·rw[show decide (a>b)=false from by simpa using h,cond_false]
  by_cases h2:b>a
  ·rw[if_pos h2]
  ·rw[if_neg h2];congr 1;omega
def sup (P:List Pt)(a:Pt):Int:=P.foldl (fun m q=>mx m (dt a q)) (dt a (at_ P 0))
theorem foldl_take_succ {α β:Type}(f:β→α→β){l:List α}{k:Nat}{x:α}(h:l[k]? = some x)(b:β):(l.take (k+1)).foldl f b=f ((l.take k).foldl f b) x:=by
 rw[List.take_add_one,h];simp
theorem poly_of {p:List (List Int)}(h:isPoly p=true):∃P:List Pt,p=P.map em∧(∀q∈P,Bd 50 q)∧3≤P.length∧P.length≤12∧Hull.Pol P:=by
 have h':=h;unfold isPoly at h';simp only[Bool.and_eq_true]at h';obtain⟨P,rfl,hB⟩:=pts_of h'.1.2;obtain⟨h1,h2⟩:=(isPoly_iff hB).1 h;exact⟨P,rfl,hB,h2.len,h1,h2⟩
def ngp (a:Pt):Pt:=(-a.1,-a.2)
theorem Bd.ngp {m:Int}{a:Pt}(h:Bd m a):Bd m (ngp a):=by
 unfold Bd at h ⊢;refine⟨?_,?_,?_,?_⟩<;>simp only[Go.Proofs.YtfknaeamhcpfgaaGreat.ngp]<;>omega
theorem vecB_em {a:Pt}(h:Bd 1000 a):vecB (em a)=true:=by
 have:=isPt_of h;unfold isPt at this;simp only[Bool.and_eq_true]at this;unfold vecB;rw[this.2];rfl
end Go.Proofs.YtfknaeamhcpfgaaGreat
