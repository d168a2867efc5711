/-
  Plain lemmas on loops, lists and numbers that fit. No condition.
-/
import Derived.Test.YtfknaeamhcpfgaaGreatEm4
namespace Go.Proofs.YtfknaeamhcpfgaaGreat
open Go Eng
set_option linter.all false
theorem wrap_id {x:Int}(h:-9223372036854775808≤x)(h2:x≤9223372036854775807):IntKind.i64.wrap x=x:=by
 have e:(2:Int) ^ 64=18446744073709551616:=by decide
 have e2:(2:Int) ^ 63=9223372036854775808:=by decide
 simp only[IntKind.wrap,IntKind.bits,IntKind.signed,Bool.true_and,decide_eq_true_eq,e,show(64-1:Nat)=63 from rfl,e2,ge_iff_le]
 split<;>omega
theorem idx_nat {α:Type}(xs:List α)(k:Nat):idx xs (k:Int)=xs[k]?:=by
 simp[idx]
theorem idx_some {α:Type}{xs:List α}{k:Nat}{x:α}(h:xs[k]? = some x):idx xs (k:Int)=some x:=by
 rw[idx_nat,h]
theorem idx_of {α:Type}{xs:List α}{i:Int}{x:α}(h0:0≤i)(h:xs[i.toNat]? = some x):idx xs i=some x:=by
 simp[idx,h0,h]
theorem inIdx_nat {n k:Nat}(h:k<n):inIdx n (k:Int)=some ():=by
 unfold inIdx;rw[if_pos];omega
theorem inIdx_of {n:Nat}{i:Int}(h0:0≤i)(h:i<n):inIdx n i=some ():=by
 unfold inIdx;rw[if_pos ⟨h0,h⟩]
theorem appD_some {α:Type}{b:Nat}{xs ys:List α}(h:(xs.length+ys.length)*b≤lim)(h2:xs.length+ys.length≤lim):appD b xs ys=some (xs++ys):=by
 unfold appD;rw[if_pos ⟨h,h2⟩]
theorem mkD_some {α:Type}{b n:Nat}{d:α}(h:n*b≤lim)(h2:n≤lim):mkD b (n:Int) d=some (List.replicate n d):=by
 unfold mkD;rw[if_pos]
 ·simp
 ·refine⟨by omega,?_,by omega⟩
  have:((n:Int)*(b:Int))=((n*b:Nat):Int):=by simp
  rw[this];omega
theorem subl_nat {α:Type}{xs:List α}{a b:Nat}(h:a≤b)(h2:b≤xs.length):subl xs (a:Int) (b:Int)=some ((xs.take b).drop a):=by
 unfold subl;rw[if_pos (by omega)]
 simp
theorem lim_eq:lim=140737488355328:=rfl
section
variable {S β:Type}{step:S→Option (S⊕β)}
theorem iter_end {s:S}{y:β}(h:step s=some (.inr y)):iter step s=some y:=by
 rw[iter_eq,h]
theorem iter_next {s s':S}(h:step s=some (.inl s')):iter step s=iter step s':=by
 rw[iter_eq step s,h]
theorem iter_run (J:S→Prop) (μ:S→Nat) (R:S→β→Prop) (h:∀ s,J s→(∃ y,step s = some (.inr y)∧R s y)∨∃ s',step s = some (.inl s')∧J s'∧μ s' < μ s∧∀ y,R s' y→R s y) :
  ∀s,J s→∃y,iter step s=some y∧R s y:=by
 suffices ∀n s,μ s=n→J s→∃y,iter step s=some y∧R s y from fun s hs=>this _ s rfl hs
 intro n;induction n using Nat.strongRecOn with
 | ind n ih =>
  intro s hn hs;rcases h s hs with⟨y,h1,h2⟩ | ⟨s',h1,h2,h3,h4⟩
  ·exact⟨y,iter_end h1,h2⟩
  ·obtain⟨y,k1,k2⟩:=ih (μ s') (by omega) s' rfl h2
   exact⟨y,by rw[iter_next h1];exact k1,h4 y k2⟩
theorem iter_fun (J:S→Prop)(μ:S→Nat)(g:S→β)(h:∀s,J s→step s=some (.inr (g s))∨∃s',step s=some (.inl s')∧J s'∧μ s'<μ s∧g s'=g s){s:S}(hs:J s):iter step s=some (g s):=by
 obtain⟨y,h1,h2⟩:=iter_run J μ (fun s y=>y=g s) (fun s hs=>by
  rcases h s hs with h1 | ⟨s',h1,h2,h3,h4⟩
  ·exact .inl ⟨_,h1,rfl⟩
  ·exact .inr ⟨s',h1,h2,h3,fun y hy=>hy.trans h4⟩) s hs
 rw[h1,h2]
end
def runL {A α B:Type}(body:A→α→A⊕B)(out:A→B):A→List α→B
 | a,[]=>out a
 | a,x::r=>match body a x with
  | .inl a'=>runL body out a' r
  | .inr b=>b
theorem iter_list {S B α A:Type} {step:S→Option (S ⊕ B)} (st:A→Int→S) (xs:List α) (body:A→α→A ⊕ B) (out:A→B) (Inv:Nat→A→Prop)
  (hs:∀(k:Nat) (a:A) (x:α),xs[k]? = some x→Inv k a→step (st a k)=some (match body a x with
   | .inl a'=>.inl (st a' ((k:Int)+1))
   | .inr b=>.inr b)∧∀a',body a x=.inl a'→Inv (k+1) a')
  (he:∀a,Inv xs.length a→step (st a xs.length)=some (.inr (out a))):∀(n k:Nat) (a:A),k+n=xs.length→Inv k a→iter step (st a k)=some (runL body out a (xs.drop k))
 | 0,k,a,hk,hi=>by
  obtain rfl:k=xs.length:=by omega
  rw[iter_end (he a hi),List.drop_length];rfl
 | n+1,k,a,hk,hi=>by
  have hlt:k<xs.length:=by omega
  have hx:xs[k]? = some xs[k]:=List.getElem?_eq_getElem hlt;obtain⟨h1,h2⟩:=hs k a _ hx hi;rw[List.drop_eq_getElem_cons hlt];simp only[runL];cases hb:body a xs[k]with
  | inl a' =>
   rw[hb]at h1;rw[iter_next h1];exact iter_list st xs body out Inv hs he n (k+1) a' (by omega) (h2 a' hb)
  | inr b =>
   rw[hb]at h1;rw[iter_end h1]
theorem iter_list0 {S B α A:Type} {step:S→Option (S ⊕ B)} (st:A→Int→S) (xs:List α) (body:A→α→A ⊕ B) (out:A→B) (Inv:Nat→A→Prop)
  (hs:∀(k:Nat) (a:A) (x:α),xs[k]? = some x→Inv k a→step (st a k)=some (match body a x with
   | .inl a'=>.inl (st a' ((k:Int)+1))
   | .inr b=>.inr b)∧∀a',body a x=.inl a'→Inv (k+1) a')
  (he:∀a,Inv xs.length a→step (st a xs.length)=some (.inr (out a))) (a:A) (hi:Inv 0 a):iter step (st a 0)=some (runL body out a xs):=by
 have:=iter_list st xs body out Inv hs he xs.length 0 a (by omega) hi
 simpa using this
theorem runL_fold {A α B:Type}(f:A→α→A)(out:A→B):∀(xs:List α) (a:A),runL (fun a x=>.inl (f a x)) out a xs=out (xs.foldl f a)
 | [],a=>rfl
 | x::r,a=>runL_fold f out r (f a x)
theorem runL_all {α E:Type}(p:α→Bool)(e:E):∀(xs:List α),runL (fun(_:Unit) x=>if p x then .inl ()else .inr (.inr e)) (fun _=>(.inl ():Unit⊕E)) () xs=if xs.all p then .inl ()else .inr e
 | []=>rfl
 | x::r=>by
  simp only[runL,List.all_cons];have ih:=runL_all p e r;by_cases hp:p x=true
  ·simp only[hp,if_true,Bool.true_and];exact ih
  ·simp[hp]
theorem iter_all {α:Type} {step:Int→Option (Int ⊕ (Unit ⊕ Bool))} (xs:List α) (p:α→Bool)
  (hs:∀(k:Nat) (x:α),xs[k]? = some x→step k=some (if p x then .inl ((k:Int)+1)else .inr (.inr false)))
  (he:step xs.length=some (.inr (.inl ()))):iter step 0=some (if xs.all p then .inl ()else .inr false):=by
 have:=iter_list0 (fun(_:Unit) k=>k) xs (fun _ x=>if p x then .inl ()else .inr (.inr false)) (fun _=>(.inl ():Unit⊕Bool)) (fun _ _=>True)
  (fun k a x hx _=>⟨by
   rw[hs k x hx];cases p x<;>rfl,fun _ _=>trivial⟩) (fun a _=>he) () trivial
 rw[this,runL_all]
theorem wrap_succ {k:Nat}(h:k≤lim):IntKind.i64.wrap ((k:Int)+1)=(k:Int)+1:=wrap_id (by omega) (by rw[lim_eq]at h;omega)
theorem len_lt {α:Type}{xs:List α}{k:Nat}{x:α}(h:xs[k]? = some x):k<xs.length:=(List.getElem?_eq_some_iff.1 h).1
def eqL {α β:Type}(p:α→β→Bool):List α→List β→Bool
 | [],[]=>true
 | x::xs,y::ys=>p x y&&eqL p xs ys
 | _,_=>false
theorem eqL_beq {α:Type}[BEq α][LawfulBEq α]:∀(xs ys:List α),eqL (fun a b=>a==b) xs ys=(xs==ys)
 | [],[]=>rfl
 | x::xs,y::ys=>by simp[eqL,eqL_beq xs ys]
 | [],y::ys=>rfl
 | x::xs,[]=>rfl
theorem eqL_zip {α β:Type}{p:α→β→Bool}:∀{xs:List α} {ys:List β},xs.length=ys.length→eqL p xs ys=(xs.zip ys).all fun q=>p q.1 q.2
 | [],[],_=>rfl
 | x::xs,y::ys,h=>by simp[eqL,eqL_zip (xs:=xs) (ys:=ys) (by simpa using h)]
 | [],_::_,h=>by simp at h
 | _::_,[],h=>by simp at h
theorem iter_eqs {α β:Type} {step:Int→Option (Int ⊕ (Unit ⊕ Bool))} (xs:List α) (ys:List β) (p:α→β→Bool) (hl:xs.length = ys.length)
  (hs:∀(k:Nat) (x:α) (y:β),xs[k]? = some x→ys[k]? = some y→step k=some (if p x y then .inl ((k:Int)+1)else .inr (.inr false)))
  (he:step xs.length=some (.inr (.inl ()))):iter step 0=some (if eqL p xs ys then .inl ()else .inr false):=by
 have hz:(xs.zip ys).length=xs.length:=by simp[hl]
 have:=iter_all (step:=step) (xs.zip ys) (fun q=>p q.1 q.2) (fun k q hq=>by
  rw[List.getElem?_zip_eq_some]at hq;exact hs k q.1 q.2 hq.1 hq.2) (by rw[hz];exact he)
 rw[this,eqL_zip hl]
end Go.Proofs.YtfknaeamhcpfgaaGreat
