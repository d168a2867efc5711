/-
  Plain: drawn polygons. No condition.
-/
import Derived.Test.YtfknaeamhcpfgaaGreatPlCu
import Derived.Test.YtfknaeamhcpfgaaGreatPlU
namespace Go.Proofs.YtfknaeamhcpfgaaGreat
open Go Go.Proofs.YtfknaeamhcpfgaaGreat.Eng
set_option linter.all false
theorem fit_small {p:List (List Int)}(h1:p.length≤1000)(h2:∀v∈p,v.length≤1000):FitLL p:=⟨by omega,fun v hv=>by have:=h2 v hv;omega⟩
theorem hullOf_lens {p:List (List Int)}(h1:p.length≤1000)(h2:∀v∈p,v.length≤1000):∃r b,s_HullOf p=some (r,b)∧(b=true→3≤r.length∧r.length≤12∧∀v∈r,v.length=2):=by
 refine⟨(hullS p).1,(hullS p).2,s_HullOf_eq (by rw[lim_eq];omega) fun v hv=>by have:=h2 v hv;rw[lim_eq];omega,?_⟩
 unfold hullS;split
 ·simp only;split
  ·rename_i h;intro _;refine⟨by simpa using h.2.1,by simpa using h.2.2,fun v hv=>?_⟩
   obtain⟨q,_,rfl⟩:=List.mem_map.1 hv;rfl
  ·intro h;cases h
 ·intro h;cases h
theorem l7List_ok {s:Cur}(h:CurOk s){size:Int}(h0:0≤size)(h1:size≤127){n:Int×Cur×Unit}(hn0:0≤n.1)(hn:n.1≤100):∃(l:List (List Int)) (s':Cur),iter (s_l7Draw_s7 size n) (s,([],0))=some (s',l)∧CurOk s'∧l.length≤200∧∀v∈l,v.length=2:=by
 have w:IntKind.i64.wrap (3+n.1)=3+n.1:=wrap_id (by omega) (by omega)
 obtain⟨y,e,hy⟩:=iter_run (step:=s_l7Draw_s7 size n) (fun t=>CurOk t.1∧0≤t.2.2∧t.2.2≤3+n.1∧t.2.1.length=t.2.2.toNat∧∀v∈t.2.1,v.length=2) (fun t=>(3+n.1-t.2.2).toNat) (fun _ y=>CurOk y.1∧y.2.length≤200∧∀v∈y.2,v.length=2) (fun t ht=>by
  obtain⟨c,l,k⟩:=t;obtain⟨g1,g2,g3,g4,g5⟩:=ht;simp only at g1 g2 g3 g4 g5;unfold s_l7Draw_s7;simp only[w];by_cases hk:k<3+n.1
  ·right;rw[show decide (k<3+n.1)=true from by simpa using hk,cond_true]
   obtain⟨v,c',q1,q2,q3,_⟩:=draw_ok g1 (n:=2) (size:=size) (by omega) (by omega) h0 h1
   have q1:s_l2Draw (c.1,c.2.1,c.2.2) 2 size=some (v,(c',())):=q1;have wk:IntKind.i64.wrap (k+1)=k+1:=wrap_id (by omega) (by omega)
   rw[q1];simp only[Option.bind_some,wk];rw[appD_some (by rw[lim_eq];simp;omega) (by rw[lim_eq];simp;omega)]
   refine⟨_,rfl,⟨q2,by simp only;omega,by simp only;omega,by simp;omega,fun z hz=>?_⟩,by simp only;omega,fun _ hy=>hy⟩
   rcases List.mem_append.1 hz with hz | hz
   ·exact g5 z hz
   ·simp at hz;subst hz;exact q3
  ·left;rw[show decide (k<3+n.1)=false from by simpa using hk,cond_false]
   exact⟨_,rfl,g1,by simp only;omega,g5⟩) (s,([],0)) ⟨h,by simp,by simp only;omega,by simp,by simp⟩
 exact⟨y.2,y.1,e,hy.1,hy.2.1,hy.2.2⟩
theorem l7Draw_ok {s:Cur}(h:CurOk s){size:Int}(h0:0≤size)(h1:size≤127):∃(p:List (List Int)) (s':Cur),s_l7Draw s size=some (p,(s',()))∧CurOk s'∧3≤p.length∧p.length≤12∧∀v∈p,v.length=2:=by
 obtain ⟨y,e,hy⟩:=iter_run (step:=s_l7Draw_s2 size) (fun t=>CurOk t.1∧0≤t.2∧t.2≤6) (fun t=>(6 - t.2).toNat) (fun _ y=>match y with
   | .inl a=>CurOk a
   | .inr b=>CurOk b.1∧3≤b.2.length∧b.2.length≤12∧∀v∈b.2,v.length=2) (fun t ht=>by
  obtain⟨c,k⟩:=t;obtain⟨g1,g2,g3⟩:=ht;simp only at g1 g2 g3;unfold s_l7Draw_s2;simp only;by_cases hk:k<6
  ·rw[show decide (k<6)=true from by simpa using hk,cond_true]
   obtain⟨n,c1,q1,q2,q3,q4,_⟩:=below_ok g1 (n:=4) (by omega)
   have q1:s_l1Below (c.1,c.2.1,c.2.2) 4=some (n,(c1,())):=q1;obtain⟨l,c2,r1,r2,r3,r4⟩:=l7List_ok (n:=(n,(c1,()))) q2 h0 h1 q3 (by have:=‹0<(4:Int)→n<4› (by omega);simp only;omega)
   have r1:iter (s_l7Draw_s7 size (n,(c1,()))) ((c1.1,(c1.2.1,c1.2.2)),([],0))=some (c2,l):=r1;obtain⟨r,b,d1,d2⟩:=hullOf_lens (p:=l) (by omega) fun v hv=>by rw[r4 v hv];omega
   have wk:IntKind.i64.wrap (k+1)=k+1:=wrap_id (by omega) (by omega)
   simp only[q1,r1,d1,Option.bind_some,wk];cases b with
   | true =>
    obtain⟨d3,d4,d5⟩:=d2 rfl;exact .inl ⟨_,rfl,r2,d3,d4,d5⟩
   | false=>exact .inr ⟨_,rfl,⟨r2,by simp only;omega,by simp only;omega⟩,by simp only;omega,fun _ h=>h⟩
  ·left;rw[show decide (k<6)=false from by simpa using hk,cond_false]
   exact⟨_,rfl,g1⟩) (s,0) ⟨h,by simp,by simp⟩
 unfold s_l7Draw;have e:iter (s_l7Draw_s2 size) ((s.1,(s.2.1,s.2.2)),(0:Int))=some y:=e;rw[e];cases y with
 | inl a=>exact⟨_,a,rfl,hy,by simp,by simp,by simp⟩
 | inr b=>exact⟨b.2,b.1,rfl,hy.1,hy.2.1,hy.2.2.1,hy.2.2.2⟩
theorem set_lens {p:List (List Int)}{i:Nat}{v:List Int}(h:∀u∈p,u.length≤3)(hv:v.length≤3):∀u∈p.set i v,u.length≤3:=fun u hu=>by
 rcases List.mem_or_eq_of_mem_set hu with hu | rfl
 ·exact h u hu
 ·exact hv
theorem l7Bent_ok {s:Cur}(h:CurOk s):∃(p:List (List Int)) (s':Cur),s_l7Bent s=some (p,(s',()))∧CurOk s'∧2≤p.length∧p.length≤12∧∀v∈p,v.length≤3:=by
 obtain⟨p,c,a1,a2,a3,a4,a5⟩:=l7Draw_ok h (size:=4) (by omega) (by omega)
 have a1:s_l7Draw (s.1,(s.2.1,s.2.2)) 4=some (p,(c,())):=a1;have a1':s_l7Draw_1 (s.1,(s.2.1,s.2.2)) 4=some (p,(c,())):=a1;obtain⟨n,d,b1,b2,b3,b4,b5⟩:=below_ok a2 (n:=14) (by omega)
 have b1:s_l1Below (c.1,(c.2.1,c.2.2)) 14=some (n,(d,())):=b1;have a6:∀v∈p,v.length≤3:=fun v hv=>by have:=a5 v hv;omega
 have z0:(((0:Int)).toNat:Int)=((0:Nat):Int):=rfl;have z1:(((1:Int)).toNat:Int)=((1:Nat):Int):=rfl;have i0:∀q:List (List Int),2≤q.length→inIdx q.length 0=some ():=fun q hq=>inIdx_nat (k:=0) (by omega)
 have i1:∀q:List (List Int),2≤q.length→inIdx q.length 1=some ():=fun q hq=>inIdx_nat (k:=1) (by omega)
 have j0:∀q:List (List Int),2≤q.length→inIdx q.length (((0:Int)).toNat:Int)=some ():=fun q hq=>inIdx_nat (k:=0) (by omega)
 have j1:∀q:List (List Int),2≤q.length→inIdx q.length (((1:Int)).toNat:Int)=some ():=fun q hq=>inIdx_nat (k:=1) (by omega)
 have e0:idx p (((0:Int)).toNat:Int)=some p[0]:=by rw[z0,idx_nat];exact List.getElem?_eq_getElem (by omega)
 have e1:idx p (((1:Int)).toNat:Int)=some p[1]:=by rw[z1,idx_nat];exact List.getElem?_eq_getElem (by omega)
 have hset:∀(q:List (List Int)) (i:Nat) (v:List Int),2≤q.length→2≤(q.set i v).length:=fun q i v hq=>by rw[List.length_set];exact hq
 unfold s_l7Bent;simp only[a1,a1',Option.bind_some,b1];by_cases c0:n=0
 ·rw[show(n==0)=true from by simpa using c0,cond_true]
  simp only[i0 p (by omega),i1 p (by omega),e0,e1,Option.bind_some,j0 p (by omega),i1 _ (hset p _ _ (by omega)),j1 _ (hset p _ _ (by omega))]
  exact⟨_,d,rfl,b2,by simp;omega,by simp;omega,set_lens (set_lens a6 (a6 _ (List.getElem_mem _))) (a6 _ (List.getElem_mem _))⟩
 rw[show(n==0)=false from by simpa using c0,cond_false]
 by_cases c1:n=1
 ·rw[show(n==1)=true from by simpa using c1,cond_true]
  obtain⟨t,s1,f1,f2⟩:=once_ok b2 (n:=2) (by omega)
  have f1:s_l1Once (d.1,(d.2.1,d.2.2)) 2=some (t,(s1,())):=f1;obtain⟨z,g1,g2,g3⟩:=bit_ok t;have wz:IntKind.i64.wrap (2+z)=2+z:=wrap_id (by omega) (by omega)
  obtain⟨v,s2,k1,k2,k3,_⟩:=draw_ok f2 (n:=2+z) (size:=60) (by omega) (by omega) (by omega) (by omega)
  have k1:s_l2Draw (s1.1,(s1.2.1,s1.2.2)) (2+z) 60=some (v,(s2,())):=k1;simp only[f1,g1,wz,k1,Option.bind_some,i0 p (by omega),j0 p (by omega)]
  exact⟨_,s2,rfl,k2,by simp;omega,by simp;omega,set_lens a6 (by omega)⟩
 rw[show(n==1)=false from by simpa using c1,cond_false]
 by_cases c2:n=2
 ·rw[show(n==2)=true from by simpa using c2,cond_true]
  have hs:subl p 0 2=some (p.take 2):=by
   unfold subl;rw[if_pos ⟨by omega,by omega,by omega⟩]
   rfl
  simp only[hs,Option.bind_some];exact⟨_,d,rfl,b2,by simp;omega,by simp;omega,fun v hv=>a6 v (List.mem_of_mem_take hv)⟩
 rw[show(n==2)=false from by simpa using c2,cond_false]
 exact⟨p,d,rfl,b2,by omega,a4,a6⟩
end Go.Proofs.YtfknaeamhcpfgaaGreat
