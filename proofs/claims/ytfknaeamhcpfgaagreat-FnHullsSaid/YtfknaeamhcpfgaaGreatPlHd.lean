/-
  Plain: drawn half planes and regions. No condition.
-/
import Derived.Test.YtfknaeamhcpfgaaGreatPlCu
import Derived.Test.YtfknaeamhcpfgaaGreatPlM
namespace Go.Proofs.YtfknaeamhcpfgaaGreat
open Go Go.Proofs.YtfknaeamhcpfgaaGreat.Eng
set_option linter.all false
structure Hfn (n:Int) (h:List Int×Int):Prop where
 len:h.1.length=n.toNat
 cells:∀x∈h.1,-127≤x∧x≤255
 bound:-300≤h.2∧h.2≤300
theorem set_cells {v:List Int}{i:Nat}{x:Int}(h:∀y∈v,-127≤y∧y≤255)(hx:-127≤x∧x≤255):∀y∈v.set i x,-127≤y∧y≤255:=fun y hy=>by
 rcases List.mem_or_eq_of_mem_set hy with hy | rfl
 ·exact h y hy
 ·exact hx
theorem l4Half_ok {s:Cur}(h:CurOk s){n:Int}(h1:1≤n)(h3:n≤3):∃(p:List Int×Int) (s':Cur),s_l4Half s n=some (p,(s',()))∧CurOk s'∧Hfn n p:=by
 obtain⟨v,c,a1,a2,a3,a4⟩:=draw_ok h (n:=n) (size:=3) (by omega) h3 (by omega) (by omega)
 have a1:s_l2Draw (s.1,(s.2.1,s.2.2)) n 3=some (v,(c,())):=a1;have hall:s_l2All v=some (gcdL v):=l2All_eq (by rw[lim_eq];omega) fun x hx=>by
  have:=a4 x hx;unfold Sm;omega
 obtain⟨m,d,b1,b2,b3,b4,b5⟩:=below_ok a2 (n:=11) (by omega)
 have b1:s_l1Below (c.1,(c.2.1,c.2.2)) 11=some (m,(d,())):=b1;have b6:=b5 (by omega)
 have wm:IntKind.i64.wrap (m-2)=m-2:=wrap_id (by omega) (by omega)
 have i0:inIdx v.length 0=some ():=inIdx_nat (k:=0) (by omega)
 have i1:inIdx v.length (((0:Int)).toNat:Int)=some ():=inIdx_nat (k:=0) (by omega)
 unfold s_l4Half;simp only[a1,hall,Option.bind_some];cases gcdL v==0 with
 | true =>
  simp only[cond_true,i0,i1,b1,wm,Option.bind_some];exact⟨_,d,rfl,b2,by simpa using a3,set_cells a4 (by omega),by simp only;omega⟩
 | false =>
  simp only[cond_false,b1,wm,Option.bind_some];exact⟨_,d,rfl,b2,a3,a4,by simp only;omega⟩
theorem mkH_some {n:Int}(h0:0≤n)(h1:n≤1000):mkD 8 n (0:Int)=some (List.replicate n.toNat 0):=by
 unfold mkD;rw[if_pos ⟨h0,by rw[lim_eq];omega,by rw[lim_eq];omega⟩]
theorem l4First_ok {s:Cur}(h:CurOk s){n:Int}(h1:1≤n)(h3:n≤3){d0:Int×List (List Int×Int)}:∃(L:List (List Int×Int)) (s':Cur),iter (s_l4Draw_s4 n) (s,(d0,((n,[]),0)))=some (s',(d0,(n,L)))∧CurOk s'∧L.length=n.toNat∧∀p∈L,Hfn n p:=by
 obtain⟨y,e,hy⟩:=iter_run (step:=s_l4Draw_s4 n) (fun t=>CurOk t.1∧t.2.1=d0∧t.2.2.1.1=n∧0≤t.2.2.2∧t.2.2.2≤n∧t.2.2.1.2.length=t.2.2.2.toNat∧∀p∈t.2.2.1.2,Hfn n p) (fun t=>(n-t.2.2.2).toNat) (fun _ y=>CurOk y.1∧y.2.1=d0∧y.2.2.1=n∧y.2.2.2.length=n.toNat∧∀p∈y.2.2.2,Hfn n p) (fun t ht=>by
  obtain⟨c,d,⟨dim,L⟩,k⟩:=t;obtain⟨g1,g2,g3,g4,g5,g6,g7⟩:=ht;simp only at g1 g2 g3 g4 g5 g6 g7;subst g2;subst g3;unfold s_l4Draw_s4;simp only;by_cases hk:k<dim
  ·right;rw[show decide (k<dim)=true from by simpa using hk,cond_true,mkH_some (by omega) (by omega)]
   have i0:inIdx (List.replicate dim.toNat (0:Int)).length k=some ():=by unfold inIdx;rw[if_pos ⟨g4,by simp;omega⟩]
   have i1:inIdx (List.replicate dim.toNat (0:Int)).length (k.toNat:Int)=some ():=inIdx_nat (by simp;omega)
   obtain⟨m,f,b1,b2,b3,b4,b5⟩:=below_ok g1 (n:=3) (by omega)
   have b1:s_l1Below (c.1,(c.2.1,c.2.2)) 3=some (m,(f,())):=b1;have b6:=b5 (by omega)
   have wk:IntKind.i64.wrap (k+1)=k+1:=wrap_id (by omega) (by omega)
   simp only[Option.bind_some,i0,i1,b1,wk];rw[appD_some (by rw[lim_eq];simp;omega) (by rw[lim_eq];simp;omega)]
   refine⟨_,rfl,⟨b2,rfl,rfl,by simp only;omega,by simp only;omega,by simp;omega,fun p hp=>?_⟩,by simp only;omega,fun _ hy=>hy⟩
   rcases List.mem_append.1 hp with hp | hp
   ·exact g7 p hp
   ·simp only[List.mem_singleton]at hp;subst hp;refine⟨by simp,set_cells (fun y hy=>?_) (by omega),by simp only;omega⟩
    rw[List.eq_of_mem_replicate hy];omega
  ·left;rw[show decide (k<dim)=false from by simpa using hk,cond_false]
   exact⟨_,rfl,g1,rfl,rfl,by simp only;omega,g7⟩) (s,(d0,((n,[]),0))) ⟨h,rfl,rfl,by simp,by simp only;omega,by simp,by simp⟩
 obtain⟨c,d,dim,L⟩:=y;obtain⟨k1,k2,k3,k4,k5⟩:=hy;simp only at k1 k2 k3 k4 k5;subst k2;subst k3;exact⟨L,c,e,k1,k4,k5⟩
theorem l4Rest_ok {s:Cur} (h:CurOk s) {n:Int} (h1:1≤n) (h3:n≤3) {m:Int × Cur × Unit} (m0:0≤m.1) (m2:m.1≤2) {d0:Int × List (List Int × Int)} {L0:List (List Int × Int)} (hl:L0.length≤3) (h0:∀ p∈L0,Hfn n p) :
  ∃(L:List (List Int×Int)) (s':Cur),iter (s_l4Draw_s11 n m) (s,(d0,((n,L0),0)))=some (s',(d0,(n,L)))∧CurOk s'∧L.length=L0.length+(1+m.1).toNat∧∀p∈L,Hfn n p:=by
 have wm:IntKind.i64.wrap (1+m.1)=1+m.1:=wrap_id (by omega) (by omega)
 obtain⟨y,e,hy⟩:=iter_run (step:=s_l4Draw_s11 n m) (fun t=>CurOk t.1∧t.2.1=d0∧t.2.2.1.1=n∧0≤t.2.2.2∧t.2.2.2≤1+m.1∧t.2.2.1.2.length=L0.length+t.2.2.2.toNat∧∀p∈t.2.2.1.2,Hfn n p) (fun t=>(1+m.1-t.2.2.2).toNat) (fun _ y=>CurOk y.1∧y.2.1=d0∧y.2.2.1=n∧y.2.2.2.length=L0.length+(1+m.1).toNat∧∀p∈y.2.2.2,Hfn n p) (fun t ht=>by
  obtain⟨c,d,⟨dim,L⟩,k⟩:=t;obtain⟨g1,g2,g3,g4,g5,g6,g7⟩:=ht;simp only at g1 g2 g3 g4 g5 g6 g7;subst g2;subst g3;unfold s_l4Draw_s11;simp only[wm];by_cases hk:k<1+m.1
  ·right;rw[show decide (k<1+m.1)=true from by simpa using hk,cond_true]
   obtain⟨p,f,b1,b2,b3⟩:=l4Half_ok g1 h1 h3;have b1:s_l4Half (c.1,(c.2.1,c.2.2)) dim=some (p,(f,())):=b1;have wk:IntKind.i64.wrap (k+1)=k+1:=wrap_id (by omega) (by omega)
   simp only[Option.bind_some,b1,wk];rw[appD_some (by rw[lim_eq];simp;omega) (by rw[lim_eq];simp;omega)]
   refine⟨_,rfl,⟨b2,rfl,rfl,by simp only;omega,by simp only;omega,by simp;omega,fun q hq=>?_⟩,by simp only;omega,fun _ hy=>hy⟩
   rcases List.mem_append.1 hq with hq | hq
   ·exact g7 q hq
   ·simp only[List.mem_singleton]at hq;subst hq;exact b3
  ·left;rw[show decide (k<1+m.1)=false from by simpa using hk,cond_false]
   exact⟨_,rfl,g1,rfl,rfl,by simp only;omega,g7⟩) (s,(d0,((n,L0),0))) ⟨h,rfl,rfl,by simp,by simp only;omega,by simp,h0⟩
 obtain⟨c,d,dim,L⟩:=y;obtain⟨k1,k2,k3,k4,k5⟩:=hy;simp only at k1 k2 k3 k4 k5;subst k2;subst k3;exact⟨L,c,e,k1,k4,k5⟩
theorem l4same:s_l4Draw_s11b15=s_l4Draw_s11:=rfl
theorem l4Draw_ok {s:Cur}(h:CurOk s){n:Int}(h1:1≤n)(h3:n≤3):∃(r:Int×List (List Int×Int)) (s':Cur),s_l4Draw s n=some (r,(s',()))∧CurOk s'∧r.1=n∧1≤r.2.length∧r.2.length≤6∧∀p∈r.2,Hfn n p:=by
 obtain⟨t,c,a1,a2⟩:=once_ok h (n:=2) (by omega)
 have a1:s_l1Once (s.1,(s.2.1,s.2.2)) 2=some (t,(c,())):=a1;unfold s_l4Draw;rw[l4same];simp only[a1,Option.bind_some];cases t with
 | true =>
  obtain⟨L,d,b1,b2,b3,b4⟩:=l4First_ok a2 h1 h3 (d0:=(0,[]));have b1:iter (s_l4Draw_s4 n) ((c.1,(c.2.1,c.2.2)),((0,[]),((n,[]),0)))=some (d,((0,[]),(n,L))):=b1;obtain⟨m,f,e1,e2,e3,e4,e5⟩:=below_ok b2 (n:=3) (by omega)
  have e1:s_l1Below (d.1,(d.2.1,d.2.2)) 3=some (m,(f,())):=e1;have e6:=e5 (by omega)
  obtain⟨L',g,q1,q2,q3,q4⟩:=l4Rest_ok e2 h1 h3 (m:=(m,(f,()))) e3 (by simp only;omega) (d0:=(0,[])) (L0:=L) (by omega) b4
  have q1:iter (s_l4Draw_s11 n (m,(f,()))) ((f.1,(f.2.1,f.2.2)),((0,[]),((n,L),0)))=some (g,((0,[]),(n,L'))):=q1;simp only at q3;simp only[cond_true,b1,e1,q1,Option.bind_some];exact⟨(n,L'),g,rfl,q2,rfl,by simp only;omega,by simp only;omega,q4⟩
 | false =>
  obtain⟨m,f,e1,e2,e3,e4,e5⟩:=below_ok a2 (n:=3) (by omega)
  have e1:s_l1Below (c.1,(c.2.1,c.2.2)) 3=some (m,(f,())):=e1;have e6:=e5 (by omega)
  obtain⟨L',g,q1,q2,q3,q4⟩:=l4Rest_ok e2 h1 h3 (m:=(m,(f,()))) e3 (by simp only;omega) (d0:=(0,[])) (L0:=[]) (by simp) (by simp)
  have q1:iter (s_l4Draw_s11 n (m,(f,()))) ((f.1,(f.2.1,f.2.2)),((0,[]),((n,[]),0)))=some (g,((0,[]),(n,L'))):=q1;simp only[List.length_nil,Nat.zero_add]at q3;simp only[cond_false,e1,q1,Option.bind_some];exact⟨(n,L'),g,rfl,q2,rfl,by simp only;omega,by simp only;omega,q4⟩
structure Hw (h:List Int×Int):Prop where
 one:1≤h.1.length
 len:h.1.length≤3
 cells:∀x∈h.1,-127≤x∧x≤255
 bound:-300≤h.2∧h.2≤300
theorem Hfn.hw {n:Int}{p:List Int×Int}(h:Hfn n p)(h1:1≤n)(h3:n≤3):Hw p:=⟨by rw[h.len];omega,by rw[h.len];omega,h.cells,h.bound⟩
theorem l4Bent_ok {s:Cur}(h:CurOk s):∃(r:Int×List (List Int×Int)) (s':Cur),s_l4Bent s=some (r,(s',()))∧CurOk s'∧0≤r.1∧r.1≤4∧r.2.length≤6∧∀p∈r.2,Hw p:=by
 obtain⟨k,c,a1,a2,a3,a4,a5⟩:=below_ok h (n:=3) (by omega)
 have a1:s_l1Below (s.1,(s.2.1,s.2.2)) 3=some (k,(c,())):=a1;have a6:=a5 (by omega)
 have wk:IntKind.i64.wrap (1+k)=1+k:=wrap_id (by omega) (by omega)
 obtain⟨r,d,b1,b2,b3,b4,b5,b6⟩:=l4Draw_ok a2 (n:=1+k) (by omega) (by omega)
 have b1:s_l4Draw (c.1,(c.2.1,c.2.2)) (1+k)=some (r,(d,())):=b1;obtain⟨n,f,e1,e2,e3,e4,e5⟩:=below_ok b2 (n:=14) (by omega)
 have e1:s_l1Below (d.1,(d.2.1,d.2.2)) 14=some (n,(f,())):=e1;have hw:∀p∈r.2,Hw p:=fun p hp=>(b6 p hp).hw (by omega) (by omega)
 have i0:inIdx r.2.length 0=some ():=inIdx_nat (k:=0) (by omega)
 have g0:r.2[((0:Int)).toNat]? = some (r.2[0]'(by omega)):=List.getElem?_eq_getElem (by omega)
 have hw0:Hw (r.2[0]'(by omega)):=hw _ (List.getElem_mem _)
 have put:∀q,Hw q→∀p∈r.2.set ((0:Int)).toNat q,Hw p:=fun q hq p hp=>by
  rcases List.mem_or_eq_of_mem_set hp with hp | rfl
  ·exact hw p hp
  ·exact hq
 unfold s_l4Bent;simp only[a1,wk,b1,e1,Option.bind_some];cases n==0 with
 | true =>
  obtain⟨x,g,q1,q2,q3⟩:=pickInt_ok e2 (l:=[0,4,2]) (by simp) (by simp)
  have q1:s_l1PickInt (f.1,(f.2.1,f.2.2)) [0,4,2]=some (x,(g,())):=q1;simp only[cond_true,q1,Option.bind_some];simp only[List.mem_cons,List.not_mem_nil,or_false]at q3;exact⟨(x,r.2),g,rfl,q2,by simp only;omega,by simp only;omega,b5,hw⟩
 | false =>
  rw[cond_false];cases n==1 with
  | true =>
   obtain⟨x,g,q1,q2,q3⟩:=pickInt_ok e2 (l:=[200,201,-201,-200]) (by simp) (by simp)
   have q1:s_l1PickInt (f.1,(f.2.1,f.2.2)) [200,201,-201,-200]=some (x,(g,())):=q1;simp only[cond_true,q1,i0,g0,Option.bind_some];simp only[List.mem_cons,List.not_mem_nil,or_false]at q3;exact⟨_,g,rfl,q2,by simp only;omega,by simp only;omega,by simp;omega,put _ ⟨hw0.one,hw0.len,hw0.cells,by simp only;omega⟩⟩
  | false =>
   rw[cond_false];cases n==2 with
   | true =>
    obtain⟨x,g,q1,q2,q3⟩:=pickInt_ok e2 (l:=[20,21,-21,0]) (by simp) (by simp)
    have q1:s_l1PickInt (f.1,(f.2.1,f.2.2)) [20,21,-21,0]=some (x,(g,())):=q1;have i1:inIdx (r.2[0]'(by omega)).1.length 0=some ():=inIdx_nat (k:=0) (by have:=hw0.one;omega)
    simp only[cond_true,q1,i0,g0,i1,Option.bind_some];simp only[List.mem_cons,List.not_mem_nil,or_false]at q3;exact⟨_,g,rfl,q2,by simp only;omega,by simp only;omega,by simp;omega,put _ ⟨by simp only[List.length_set];exact hw0.one,by simp only[List.length_set];exact hw0.len,set_cells hw0.cells (by omega),hw0.bound⟩⟩
   | false =>
    rw[cond_false];cases n==3 with
    | true=>exact⟨_,f,rfl,e2,by simp only;omega,by simp only;omega,by simp,by simp⟩
    | false=>exact⟨_,f,rfl,e2,by simp only;omega,by simp only;omega,b5,hw⟩
end Go.Proofs.YtfknaeamhcpfgaaGreat
