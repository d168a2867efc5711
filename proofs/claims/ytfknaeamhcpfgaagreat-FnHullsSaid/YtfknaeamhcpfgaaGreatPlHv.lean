/-
  Halves of a polygon's sides. Plain, no condition.
-/
import Derived.Test.YtfknaeamhcpfgaaGreatPlMs
import Derived.Test.YtfknaeamhcpfgaaGreatPlO
import Derived.Test.YtfknaeamhcpfgaaGreatPlI
import Derived.Test.YtfknaeamhcpfgaaGreatPlY
namespace Go.Proofs.YtfknaeamhcpfgaaGreat
open Go Go.Proofs.YtfknaeamhcpfgaaGreat.Eng Hull
set_option linter.all false
theorem prime_em {d:Pt}(hd:Bd 1000 d)(h:d≠(0,0)):s_l2Prime (em d)=some (em (prm d)):=by
 have hg:=gcd_pos h;have hd':=hd;unfold Bd at hd';have hsm:∀x∈em d,Sm x:=fun x hx=>by
  simp only[em,List.mem_cons,List.not_mem_nil,or_false]at hx;unfold Sm;rcases hx with rfl | rfl<;>omega
 have hgl:gcdL (em d)=(Int.gcd d.1 d.2:Int):=gcdL_two _ _;have hl:(em d).length≤lim:=by simp[em,lim_eq]
 generalize hG:Int.gcd d.1 d.2=g at *;have q1:quoI .i64 d.1 (g:Int)=some (d.1.tdiv g):=quo_some (by omega) ⟨by omega,by omega⟩
 have q2:quoI .i64 d.2 (g:Int)=some (d.2.tdiv g):=quo_some (by omega) ⟨by omega,by omega⟩
 unfold s_l2Prime;rw[l2All_eq hl hsm,hgl];simp only[Option.bind_some];have hmx:s_l1Max (g:Int) 1=some (g:Int):=by
  rw[l1Max_eq];unfold mx;rw[if_neg (by omega)]
 have e0:s_l2Prime_s4 (em d) (g:Int) ([],0)=some (.inl ([d.1.tdiv g],1)):=by
  show cond (decide ((0:Int)<2)) ((idx (em d) 0).bind fun v3=>(s_l1Max (g:Int) 1).bind fun v4=>(quoI .i64 v3 v4).bind fun v5=>(appD 8 ([]:List Int) [v5]).bind fun v6=>some (Sum.inl (v6,IntKind.i64.wrap (0+1)))) _=_;simp only[show decide ((0:Int)<2)=true from rfl,cond_true,Option.bind_some,(idx_em d).1,hmx,q1]
  rw[appD_some (by simp[lim_eq]) (by simp[lim_eq])]
  rfl
 have e1:s_l2Prime_s4 (em d) (g:Int) ([d.1.tdiv g],1)=some (.inl ([d.1.tdiv g,d.2.tdiv g],2)):=by
  show cond (decide ((1:Int)<2)) ((idx (em d) 1).bind fun v3=>(s_l1Max (g:Int) 1).bind fun v4=>(quoI .i64 v3 v4).bind fun v5=>(appD 8 [d.1.tdiv g] [v5]).bind fun v6=>some (Sum.inl (v6,IntKind.i64.wrap (1+1)))) _=_;simp only[show decide ((1:Int)<2)=true from rfl,cond_true,Option.bind_some,(idx_em d).2,hmx,q2]
  rw[appD_some (by simp[lim_eq]) (by simp[lim_eq])]
  rfl
 have e2:s_l2Prime_s4 (em d) (g:Int) ([d.1.tdiv g,d.2.tdiv g],2)=some (.inr [d.1.tdiv g,d.2.tdiv g]):=rfl;rw[iter_next e0,iter_next e1,iter_end e2];unfold prm;rw[hG];rfl
def sideH (P:List Pt)(k:Nat):Hf:=(em ((prm (sbp (at_ P ((k+1) % P.length)) (at_ P k))).2,-(prm (sbp (at_ P ((k+1) % P.length)) (at_ P k))).1),dt ((prm (sbp (at_ P ((k+1) % P.length)) (at_ P k))).2,-(prm (sbp (at_ P ((k+1) % P.length)) (at_ P k))).1) (at_ P k))
theorem prm_bd {m:Int}{d:Pt}(hd:Bd m d):Bd m (prm d):=by
 have key:∀(x:Int) (g:Nat),-m≤x→x≤m→-m≤x.tdiv g∧x.tdiv g≤m:=fun x g h1 h2=>by
  have h3:(x.tdiv (g:Int)).natAbs≤x.natAbs:=by rw[Int.natAbs_tdiv];exact Nat.div_le_self _ _
  omega
 unfold Bd prm at *;have a:=key d.1 (Int.gcd d.1 d.2) hd.1 hd.2.1;have b:=key d.2 (Int.gcd d.1 d.2) hd.2.2.1 hd.2.2.2;exact⟨a.1,a.2,b.1,b.2⟩
theorem outward_eq {P:List Pt}(hB:∀q∈P,Bd 50 q)(g3:3≤P.length)(g12:P.length≤12)(hp:Pol P){k:Nat}(hk:k<P.length):i_outward (P.map em) k=some (sideH P k).1:=by
 have hm:∀j,j % P.length<P.length:=fun j=>Nat.mod_lt _ (by omega)
 have bd:∀{j},j<P.length→Bd 50 (at_ P j):=fun h=>hB _ (at_mem h);have w1:IntKind.i64.wrap ((k:Int)+1)=((k+1:Nat):Int):=by rw[wrap_small (by omega) (by omega)];omega
 have m1:=sbp_em (bd (hm (k+1))) (bd hk);have n1:=(edge_ne hp hk).1;unfold i_outward sideH;simp only[List.length_map,w1];rw[remP (by omega)]
 simp only[Option.bind_some];rw[idxP (hm _),idxP hk];simp only[Option.bind_some,m1.1];generalize sbp (at_ P ((k+1) % P.length)) (at_ P k)=d at *;have hg:=gcd_pos n1;have hd:=m1.2.2;unfold Bd at hd;have hsm:∀x∈em d,Sm x:=fun x hx=>by
  simp only[em,List.mem_cons,List.not_mem_nil,or_false]at hx;unfold Sm;rcases hx with rfl | rfl<;>omega
 rw[gcdAll_eq (v:=em d) (by simp[em,lim_eq]) hsm]
 have hgl:gcdL (em d)=(Int.gcd d.1 d.2:Int):=gcdL_two _ _;rw[hgl];simp only[Option.bind_some];rw[show inIdx (em d).length (1:Int)=some ()from rfl,show inIdx (em d).length (0:Int)=some ()from rfl,show idx (em d) (((1:Int).toNat:Nat):Int)=some d.2 from rfl,show idx (em d) (((0:Int).toNat:Nat):Int)=some d.1 from rfl]
 simp only[Option.bind_some];unfold prm;generalize Int.gcd d.1 d.2=g at *;rw[quo_some (a:=d.2) (by omega) ⟨by omega,by omega⟩,wrap_small (x:=0-d.1) (by omega) (by omega),quo_some (a:=0-d.1) (by omega) ⟨by omega,by omega⟩]
 simp only[Option.bind_some,em];rw[Int.zero_sub,Int.neg_tdiv]
theorem side_spec {P:List Pt} (hB:∀ q∈P,Bd 50 q) (g3:3≤P.length) (hp:Pol P) {k:Nat} (hk:k < P.length) :
  Bd 1000 ((prm (sbp (at_ P ((k+1) % P.length)) (at_ P k))).2,-(prm (sbp (at_ P ((k+1) % P.length)) (at_ P k))).1):=by
 have hm:∀j,j % P.length<P.length:=fun j=>Nat.mod_lt _ (by omega)
 have:=prm_bd (sbp_em (hB _ (at_mem (hm (k+1)))) (hB _ (at_mem hk))).2.2;unfold Bd at *;simp only;omega
def hvB (P:List Pt)(a:List Hf)(k:Nat):List Hf⊕(List Hf⊕(List Hf×Bool)):=if halfB 2 (sideH P k)then .inl (a++[sideH P k])else .inr (.inr ([],false))
theorem hvB_end (P:List Pt):∀(xs:List Nat) (a:List Hf) (b:List Hf),runL (hvB P) (fun a=>(.inl a:List Hf⊕(List Hf×Bool))) a xs=.inl b→b=a++xs.map (sideH P)
 | [],a,b,h=>by simp only[runL,Sum.inl.injEq]at h;simp[h]
 | x::xs,a,b,h=>by
  simp only[runL,hvB]at h;split at h
  ·rename_i a' h';split at h'
   ·simp only[Sum.inl.injEq]at h';subst h';have:=hvB_end P xs _ b h;simpa using this
   ·cases h'
  ·rename_i b' h';split at h'
   ·cases h'
   ·simp only[Sum.inr.injEq]at h';subst h';cases h
theorem hvB_end2 (P:List Pt):∀(xs:List Nat) (a:List Hf) (b:List Hf×Bool),runL (hvB P) (fun a=>(.inl a:List Hf⊕(List Hf×Bool))) a xs=.inr b→b=([],false)
 | [],a,b,h=>by simp[runL]at h
 | x::xs,a,b,h=>by
  simp only[runL,hvB]at h;split at h
  ·exact hvB_end2 P xs _ b h
  ·rename_i b' h';split at h'
   ·cases h'
   ·simp only[Sum.inr.injEq]at h';subst h';simpa using h.symm
def halvesL (p:List (List Int)):List Hf×Bool :=
 if isPoly p then(match runL (hvB (p.map toP)) (fun a=>(.inl a:List Hf⊕(List Hf×Bool))) [] (List.range p.length)with
  | .inl a=>(a,true)
  | .inr b=>b)else([],false)
theorem halves_eq {p:List (List Int)}(hp:FitLL p):s_HalvesOf p=some (halvesL p)∧i_HalvesOf p=some (halvesL p):=by
 unfold i_HalvesOf halvesL;rw[i_IsPolygon_eq hp.lim hp.eachLim];simp only[Option.bind_some];cases h1:isPoly p with
 | false =>
  refine⟨?_,rfl⟩;unfold s_HalvesOf;have:s_HalvesOf_s3 p ([],0)=some (.inr (.inl [])):=by
   unfold s_HalvesOf_s3;simp only;rw[s_IsPolygon_eq hp.lim hp.eachLim,h1];cases decide ((0:Int)<(p.length:Int))<;>rfl
  rw[iter_end this];rfl
 | true =>
  obtain⟨P,rfl,hB,g3,g12,hpol⟩:=poly_of h1;have eP:(P.map em).map toP=P:=map_toP P;have hlen:(P.map em).length=P.length:=by simp
  rw[Bool.not_true,cond_false,if_pos rfl,eP,hlen];have hm:∀j,j % P.length<P.length:=fun j=>Nat.mod_lt _ (by omega)
  have bd:∀{j},j<P.length→Bd 50 (at_ P j):=fun h=>hB _ (at_mem h);have hr:∀{k x:Nat},(List.range P.length)[k]? = some x→x=k∧k<P.length:=fun{k x} h=>by
   have hk:k<P.length:=by have:=(List.getElem?_eq_some_iff.1 h).1;simpa using this
   rw[List.getElem?_range hk]at h;exact⟨(Option.some.inj h).symm,hk⟩
  have wk:∀{k:Nat},k<P.length→IntKind.i64.wrap ((k:Int)+1)=(k:Int)+1:=fun h=>wrap_small (by omega) (by omega)
  have L1:=iter_list0 (step:=s_HalvesOf_s3 (P.map em)) (fun a k=>(a,k)) (List.range P.length) (hvB P) (fun a=>(.inl a:List Hf⊕(List Hf×Bool))) (fun k a=>a.length=k) (fun k a x hx ha=>by
   obtain⟨rfl,hk⟩:=hr hx;refine⟨?_,fun a' h'=>?_⟩
   ·unfold s_HalvesOf_s3;simp only;rw[show decide ((x:Int)<((P.map em).length:Int))=true from by simp;omega,cond_true,s_IsPolygon_eq hp.lim hp.eachLim,h1]
    have w1:IntKind.i64.wrap ((x:Int)+1)=((x+1:Nat):Int):=by rw[wrap_small (by omega) (by omega)];omega
    have m1:=sbp_em (bd (hm (x+1))) (bd hk);have n1:=(edge_ne hpol hk).1;have p1:=prime_em m1.2.2 n1;have sp:=side_spec hB g3 hpol hk;have d1:=(dot_em (sp.mono (by decide)) ((bd hk).mono (by decide))).2
    have hb2:=prm_bd m1.2.2;simp only[Option.bind_some,cond_true,hlen,w1];rw[remP (by omega)]
    simp only[Option.bind_some];rw[idxP (hm _),idxP hk];simp only[Option.bind_some,m1.2.1,p1];unfold hvB sideH;generalize prm (sbp (at_ P ((x+1) % P.length)) (at_ P x))=d at *;unfold Bd at hb2;rw[show inIdx (em d).length (1:Int)=some ()from rfl,show inIdx (em d).length (0:Int)=some ()from rfl,show idx (em d) (((1:Int).toNat:Nat):Int)=some d.2 from rfl,show idx (em d) (((0:Int).toNat:Nat):Int)=some d.1 from rfl]
    simp only[Option.bind_some];rw[wrap_small (x:=0-d.1) (by omega) (by omega),Int.zero_sub,show([d.2,-d.1]:List Int)=em (d.2,-d.1)from rfl,d1]
    simp only[Option.bind_some];rw[s_IsHalf_eq (h:=(em (d.2,-d.1),dt (d.2,-d.1) (at_ P x))) (by simp[em,lim_eq])]
    simp only[Option.bind_some];cases halfB 2 (em (d.2,-d.1),dt (d.2,-d.1) (at_ P x))with
    | false=>rfl
    | true =>
     rw[Bool.not_true,cond_false,if_pos rfl,appD_some (by rw[ha,lim_eq];simp;omega) (by rw[ha,lim_eq];simp;omega)]
     rfl
   ·unfold hvB at h';split at h'
    ·simp only[Sum.inl.injEq]at h';rw[←h'];simp[ha]
    ·cases h') (fun a _=>by
   unfold s_HalvesOf_s3;simp) [] rfl
  have L2:=iter_list0 (step:=i_HalvesOf_s5 (P.map em)) (fun a k=>(a,k)) (List.range P.length) (hvB P) (fun a=>(.inl a:List Hf⊕(List Hf×Bool))) (fun k a=>a.length=k) (fun k a x hx ha=>by
   obtain⟨rfl,hk⟩:=hr hx;refine⟨?_,fun a' h'=>?_⟩
   ·unfold i_HalvesOf_s5;simp only;rw[show decide ((x:Int)<((P.map em).length:Int))=true from by simp;omega,cond_true,idxP hk,outward_eq hB g3 g12 hpol hk]
    have sp:=side_spec hB g3 hpol hk;have d1:=(dot_em (sp.mono (by decide)) ((bd hk).mono (by decide))).1
    simp only[Option.bind_some];unfold hvB sideH;simp only;rw[d1];simp only[Option.bind_some];generalize prm (sbp (at_ P ((x+1) % P.length)) (at_ P x))=d at *;rw[i_IsHalf_eq (h:=(em (d.2,-d.1),dt (d.2,-d.1) (at_ P x))) (by simp[em,lim_eq])]
    simp only[Option.bind_some];cases halfB 2 (em (d.2,-d.1),dt (d.2,-d.1) (at_ P x))with
    | false=>rfl
    | true =>
     rw[Bool.not_true,cond_false,if_pos rfl,appD_some (by rw[ha,lim_eq];simp;omega) (by rw[ha,lim_eq];simp;omega),wk hk]
     rfl
   ·unfold hvB at h';split at h'
    ·simp only[Sum.inl.injEq]at h';rw[←h'];simp[ha]
    ·cases h') (fun a _=>by
   unfold i_HalvesOf_s5;simp) [] rfl
  unfold s_HalvesOf;rw[L1,L2];simp only[Option.bind_some];cases h:runL (hvB P) (fun a=>(.inl a:List Hf⊕(List Hf×Bool))) [] (List.range P.length)with
  | inl a =>
   have:=hvB_end P _ _ _ h;refine⟨?_,rfl⟩;simp only;rw[show decide ((a.length:Int)>0)=true from by rw[this];simp;omega]
  | inr b=>exact⟨rfl,rfl⟩
theorem halves_fit {p:List (List Int)}:(halvesL p).1.length≤12∧∀h∈(halvesL p).1,h.1.length=2:=by
 unfold halvesL;cases h1:isPoly p with
 | false=>simp
 | true =>
  obtain⟨P,rfl,hB,g3,g12,hpol⟩:=poly_of h1;rw[if_pos rfl,map_toP,List.length_map];cases h:runL (hvB P) (fun a=>(.inl a:List Hf⊕(List Hf×Bool))) [] (List.range P.length)with
  | inl a =>
   have:=hvB_end P _ _ _ h;rw[List.nil_append]at this;subst this;simp only;refine⟨by simp;omega,fun q hq=>?_⟩
   obtain⟨k,_,rfl⟩:=List.mem_map.1 hq;rfl
  | inr b =>
   have:=hvB_end2 P _ _ _ h;subst this;simp
end Go.Proofs.YtfknaeamhcpfgaaGreat
