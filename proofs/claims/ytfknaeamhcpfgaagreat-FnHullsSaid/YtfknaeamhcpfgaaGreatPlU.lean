/-
  The reference's hull, as a plain function of points; its test of polygons. Plain, no condition.
-/
import Derived.Test.YtfknaeamhcpfgaaGreatPlR
namespace Go.Proofs.YtfknaeamhcpfgaaGreat
open Go Go.Proofs.YtfknaeamhcpfgaaGreat.Eng
open Hull (Pt tn lx Asc ins chk)
set_option linter.all false
theorem cut_of (v:Pt):(S:List Pt)→Asc S→∃l r,S=l++r∧(∀y∈r,lx v y)∧∀y∈l,y=v∨lx y v
 | [],_=>⟨[],[],rfl,by simp,by simp⟩
 | x::S,h=>by
  rcases Hull.lx_tri x v with hx | hx | hx
  ·obtain⟨l,r,e,h1,h2⟩:=cut_of v S h.tail;exact⟨x::l,r,by rw[e];rfl,h1,fun y hy=>by
    rcases List.mem_cons.1 hy with rfl | hy
    ·exact .inr hx
    ·exact h2 y hy⟩
  ·exact⟨[x],S,rfl,fun y hy=>by rw[←hx];exact h.mem_lt hy,fun y hy=>by
    simp only[List.mem_singleton]at hy;subst hy;exact .inl hx⟩
  ·exact⟨[],x::S,rfl,fun y hy=>by
    rcases List.mem_cons.1 hy with rfl | hy
    ·exact hx
    ·exact Hull.lx_trans hx (h.mem_lt hy),by simp⟩
theorem put_tail {l r:List Pt} {v:Pt} (hl:(l ++ r).length≤100000) :
  ((subl ((l++r).map em) (l.length:Int) (((l++r).map em).length:Int)).bind fun v7=>(subl ((l++r).map em) (((l.length:Int)).toNat:Int) ((((l++r).map em).length:Int).toNat:Int)).bind fun v8=>(appD 24 ([]:List (List Int)) v8).bind fun v9 =>
   (subl ((l++r).map em) 0 (l.length:Int)).bind fun v10=>(appD 8 ([]:List Int) (em v)).bind fun v11=>(appD 24 v10 ([v11]:List (List Int))).bind fun v12=>(appD 24 v12 v9).bind fun v13=>some v13)=some ((l++v::r).map em):=by
 have hlen:((l++r).map em).length=l.length+r.length:=by simp
 simp only[List.length_append]at hl;have s1:subl ((l++r).map em) (l.length:Int) (((l++r).map em).length:Int)=some (r.map em):=by
  rw[subl_nat (by rw[hlen];omega) (Nat.le_refl _),List.take_length,List.map_append]
  have:l.length=(l.map em).length:=by simp
  rw[this,List.drop_left]
 have s2:subl ((l++r).map em) 0 (l.length:Int)=some (l.map em):=by
  have:=subl_nat (xs:=(l++r).map em) (a:=0) (b:=l.length) (by omega) (by rw[hlen];omega)
  rw[show((0:Nat):Int)=0 from rfl]at this
  rw[this,List.drop_zero,List.map_append];have e:l.length=(l.map em).length:=by simp
  rw[e,List.take_left]
 simp only[Int.toNat_natCast,s1,s2,Option.bind_some];rw[appD_some (by simp[lim_eq];omega) (by simp[lim_eq];omega)]
 simp only[Option.bind_some];rw[appD_some (by simp[lim_eq,em]) (by simp[lim_eq,em])]
 simp only[Option.bind_some];rw[appD_some (by simp[lim_eq];omega) (by simp[lim_eq];omega)]
 simp only[Option.bind_some];rw[appD_some (by simp[lim_eq];omega) (by simp[lim_eq];omega)]
 simp
theorem l2Put_eq {S:List Pt}(hA:Asc S)(hl:S.length≤100000)(v:Pt):s_l2Put (S.map em) (em v)=some ((ins v S).map em):=by
 obtain⟨l,r,rfl,hr,hlv⟩:=cut_of v S hA;have hlen:((l++r).map em).length=l.length+r.length:=by simp
 rw[List.length_append]at hl;have get:∀k,0<k→k≤l.length+r.length→∃y,(l++r)[k-1]? = some y∧inIdx ((l++r).map em).length (IntKind.i64.wrap ((k:Int)-1))=some ()∧idx ((l++r).map em) ((IntKind.i64.wrap ((k:Int)-1)).toNat:Int)=some (em y):=fun k h0 hk=>by
  have hlt:k-1<(l++r).length:=by rw[List.length_append];omega
  refine⟨(l++r)[k-1],List.getElem?_eq_getElem hlt,?_,?_⟩
  ·rw[wrap_small (by omega) (by omega)]
   exact inIdx_of (by omega) (by rw[hlen];omega)
  ·rw[wrap_small (by omega) (by omega),show(((k:Int)-1).toNat:Int)=((k-1:Nat):Int)from by omega,idx_nat,List.getElem?_map,List.getElem?_eq_getElem hlt];rfl
 have step:∀k,0<k→k≤l.length+r.length→∃y,(l++r)[k-1]? = some y∧s_l2Put_s2 (em v) ((l++r).map em,(k:Int))=if lx v y then some (.inl ((l++r).map em,(k:Int)-1))else some (.inr ((l++r).map em,(k:Int))):=fun k h0 hk=>by
  obtain⟨y,h1,h2,h3⟩:=get k h0 hk;refine⟨y,h1,?_⟩;unfold s_l2Put_s2;simp only;rw[show decide ((k:Int)>0)=true from by simp;omega,cond_true,h2]
  simp only[Option.bind_some,h3,before_em];rw[wrap_small (by omega) (by omega)]
  by_cases hv:lx v y
  ·rw[if_pos hv,show decide (lx v y)=true from by simpa using hv];rfl
  ·rw[if_neg hv,show decide (lx v y)=false from by simpa using hv];rfl
 have hloop:iter (s_l2Put_s2 (em v)) ((l++r).map em,(((l++r).map em).length:Int))=some ((l++r).map em,(l.length:Int)):=by
  have:=iter_up (step:=s_l2Put_s2 (em v)) r.length (fun k=>((l++r).map em,((l.length+r.length-k:Nat):Int))) ((l++r).map em,(l.length:Int)) (fun k hk=>by
   obtain⟨y,h1,h2⟩:=step (l.length+r.length-k) (by omega) (by omega)
   rw[h2];have hy:y∈r:=by
    rw[List.getElem?_append_right (by omega)]at h1
    exact List.mem_of_getElem? h1
   rw[if_pos (hr y hy),show((l.length+r.length-k:Nat):Int)-1=((l.length+r.length-(k+1):Nat):Int)from by omega]) (by
   show s_l2Put_s2 (em v) ((l++r).map em,((l.length+r.length-r.length:Nat):Int))=_;rw[Nat.add_sub_cancel];by_cases h0:l.length=0
   ·unfold s_l2Put_s2;simp[h0]
   ·obtain⟨y,h1,h2⟩:=step l.length (by omega) (by omega)
    rw[h2];have hy:y∈l:=by
     rw[List.getElem?_append_left (by omega)]at h1
     exact List.mem_of_getElem? h1
    rw[if_neg (fun hc=>?_)];rcases hlv y hy with rfl | h3
    ·exact Hull.lx_irr hc
    ·exact Hull.lx_asym hc h3)
  rw[hlen];simpa using this
 unfold s_l2Put;rw[hloop];simp only[Option.bind_some];have ptail:=put_tail (l:=l) (r:=r) (v:=v) (by rw[List.length_append];exact hl)
 have below:(∀y∈l,y≠v)→(ins v (l++r)).map em=(l++v::r).map em:=fun hne=>by
  rw[Hull.ins_at (fun y hy=>(hlv y hy).resolve_left (hne y hy)) hr]
 by_cases h0:l.length=0
 ·rw[show decide ((l.length:Int)>0)=false from by rw[h0];rfl,cond_false]
  have:l=[]:=List.eq_nil_of_length_eq_zero h0;rw[below (by rw[this];simp)]
  exact ptail
 ·rw[show decide ((l.length:Int)>0)=true from by simp;omega,cond_true]
  obtain⟨y,h1,h2,h3⟩:=get l.length (by omega) (by omega)
  rw[h2];simp only[Option.bind_some,h3];rw[l2Same_eq (by simp[em,lim_eq])]
  simp only[Option.bind_some];have hy:l[l.length-1]? = some y:=by rwa [List.getElem?_append_left (by omega)]at h1
  by_cases hv:y=v
  ·subst hv;rw[show(em y==em y)=true from by simp,cond_true,Hull.ins_mem hA (List.mem_append_left _ (List.mem_of_getElem? hy))]
  ·rw[show(em y==em v)=false from by
    cases hq:em y==em v with
    | false=>rfl
    | true=>exact absurd (em_inj (eq_of_beq hq)) hv,cond_false]
   rw[below (fun z hz hzv=>?_)]
   ·exact ptail
   ·subst hzv;obtain⟨i,hi⟩:=List.getElem?_of_mem hz;have hil:=(List.getElem?_eq_some_iff.1 hi).1;have hAl:Asc l:=(List.pairwise_append.1 hA).1;by_cases hil':i=l.length-1
    ·rw[hil',hy]at hi;exact hv (Option.some.inj hi)
    ·have hlt:i<l.length-1:=by omega
     have h4:lx z y:=by
      have:=List.pairwise_iff_getElem.1 hAl i (l.length-1) hil (by omega) hlt
      rw[(List.getElem?_eq_some_iff.1 hi).2,(List.getElem?_eq_some_iff.1 hy).2]at this;exact this
     rcases hlv y (List.mem_of_getElem? hy)with h5 | h5
     ·exact hv h5
     ·exact Hull.lx_asym h4 h5
theorem asc_len_fold:(l s:List Pt)→(l.foldl (fun s v=>ins v s) s).length≤s.length+l.length
 | [],s=>by simp
 | v::l,s=>by
  have h1:=asc_len_fold l (ins v s);have:∀s:List Pt,(ins v s).length≤s.length+1:=by
   intro s;induction s with
   | nil=>simp[ins]
   | cons x s ih =>
    unfold ins;split
    ·simp
    ·split
     ·simp
     ·simp only[List.length_cons];omega
  have:=this s;simp only[List.foldl_cons,List.length_cons];omega
theorem sorted_loop {P:List Pt}(hl:P.length≤1000):iter (s_HullOf_s5 (P.map em)) (([]:List (List Int)),0)=some ((Hull.sorted P).map em):=by
 have hA:∀k,Asc ((P.take k).foldl (fun s v=>ins v s) []):=fun k=>(Hull.sorted_spec (P.take k)).1;have:=iter_up (step:=s_HullOf_s5 (P.map em)) P.length (fun k=>(((P.take k).foldl (fun s v=>ins v s) []).map em,(k:Int))) ((Hull.sorted P).map em) (fun k hk=>by
  have hx:P[k]? = some P[k]:=List.getElem?_eq_getElem hk;unfold s_HullOf_s5;simp only;rw[show decide ((k:Int)<((P.map em).length:Int))=true from by simp;omega,cond_true,idx_nat,List.getElem?_map,hx]
  simp only[Option.map_some,Option.bind_some];rw[l2Put_eq (hA k) (by have:=asc_len_fold (P.take k) [];simp at this;omega)]
  simp only[Option.bind_some];rw[wrap_small (by omega) (by omega),List.take_add_one,hx]
  simp only[Option.toList_some,List.foldl_append,List.foldl_cons,List.foldl_nil];rfl) (by
  unfold s_HullOf_s5;simp[Hull.sorted])
 simpa using this
theorem drop_last_map {B:List Pt}{t:Pt}{R:List Pt}:(B++(t::R).reverse).map em=((B++R.reverse).map em)++[em t]:=by simp
theorem hull12 (m:Int) (hm:m≤1000000) {B:List Pt} {x:Pt} {q:Int} (hB:B.length≤100000) (hx:Bd m x):(S:List Pt)→S.length≤100000→(∀ y∈S,Bd m y) →
  iter (s_l7Hull_s12 (B.map em,q) (em x)) ((B++S.reverse).map em)=some ((B++(Hull.pops x S).reverse).map em)
 | [],_,_=>by
  refine iter_end ?_;unfold s_l7Hull_s12;simp only[List.length_map];rw[wrap_small (x:=(B.length:Int)+2) (by omega) (by omega)]
  rw[show decide (((B++([]:List Pt).reverse).length:Int)≥(B.length:Int)+2)=false from by simp;omega]
  rfl
 | [t],_,_=>by
  refine iter_end ?_;unfold s_l7Hull_s12;simp only[List.length_map];rw[wrap_small (x:=(B.length:Int)+2) (by omega) (by omega)]
  rw[show decide (((B++[t].reverse).length:Int)≥(B.length:Int)+2)=false from by simp]
  rfl
 | t::u::R,hl,hb=>by
  simp only[List.length_cons]at hl;have hL:((B++(t::u::R).reverse).map em).length=B.length+R.length+2:=by simp;omega
  have g1:((B++(t::u::R).reverse).map em)[B.length+R.length]? = some (em u):=by
   rw[List.getElem?_map];have:B++(t::u::R).reverse=(B++R.reverse)++[u,t]:=by simp
   rw[this,List.getElem?_append_right (by simp)]
   have:B.length+R.length-(B++R.reverse).length=0:=by simp
   rw[this];rfl
  have g2:((B++(t::u::R).reverse).map em)[B.length+R.length+1]? = some (em t):=by
   rw[List.getElem?_map];have:B++(t::u::R).reverse=(B++R.reverse)++[u,t]:=by simp
   rw[this,List.getElem?_append_right (by simp)]
   have:B.length+R.length+1-(B++R.reverse).length=1:=by simp
   rw[this];rfl
  have e:s_l7Hull_s12 (B.map em,q) (em x) ((B++(t::u::R).reverse).map em)=if tn u t x≤0 then some (.inl ((B++(u::R).reverse).map em))else some (.inr ((B++(t::u::R).reverse).map em)):=by
   unfold s_l7Hull_s12;simp only;rw[hL,wrap_small (x:=((B.map em).length:Int)+2) (by omega) (by simp;omega)]
   rw[show decide (((B.length+R.length+2:Nat):Int)≥((B.map em).length:Int)+2)=true from by simp;omega,cond_true]
   have w2:IntKind.i64.wrap (((B.length+R.length+2:Nat):Int)-2)=((B.length+R.length:Nat):Int):=by rw[wrap_small (by omega) (by omega)];omega
   have w1:IntKind.i64.wrap (((B.length+R.length+2:Nat):Int)-1)=((B.length+R.length+1:Nat):Int):=by rw[wrap_small (by omega) (by omega)];omega
   rw[w2,w1,inIdx_nat (by omega),inIdx_nat (by omega)]
   simp only[Option.bind_some,Int.toNat_natCast];rw[idx_some g1,idx_some g2];simp only[Option.bind_some];rw[l7Turn_em hm (hb u (by simp)) (hb t (by simp)) hx]
   simp only[Option.bind_some];by_cases ht:tn u t x≤0
   ·rw[if_pos ht,show decide (tn u t x≤0)=true from by simpa using ht,cond_true]
    have:=subl_nat (xs:=(B++(t::u::R).reverse).map em) (a:=0) (b:=B.length+R.length+1) (by omega) (by rw[hL];omega)
    rw[show((0:Nat):Int)=0 from rfl]at this
    rw[this,List.drop_zero,drop_last_map];have hl2:B.length+R.length+1=((B++(u::R).reverse).map em).length:=by simp;omega
    rw[hl2,List.take_left];rfl
   ·rw[if_neg ht,show decide (tn u t x≤0)=false from by simpa using ht,cond_false]
  unfold Hull.pops;by_cases ht:tn u t x≤0
  ·rw[if_pos ht]at e ⊢;rw[iter_next e];exact hull12 m hm hB hx (u::R) (by simp;omega) (fun y hy=>hb y (List.mem_cons_of_mem _ hy))
  ·rw[if_neg ht]at e ⊢;exact iter_end e
theorem pops_sub (x:Pt)(S:List Pt):∀y∈Hull.pops x S,y∈S:=fun y hy=>by
 obtain⟨p,hp⟩:=Hull.pops_suffix x S;rw[hp];exact List.mem_append_right _ hy
theorem pops_len (x:Pt)(S:List Pt):(Hull.pops x S).length≤S.length:=by
 obtain⟨p,hp⟩:=Hull.pops_suffix x S;have:=congrArg List.length hp;rw[List.length_append]at this;omega
theorem fold_push_sub:(l s:List Pt)→∀y∈l.foldl Hull.push s,y∈l∨y∈s
 | [],s,y,h=>.inr h
 | x::l,s,y,h=>by
  rcases fold_push_sub l (Hull.push s x) y h with h | h
  ·exact .inl (List.mem_cons_of_mem _ h)
  ·unfold Hull.push at h;rcases List.mem_cons.1 h with rfl | h
   ·exact .inl (by simp)
   ·exact .inr (pops_sub x s y h)
theorem fold_push_len:(l s:List Pt)→(l.foldl Hull.push s).length≤s.length+l.length
 | [],s=>by simp
 | x::l,s=>by
  have h1:=fold_push_len l (Hull.push s x);have h2:=pops_len x s;unfold Hull.push at h1;simp only[List.length_cons,List.foldl_cons]at h1 ⊢;unfold Hull.push;omega
theorem hull7 (m:Int) (hm:m≤1000000) {L:List Pt} (hL:L.length≤10000) (hb:∀ y∈L,Bd m y) {B:List Pt} (hB:B.length≤20000) (pass:Int) (hp:pass = 0∨pass = 1) :
  iter (s_l7Hull_s7 (L.map em) (B.map em,pass)) (B.map em,0)=some ((B++(Hull.chain (if pass=1 then L.reverse else L)).reverse).map em):=by
 generalize hD:(if pass=1 then L.reverse else L)=D;have hDl:D.length=L.length:=by rw[←hD];split<;>simp
 have hDb:∀y∈D,Bd m y:=fun y hy=>hb y (by rw[←hD]at hy;split at hy<;>simpa using hy)
 have hst:∀k,∀y∈(D.take k).foldl Hull.push [],Bd m y:=fun k y hy=>by
  rcases fold_push_sub _ _ y hy with h | h
  ·exact hDb y (List.mem_of_mem_take h)
  ·simp at h
 have hsl:∀k,((D.take k).foldl Hull.push []).length≤10000:=fun k=>by
  have:=fold_push_len (D.take k) [];simp at this;omega
 have:=iter_up (step:=s_l7Hull_s7 (L.map em) (B.map em,pass)) L.length (fun k=>((B++((D.take k).foldl Hull.push []).reverse).map em,(k:Int))) ((B++(Hull.chain D).reverse).map em) (fun k hk=>by
  have hx:D[k]? = some (D[k]'(by omega)):=List.getElem?_eq_getElem (by omega)
  have hxb:Bd m (D[k]'(by omega)):=hDb _ (List.getElem_mem _)
  have hgo:∀ {st:List (List Int)},st = (B ++ ((D.take k).foldl Hull.push []).reverse).map em→((iter (s_l7Hull_s12 (B.map em,pass) (em (D[k]'(by omega)))) st).bind fun v10=>(appD 24 v10 ([em (D[k]'(by omega))]:List (List Int))).bind fun v11=>(some (.inl (v11,(IntKind.i64.wrap ((k:Int) + (1:Int))))):Option ((List (List Int) × Int) ⊕ List (List Int)))) =
    some (.inl ((B++((D.take (k+1)).foldl Hull.push []).reverse).map em,((k+1:Nat):Int))):=fun{st} hst'=>by
   subst hst';rw[hull12 m hm (by omega) hxb _ (by have:=hsl k;omega) (hst k)]
   simp only[Option.bind_some];have hpl:=pops_len (D[k]'(by omega)) ((D.take k).foldl Hull.push [])
   have:=hsl k;rw[appD_some (by simp[lim_eq];omega) (by simp[lim_eq];omega)]
   simp only[Option.bind_some];rw[wrap_small (by omega) (by omega),List.take_add_one,hx]
   simp only[Option.toList_some,List.foldl_append,List.foldl_cons,List.foldl_nil];unfold Hull.push;rw[List.reverse_cons,←List.append_assoc,List.map_append (l₁:=B++_)];rfl
  unfold s_l7Hull_s7;simp only;rw[show decide ((k:Int)<((L.map em).length:Int))=true from by simp;omega,cond_true]
  have hLk:(L.map em)[k]? = some (em (L[k]'hk)):=by rw[List.getElem?_map,List.getElem?_eq_getElem hk];rfl
  rw[idx_some hLk];simp only[Option.bind_some];rcases hp with rfl | rfl
  ·rw[show((0:Int)==1)=false from rfl,cond_false]
   have e:L[k]'hk=D[k]'(by omega):=by
    have:D=L:=by rw[←hD];rfl
    subst this;rfl
   rw[e];exact hgo rfl
  ·rw[show((1:Int)==1)=true from rfl,cond_true]
   have hDk:D[k]'(by omega)=L[L.length-1-k]'(by omega):=by
    have:D=L.reverse:=by rw[←hD];rfl
    subst this;rw[List.getElem_reverse]
   have hLr:(L.map em)[L.length-1-k]? = some (em (D[k]'(by omega))):=by rw[List.getElem?_map,List.getElem?_eq_getElem (by omega),hDk];rfl
   have w:IntKind.i64.wrap (IntKind.i64.wrap (((L.map em).length:Int)-1)-(k:Int))=((L.length-1-k:Nat):Int):=by
    rw[List.length_map,wrap_small (x:=(L.length:Int)-1) (by omega) (by omega),wrap_small (by omega) (by omega)];omega
   rw[w,idx_some hLr];simp only[Option.bind_some];exact hgo rfl) (by
  unfold s_l7Hull_s7;simp only;rw[show decide ((L.length:Int)<((L.map em).length:Int))=false from by simp,cond_false]
  have:D.take L.length=D:=by rw[←hDl,List.take_length]
  rw[this];rfl)
 simpa using this
theorem chain_ne {x:Pt}{l:List Pt}:Hull.chain (x::l)≠[]:=by
 have:∀(l s:List Pt),s≠[]→l.foldl Hull.push s≠[]:=by
  intro l;induction l with
  | nil=>intro s h;exact h
  | cons y l ih=>intro s _;exact ih _ (by unfold Hull.push;simp)
 exact this l _ (by unfold Hull.push;simp)
theorem l7Hull_eq (m:Int)(hm:m≤1000000){S:List Pt}(hl:S.length≤10000)(hne:S≠[])(hb:∀y∈S,Bd m y):s_l7Hull (S.map em)=some ((Hull.hull S).map em):=by
 let out:Nat→List Pt:=fun k=>match k with
  | 0=>[]
  | 1=>(Hull.chain S).reverse.dropLast
  | _=>Hull.hull S
 have c1:(Hull.chain S).length≤S.length:=by have:=fold_push_len S [];simpa[Hull.chain]using this
 have c2:(Hull.chain S.reverse).length≤S.length:=by have:=fold_push_len S.reverse [];simpa[Hull.chain]using this
 have n1:0<(Hull.chain S).length:=by
  cases S with
  | nil=>exact absurd rfl hne
  | cons x l=>exact List.length_pos_iff.2 chain_ne
 have n2:0<(Hull.chain S.reverse).length:=by
  cases hS:S.reverse with
  | nil=>simp at hS;exact absurd hS hne
  | cons x l=>exact List.length_pos_iff.2 chain_ne
 have fin:∀{T:List Pt},0<T.length→T.length≤30000→subl (T.map em) 0 (IntKind.i64.wrap (((T.map em).length:Int)-1))=some (T.dropLast.map em):=fun{T} h0 h1=>by
  have w:IntKind.i64.wrap (((T.map em).length:Int)-1)=((T.length-1:Nat):Int):=by rw[List.length_map,wrap_small (by omega) (by omega)];omega
  have:=subl_nat (xs:=T.map em) (a:=0) (b:=T.length-1) (by omega) (by simp)
  rw[show((0:Nat):Int)=0 from rfl]at this
  rw[w,this,List.drop_zero,List.dropLast_eq_take,List.map_take]
 have:=iter_up (step:=s_l7Hull_s3 (S.map em)) 2 (fun k=>((out k).map em,(k:Int))) ((Hull.hull S).map em) (fun k hk=>by
  have hk:k=0∨k=1:=by omega
  rcases hk with rfl | rfl
  ·unfold s_l7Hull_s3;simp only;rw[show decide (((0:Nat):Int)<2)=true from rfl,cond_true]
   have h7:=hull7 m hm hl hb (B:=out 0) (by simp[out]) (((0:Nat):Int)) (.inl rfl)
   rw[h7];simp only[Option.bind_some];rw[if_neg (by decide),fin (by simp[out];omega) (by simp[out];omega)]
   simp[out];rfl
  ·unfold s_l7Hull_s3;simp only;rw[show decide (((1:Nat):Int)<2)=true from rfl,cond_true]
   have h7:=hull7 m hm hl hb (B:=out 1) (by simp[out];omega) (((1:Nat):Int)) (.inr rfl)
   rw[h7];simp only[Option.bind_some];rw[if_pos (show((1:Nat):Int)=1 from rfl),fin (by simp[out];omega) (by simp[out];omega)]
   have hd:(out 1++(Hull.chain S.reverse).reverse).dropLast=Hull.hull S:=by
    rw[List.dropLast_append_of_ne_nil (by intro h;rw[List.reverse_eq_nil_iff]at h;rw[h]at n2;simp at n2)]
    rfl
   rw[hd];simp[out];rfl) (by
  unfold s_l7Hull_s3;rfl)
 unfold s_l7Hull;have e:(([],0):List (List Int)×Int)=((out 0).map em,((0:Nat):Int)):=rfl;rw[e,this];rfl
theorem l7Copy_eq {x:List (List Int)}(hl:x.length≤100000)(hx:∀v∈x,v.length≤1000):s_l7Copy x=some x:=by
 have:=iter_up (step:=s_l7Copy_s3 x) x.length (fun k=>(x.take k,(k:Int))) x (fun k hk=>by
  have hg:x[k]? = some x[k]:=List.getElem?_eq_getElem hk;have hv:=hx _ (List.getElem_mem hk);unfold s_l7Copy_s3;simp only;rw[show decide ((k:Int)<(x.length:Int))=true from by simp;omega,cond_true,idx_some hg]
  simp only[Option.bind_some];rw[appD_some (by simp[lim_eq];omega) (by simp[lim_eq];omega)]
  simp only[Option.bind_some,List.nil_append];rw[appD_some (by simp[lim_eq];omega) (by simp[lim_eq];omega)]
  simp only[Option.bind_some];rw[wrap_small (by omega) (by omega),List.take_add_one,hg]
  rfl) (by
  unfold s_l7Copy_s3;simp)
 unfold s_l7Copy;have e:(([],0):List (List Int)×Int)=(x.take 0,((0:Nat):Int)):=rfl;rw[e,this];rfl
theorem l7SameList_eq {a b:List (List Int)}(hl:a.length≤lim)(ha:∀v∈a,v.length≤lim):s_l7SameList a b=some (a==b):=by
 unfold s_l7SameList;by_cases h:a.length=b.length
 ·have e:((a.length:Int) != (b.length:Int))=false:=by simp[h]
  rw[e,cond_false];have:=iter_eqs (step:=s_l7SameList_s4 a b) a b (fun x y=>x==y) h (fun k x y hx hy=>by
   have hk:=len_lt hx;unfold s_l7SameList_s4;have d:decide ((k:Int)<(a.length:Int))=true:=by simp;omega
   rw[d,cond_true,idx_some hx,idx_some hy];simp only[Option.bind_some];rw[l2Same_eq (ha x (List.mem_of_getElem? hx)),wrap_succ (by omega)]
   simp only[Option.bind_some];cases x==y<;>rfl) (by
   unfold s_l7SameList_s4;simp)
  rw[this,eqL_beq];cases hq:a==b<;>simp
 ·have e:((a.length:Int) != (b.length:Int))=true:=by simp;omega
  rw[e,cond_true];have:(a==b)=false:=by
   cases hq:a==b with
   | false=>rfl
   | true=>exact absurd (by rw[eq_of_beq hq]) h
  rw[this]
def hullS (p:List (List Int)):List (List Int)×Bool :=
 if p.length≤200∧p.all (isPt 50)=true then
  (let S:=Hull.sorted (p.map toP)
   let H:=Hull.hull S
   if 3≤S.length∧3≤H.length∧H.length≤12 then(H.map em,true)else([],false))
 else([],false)
theorem hull_len (S:List Pt):(Hull.hull S).length≤2*S.length:=by
 have c1:(Hull.chain S).length≤S.length:=by have:=fold_push_len S [];simpa[Hull.chain]using this
 have c2:(Hull.chain S.reverse).length≤S.length:=by have:=fold_push_len S.reverse [];simpa[Hull.chain]using this
 unfold Hull.hull;simp;omega
theorem sorted_len (P:List Pt):(Hull.sorted P).length≤P.length:=by
 have:=asc_len_fold P [];simpa[Hull.sorted]using this
theorem s_HullOf_eq {p:List (List Int)}(hl:p.length≤lim)(hx:∀v∈p,v.length≤lim):s_HullOf p=some (hullS p):=by
 unfold s_HullOf hullS;by_cases h1:p.length≤200
 ·rw[show decide ((p.length:Int)>200)=false from by simp;omega,cond_false,l7Flat_eq hl hx]
  simp only[Option.bind_some];cases h2:p.all (isPt 50)with
  | false=>simp[h1]
  | true =>
   obtain⟨P,rfl,hB⟩:=pts_of h2;rw[List.length_map]at h1;rw[Bool.not_true,cond_false,sorted_loop (by omega),if_pos ⟨by simpa using h1,rfl⟩,map_toP]
   simp only[Option.bind_some,List.length_map];have hsl:=sorted_len P;have hSb:∀y∈Hull.sorted P,Bd 50 y:=fun y hy=>hB y (((Hull.sorted_spec P).2 y).1 hy);by_cases h3:3≤(Hull.sorted P).length
   ·rw[show decide (((Hull.sorted P).length:Int)<3)=false from by simp;omega,cond_false]
    rw[l7Hull_eq 50 (by decide) (by omega) (by intro h;rw[h]at h3;simp at h3) hSb]
    simp only[Option.bind_some,List.length_map];have hhl:=hull_len (Hull.sorted P);by_cases h4:3≤(Hull.hull (Hull.sorted P)).length
    ·rw[show decide (((Hull.hull (Hull.sorted P)).length:Int)<3)=false from by simp;omega,cond_false]
     by_cases h5:(Hull.hull (Hull.sorted P)).length≤12
     ·rw[show decide (((Hull.hull (Hull.sorted P)).length:Int)>12)=false from by simp;omega,cond_false,if_pos ⟨h3,h4,h5⟩]
      rw[l7Copy_eq (by rw[List.length_map];omega) (fun v hv=>by
       obtain⟨q,_,rfl⟩:=List.mem_map.1 hv;simp[em])]
      rfl
     ·rw[show decide (((Hull.hull (Hull.sorted P)).length:Int)>12)=true from by simp;omega,cond_true,if_neg (fun h=>h5 h.2.2)]
    ·rw[show decide (((Hull.hull (Hull.sorted P)).length:Int)<3)=true from by simp;omega,cond_true,if_neg (fun h=>h4 h.2.1)]
   ·rw[show decide (((Hull.sorted P).length:Int)<3)=true from by simp;omega,cond_true,if_neg (fun h=>h3 h.1)]
 ·rw[show decide ((p.length:Int)>200)=true from by simp;omega,cond_true,if_neg (fun h=>h1 h.1)]
theorem s_IsPolygon_eq {p:List (List Int)}(hl:p.length≤lim)(hx:∀v∈p,v.length≤lim):s_IsPolygon p=some (isPoly p):=by
 unfold s_IsPolygon;rw[l1In_eq];simp only[Option.bind_some];unfold isPoly;cases h1:inR 3 12 (p.length:Int)with
 | false=>rfl
 | true =>
  rw[Bool.not_true,cond_false,l7Flat_eq hl hx];simp only[Option.bind_some];cases h2:p.all (isPt 50)with
  | false=>rfl
  | true =>
   rw[Bool.not_true,cond_false,s_HullOf_eq hl hx];simp only[Option.bind_some,Bool.true_and];obtain⟨P,rfl,hB⟩:=pts_of h2;rw[inR_iff,List.length_map]at h1;have hp:=isPoly_iff hB;unfold isPoly at hp;rw[h2]at hp;have hi:inR 3 12 (((P.map em).length:Nat):Int)=true:=by rw[inR_iff,List.length_map];exact h1
   rw[hi,Bool.true_and,Bool.true_and]at hp;unfold hullS;rw[if_pos ⟨by rw[List.length_map];omega,h2⟩,map_toP]
   simp only;by_cases hc:3≤(Hull.sorted P).length∧3≤(Hull.hull (Hull.sorted P)).length∧(Hull.hull (Hull.sorted P)).length≤12
   ·rw[if_pos hc];simp only[cond_true];have hhl:=hull_len (Hull.sorted P);have hsl:=sorted_len P;rw[l7SameList_eq (by rw[List.length_map,lim_eq];omega) (fun v hv=>by
     obtain⟨q,_,rfl⟩:=List.mem_map.1 hv;simp[em,lim_eq])]
    simp only[Option.bind_some];congr 1
    rw[Bool.eq_iff_iff];rw[map_toP]at hp;rw[hp,beq_iff_eq,Hull.pol_iff];constructor
    ·intro he;have:Hull.hull (Hull.sorted P)=P:=by
      have:=congrArg (List.map toP) he
      rwa [map_toP,map_toP]at this
     exact⟨by omega,by omega,hc.1,this⟩
    ·rintro⟨_,_,_,he⟩
     rw[he]
   ·rw[if_neg hc];simp only[cond_false];congr 1
    symm
    rw[Bool.eq_false_iff];intro hq;rw[map_toP]at hp;obtain⟨h12,hpol⟩:=hp.1 hq;obtain⟨h3,h4,h5⟩:=(Hull.pol_iff P).1 hpol;exact hc ⟨h4,by rw[h5];exact h3,by rw[h5];exact h12⟩
end Go.Proofs.YtfknaeamhcpfgaaGreat
