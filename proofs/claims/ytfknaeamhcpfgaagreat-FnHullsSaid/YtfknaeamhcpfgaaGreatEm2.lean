/-
  Texts put together: Eng14, Eng15, Eng16, Eng17, Eng18, Eng19, Eng20, Eng21, Eng22, Eng23, Eng26, Eng27, Eng28. No condition.
-/
import Derived.Test.YtfknaeamhcpfgaaGreatEm1
namespace Go.Proofs.YtfknaeamhcpfgaaGreat.Eng
open Go
set_option linter.all false
section
variable {ρ:Type}{C:Ctx}{E:En}{G:Gh}{σ:Sg}{a:Act}{w:World}
theorem rep_get {n i:Nat}:(List.replicate n ([]:List Nat))[i]?.getD []=[]:=by
 rw[List.getElem?_replicate];split<;>rfl
theorem flatMap_flat (f:Nat→List Nat):(l:List (List Nat))→l.flatten.flatMap f=(l.map fun m=>m.flatMap f).flatten
 | []=>rfl
 | m::l=>by simp only[List.flatten_cons,List.flatMap_append,List.map_cons,flatMap_flat f l]
theorem RelG.newOwn (h:RelG E G σ a w) {w':World} (x:Ext w w') (dp:Bool) (e:TypeId) (t:Ty) (xs:List t.den) (cells:List Value) (v:Value)
  (hown:w'.ownsRow 0 e t.wid v xs.length cells) (hfresh:∀b,v.ownBlock=some b→w.heap.size≤b) (hl:xs.length≤lim)
  (hc:Chk t xs cells fun _ y ys=>RdC (Imm E G σ w) w t y ys) (hd:dp=true→t.flat=true) :
  ∃G',RelG E G' (addHp σ (.own false dp e t xs)) a w'∧GA E σ (addHp σ (.own false dp e t xs)) G G' w w'∧VL (Imm E G' (addHp σ (.own false dp e t xs)) w') (addHp σ (.own false dp e t xs)).hp.length G' w' (.ref σ.hp.length) v:=by
 obtain⟨G',h1,h2,h3⟩:=h.add x (.own false dp e t xs) v v.ownBlock.toList rfl (by cases v.ownBlock<;>simp)
  (fun b hb=>by
   simp only[Option.mem_toList]at hb;exact⟨hfresh b hb,(hown.lt b hb).2⟩)
  fun I G' k hG=>by
   simp only[OR,hG];refine OwnV.mk (bss:=if dp=true then List.replicate xs.length []else []) hl hown ?_ (fun hdp=>by simp[hdp]) (fun hdp=>by simp[hdp]) ?_
   ·split<;>simp
   ·refine hc.imp fun i y ys hi hy=>?_;cases dp with
    | false=>simpa using hy.mono k.imm k.heap t
    | true=>simp only[if_true,rep_get];exact flat_Dp t (hd rfl) (flat_RdC (I':=I) t (hd rfl) hy)
 refine⟨G',h1,h3,by simp[addHp],h2.symm,?_⟩
 rcases hown.2 with⟨hv,_⟩ | ⟨g,cap,cur,hv,_⟩<;>(rw[hv];rfl)
theorem buildSliceK_some {t:TypeId} {len:Nat} {parts:Array (Nat × Operand)} {k:A→Sg→Option ρ} {r:ρ} (h:RelG E G σ a w) (hk:buildSliceK C σ t len parts k = some r) :
  ∃u w',(Instr.buildSlice t len (parts.map fun(i,x)=>(i,a.eval x))).run C.P w=.ok u w'∧OpOut C E G σ a w k r (.ok (.value u) w'):=by
 unfold buildSliceK at hk;split at hk
 ·rename_i e he;split at hk
  ·rename_i ty hlook;simp only at hk;split at hk
   ·rename_i hc;obtain⟨hsz,rfl,hord,hlim,hzs⟩:=hc;obtain⟨i,hi,his⟩:=szT_some hsz;have hz:∃z,i.zero=some z:=by
     unfold zeroLs at hzs;simp only[hi,Option.bind_some]at hzs;cases hzz:i.zero with
     | none=>simp[hzz]at hzs
     | some z=>exact⟨z,rfl⟩
    obtain⟨z,hz⟩:=hz;have hvas:∀(l:List (Nat×Operand)),VAs (Imm E G σ w) σ.hp.length G w (l.map fun p=>getA σ p.2) (l.map fun p=>a.eval p.2):=by
     intro l;induction l with
     | nil=>trivial
     | cons p l ih=>exact⟨h.get p.2,ih⟩
    have hfm:∀(l:List (Nat×Operand)),((l.map fun p=>(p.1,a.eval p.2)).flatMap fun p=>p.2.cells.toList)=(l.map fun p=>a.eval p.2).flatMap fun u=>u.cells.toList:=by
     intro l;induction l with
     | nil=>rfl
     | cons p l ih=>simp only[List.map_cons,List.flatMap_cons,ih]
    have run:(∀ u∈(parts.toList.map fun p=>a.eval p.2),u.cells.size = ty.wid)→∃ arr:Array Value,arr.toList = ((parts.toList.map fun p=>a.eval p.2).flatMap fun u=>u.cells.toList) ∧
      (Instr.buildSlice t parts.size (parts.map fun(i,x)=>(i,a.eval x))).run C.P w=.ok (.slice (some ⟨w.heap.size,0,none⟩) parts.size parts.size) (w.alloc (.cells arr e)):=fun hu=>by
     obtain⟨arr,h1,h2⟩:=run_buildSlice (P:=C.P) (w:=w) (parts:=parts.map fun(i,x)=>(i,a.eval x)) (elT_some he) hi his hz (fun j p hj=>by
      simp only[Array.toList_map,List.getElem?_map]at hj;cases hp:parts.toList[j]? with
      | none=>simp[hp]at hj
      | some q =>
       simp only[hp,Option.map_some,Option.some.injEq]at hj;subst hj;have:=inOrder_at 0 parts.toList hord j q hp;exact⟨by simpa using this,hu _ (List.mem_map.2 ⟨q,List.mem_of_getElem? hp,rfl⟩)⟩) (by simpa using hlim)
     refine⟨arr,?_,by simpa using h2⟩
     rw[h1,Array.toList_map,hfm]
    have hmax:parts.size≤lim:=by
     have:=ty.wid_pos;have h1:parts.size*1≤parts.size*ty.wid:=Nat.mul_le_mul_left _ this;unfold lim;omega
    cases hfl:(ty.flat||(parts.toList.map fun p=>getA σ p.2).all fun x=>(canTk ty σ (cellsA x)).1)&&!ty.flat with
    | true =>
     rw[hfl]at hk;simp only[Bool.and_eq_true,Bool.not_eq_true']at hfl;obtain⟨ys,σ2,news,hk,hyl,hnl,hg,hids,hnd,hus,hchk⟩:=elemsT_some ty h _ (Gone.refl σ) hk (hvas parts.toList);obtain⟨arr,ha1,ha2⟩:=run hus;simp only[List.length_map]at hyl hnl;have hyl':ys.length=parts.size:=by simpa using hyl
     have hown:(w.alloc (.cells arr e)).ownsRow 0 e ty.wid (.slice (some ⟨w.heap.size,0,none⟩) parts.size parts.size) ys.length arr.toList:=by
      have:=World.ownsRow_lit (e:=e) (size:=ty.wid) w arr parts.size (base:=0) (Nat.zero_le _) (by unfold maxLen;unfold lim at hmax;omega) (by
       rw[←Array.length_toList,ha1,hchk.1,hyl'])
      rw[hyl'];exact this
     rw[hfl.1]at hk;simp only[List.nil_append]at hg;have hclaim:∀b,b∈(news.flatten.flatMap fun i=>(G i).2)→b<w.heap.size∧∃d∈news.flatten,∃o',σ.ob d=some o'∧o'.ro=false∧b∈(G d).2:=fun b hb=>by
      obtain⟨d,hd,hbd⟩:=List.mem_flatMap.1 hb;obtain⟨_,o',ho',hr'⟩:=hids d hd;exact⟨(h.range d o' ho' hr' b hbd).1,d,hd,o',ho',hr',hbd⟩
     have hndc:∀(l:List Nat),l.Nodup→(∀i∈l,∃o,σ.ob i=some o∧o.ro=false)→(l.flatMap fun i=>(G i).2).Nodup:=by
      intro l;induction l with
      | nil=>intro _ _;simp
      | cons j l ih =>
       intro hn ho;rw[List.flatMap_cons,List.nodup_append];rw[List.nodup_cons]at hn;obtain⟨oj,hoj,hrj⟩:=ho j (by simp)
       refine⟨h.nodup j oj hoj hrj,ih hn.2 fun i hi=>ho i (List.mem_cons_of_mem _ hi),fun b hb c hc hbc=>?_⟩;subst hbc;obtain⟨d,hd,hbd⟩:=List.mem_flatMap.1 hc;obtain⟨od,hod,hrd⟩:=ho d (List.mem_cons_of_mem _ hd);exact h.disj j d oj od hoj hrj hod hrd (fun e=>hn.1 (e▸hd)) b hb hbd
     obtain⟨G',hrel,hG',hke⟩:=h.chg (σ':=addHp σ2 (.own false true e ty ys)) news.flatten σ.hp.length (.own false true e ty ys) (.slice (some ⟨w.heap.size,0,none⟩) parts.size parts.size)
      (w.heap.size::news.flatten.flatMap fun i=>(G i).2) (w':=w.alloc (.cells arr e))
      (fun j=>by
       rw[ob_addHp,hg.len];split
       ·rfl
       ·exact hg.ob j) hg.env (by simp[hg.len]) (.inl rfl) rfl rfl rfl ⟨rfl,fun _=>Nat.le_refl _⟩ (by simp) (fun b hb _=>heap_alloc_old w _ b hb)
      (by
       rw[List.nodup_cons];exact⟨fun hm=>by have:=(hclaim _ hm).1;omega,hndc _ hnd fun i hi=>(hids i hi).2⟩)
      (fun b hb=>by
       rcases List.mem_cons.1 hb with rfl | hb
       ·exact .inl ⟨Nat.le_refl _,by simp⟩
       ·exact .inr (hclaim b hb))
      (fun b hb=>by simp at hb;subst hb;exact .inl (Nat.le_refl _))
      (fun I G' kk hG=>by
       simp only[OR,hG];refine OwnV.mk (cells:=arr.toList) (bss:=news.map fun l=>l.flatMap fun i=>(G i).2) (by rw[hyl'];exact hmax) hown ?_ (fun _=>by rw[List.length_map,hnl];simpa using hyl.symm) (fun hf=>by simp at hf) ?_
       ·simp only[Value.ownBlock,Option.toList_some,List.singleton_append];congr 1
        rw[flatMap_flat]
       ·rw[ha1];refine hchk.imp fun i y ys hi hy=>?_;simp only[if_true,List.getElem?_map];have e1:((news[i]?.map fun l=>l.flatMap fun i=>(G i).2).getD [])=(news[i]?.getD []).flatMap fun i=>(G i).2:=by cases news[i]?<;>rfl
        rw[e1];refine hy.mono (Nat.le_refl _) ty fun b hb=>heap_alloc_old w _ b ?_;refine(hclaim b ?_).1;obtain⟨d,hd,hbd⟩:=List.mem_flatMap.1 hb;refine List.mem_flatMap.2 ⟨d,?_,hbd⟩;cases hgi:news[i]? with
        | none=>simp[hgi]at hd
        | some l=>simp only[hgi,Option.getD_some]at hd;exact List.mem_flatten.2 ⟨l,List.mem_of_getElem? hgi,hd⟩)
     have kp:Kp σ σ2:=⟨hg.env,by rw[hg.len];exact Nat.le_refl _,fun i o ho hr=>by
      rw[hg.ob i,if_neg,ho];intro hi;obtain⟨_,o',ho',hr'⟩:=hids i hi;rw[ho]at ho';obtain rfl:=Option.some.inj ho';rw[hr]at hr';simp at hr'⟩
     refine⟨_,_,ha2,_,_,hk,kp.trans (Kp.add _ _),G',hrel,hke,by simp[addHp],by rw[hg.len];exact hG'.symm,rfl⟩
    | false =>
     rw[hfl]at hk;obtain⟨ys,σ2,hk,hyl,h2,kp,ke,hus,hchk⟩:=elemsF_some ty _ h hk (hvas parts.toList);obtain⟨arr,ha1,ha2⟩:=run hus;simp only[List.length_map]at hyl;have hyl':ys.length=parts.size:=by simpa using hyl
     have hown:(w.alloc (.cells arr e)).ownsRow 0 e ty.wid (.slice (some ⟨w.heap.size,0,none⟩) parts.size parts.size) ys.length arr.toList:=by
      have:=World.ownsRow_lit (e:=e) (size:=ty.wid) w arr parts.size (base:=0) (Nat.zero_le _) (by unfold maxLen;unfold lim at hmax;omega) (by
       rw[←Array.length_toList,ha1,hchk.1,hyl'])
      rw[hyl'];exact this
     obtain⟨G',h3,hga,h4⟩:=h2.newOwn (Ext.alloc w (.cells arr e)) (ty.flat||(parts.toList.map fun p=>getA σ p.2).all fun x=>(canTk ty σ (cellsA x)).1) e ty ys arr.toList _ hown (fun b hb=>by
      simp[Value.ownBlock]at hb;omega) (by rw[hyl'];exact hmax) (by rw[ha1];exact hchk) (fun hd=>by
       rw[hd]at hfl;simpa using hfl)
     exact⟨_,_,ha2,_,_,hk,kp.trans (Kp.add _ _),G',h3,GA.trans ke hga,h4⟩
   ·simp at hk
  ·simp at hk
 ·simp at hk
end
open Go
set_option linter.all false
section
variable {ρ:Type}{C:Ctx}{E:En}{G:Gh}{σ:Sg}{a:Act}{w:World}
theorem zeroOk_RdC {I:Nat→Prop}:(t:Ty)→(vs:List Value)→(zeroOk t vs).1=true→∃cs,vs=cs++(zeroOk t vs).2∧RdC I w t t.dflt cs
 | .prod p q,vs,h=>by
  simp only[zeroOk,Bool.and_eq_true]at h ⊢;obtain⟨c1,h1,r1⟩:=zeroOk_RdC p vs h.1;obtain⟨c2,h2,r2⟩:=zeroOk_RdC q _ h.2;refine⟨c1++c2,?_,?_⟩
  ·rw[List.append_assoc,←h2,←h1]
  ·simp only[RdC];exact⟨c1,c2,rfl,r1,r2⟩
 | .int k,v::vs,h=>by
  simp only[zeroOk]at h ⊢;split at h
  ·have:=of_decide_eq_true h;subst this;exact⟨[_],rfl,rfl⟩
  ·simp at h
 | .bool,v::vs,h=>by
  simp only[zeroOk]at h ⊢;split at h
  ·exact⟨[_],rfl,rfl⟩
  ·simp at h
 | .str,v::vs,h=>by
  simp only[zeroOk]at h ⊢;split at h
  ·rename_i s;have h:s.size=0:=by simpa using h
   have:s=ByteArray.empty:=by
    cases s with
    | mk d=>cases d with
     | mk l=>cases l with
      | nil=>rfl
      | cons _ _=>simp[ByteArray.size]at h
   subst this;exact⟨[_],rfl,rfl,Nat.zero_le _⟩
  ·simp at h
 | .list t,v::vs,h=>by
  simp only[zeroOk]at h ⊢;split at h
  ·exact⟨[_],rfl,none,0,0,rfl,rfl,Nat.le_refl _,Nat.zero_le _,Nat.zero_le _,fun hne=>absurd rfl hne⟩
  ·simp at h
 | .int k,[],h=>by simp[zeroOk]at h
 | .bool,[],h=>by simp[zeroOk]at h
 | .str,[],h=>by simp[zeroOk]at h
 | .list t,[],h=>by simp[zeroOk]at h
theorem zeroOk_full {I:Nat→Prop}{t:Ty}{vs:List Value}(h:(zeroOk t vs).1=true)(hl:vs.length=t.wid):RdC I w t t.dflt vs:=by
 obtain⟨cs,h1,h2⟩:=zeroOk_RdC (I:=I) (w:=w) t vs h;have hl2:=h2.length;have:(zeroOk t vs).2=[]:=List.eq_nil_of_length_eq_zero (by
  have:=congrArg List.length h1;rw[List.length_append]at this;omega)
 rw[this,List.append_nil]at h1;rw[h1];exact h2
theorem zeroOk_DpC:(t:Ty)→(vs:List Value)→(zeroOk t vs).1=true→∃cs,vs=cs++(zeroOk t vs).2∧DpC 0 w t t.dflt cs []
 | .prod p q,vs,h=>by
  simp only[zeroOk,Bool.and_eq_true]at h ⊢;obtain⟨c1,h1,r1⟩:=zeroOk_DpC p vs h.1;obtain⟨c2,h2,r2⟩:=zeroOk_DpC q _ h.2;refine⟨c1++c2,?_,?_⟩
  ·rw[List.append_assoc,←h2,←h1]
  ·simp only[DpC];exact⟨c1,c2,[],[],rfl,rfl,r1,r2⟩
 | .int k,v::vs,h=>by
  simp only[zeroOk]at h ⊢;split at h
  ·have:=of_decide_eq_true h;subst this;exact⟨[_],rfl,rfl,rfl⟩
  ·simp at h
 | .bool,v::vs,h=>by
  simp only[zeroOk]at h ⊢;split at h
  ·exact⟨[_],rfl,rfl,rfl⟩
  ·simp at h
 | .str,v::vs,h=>by
  simp only[zeroOk]at h ⊢;split at h
  ·rename_i s;have h:s.size=0:=by simpa using h
   have:s=ByteArray.empty:=by
    cases s with
    | mk d=>cases d with
     | mk l=>cases l with
      | nil=>rfl
      | cons _ _=>simp[ByteArray.size]at h
   subst this;exact⟨[_],rfl,rfl,Nat.zero_le _,rfl⟩
  ·simp at h
 | .list t,v::vs,h=>by
  simp only[zeroOk]at h ⊢;split at h
  ·exact⟨[_],rfl,none,0,0,rfl,rfl,Nat.le_refl _,Nat.zero_le _,Nat.zero_le _,.inl ⟨rfl,rfl,rfl,rfl⟩⟩
  ·simp at h
 | .int k,[],h=>by simp[zeroOk]at h
 | .bool,[],h=>by simp[zeroOk]at h
 | .str,[],h=>by simp[zeroOk]at h
 | .list t,[],h=>by simp[zeroOk]at h
theorem zeroOk_fullD {t:Ty}{vs:List Value}(h:(zeroOk t vs).1=true)(hl:vs.length=t.wid):DpC 0 w t t.dflt vs []:=by
 obtain⟨cs,h1,h2⟩:=zeroOk_DpC (w:=w) t vs h;have hl2:=h2.length;have:(zeroOk t vs).2=[]:=List.eq_nil_of_length_eq_zero (by
  have:=congrArg List.length h1;rw[List.length_append]at this;omega)
 rw[this,List.append_nil]at h1;rw[h1];exact h2
theorem made_chk {I:Nat→Prop} {t:Ty} {z:Array Value} (n:Nat) (hz:z.size = t.wid) (hr:RdC I w t t.dflt z.toList) :
  Chk t (List.replicate n t.dflt) (madeCells z (n*t.wid)).toList fun _ y ys=>RdC I w t y ys:=by
 have hw:=t.wid_pos;refine⟨by simp[size_madeCells],fun i y hi=>?_⟩
 rw[List.getElem?_replicate]at hi;split at hi
 ·rename_i hin;obtain rfl:=Option.some.inj hi;refine⟨z.toList,by simp[hz],fun j hj=>?_,hr⟩
  have hlt:=chunk_lt hin hj;simp only[madeCells,Array.toList_map,Array.toList_range,List.getElem?_map,List.getElem?_range hlt,Option.map_some];have hm:(i*t.wid+j) % z.size=j:=by
   rw[hz,Nat.add_comm,Nat.add_mul_mod_self_right,Nat.mod_eq_of_lt hj]
  rw[hm];have hjz:j<z.size:=by omega
  simp[hjz]
 ·simp at hi
theorem made_chkP {t:Ty} {R:t.den→List Value→Prop} {z:Array Value} (n:Nat) (hz:z.size = t.wid) (hr:R t.dflt z.toList) :
  Chk t (List.replicate n t.dflt) (madeCells z (n*t.wid)).toList fun _ y ys=>R y ys:=by
 have hw:=t.wid_pos;refine⟨by simp[size_madeCells],fun i y hi=>?_⟩
 rw[List.getElem?_replicate]at hi;split at hi
 ·rename_i hin;obtain rfl:=Option.some.inj hi;refine⟨z.toList,by simp[hz],fun j hj=>?_,hr⟩
  have hlt:=chunk_lt hin hj;simp only[madeCells,Array.toList_map,Array.toList_range,List.getElem?_map,List.getElem?_range hlt,Option.map_some];have hm:(i*t.wid+j) % z.size=j:=by
   rw[hz,Nat.add_comm,Nat.add_mul_mod_self_right,Nat.mod_eq_of_lt hj]
  rw[hm];have hjz:j<z.size:=by omega
  simp[hjz]
 ·simp at hi
theorem mkD_some {α β:Type} {n:Nat} {m:Int} {d:α} {k:List α→Option β} {r:β} (h:(mkD n m d).bind k = some r) :
  0≤m∧m*n≤lim∧m≤lim∧k (List.replicate m.toNat d)=some r:=by
 unfold mkD at h;split at h
 ·rename_i hc;exact⟨hc.1,hc.2.1,hc.2.2,h⟩
 ·simp at h
theorem makeSliceK_some {t:TypeId} {l c:Operand} {k:A→Sg→Option ρ} {r:ρ} (h:RelG E G σ a w) (hk:makeSliceK C σ t l c k = some r) :
  ∃u w',(Instr.makeSlice t (a.eval l) (a.eval c)).run C.P w=.ok u w'∧OpOut C E G σ a w k r (.ok (.value u) w'):=by
 unfold makeSliceK at hk;split at hk
 ·rename_i p q e he;split at hk
  ·rename_i hpq;subst hpq;split at hk
   ·rename_i nn n ty by_ hget hlook hby;split at hk
    ·rename_i hc;obtain⟨hsz,hz⟩:=hc;obtain⟨i,hi,his⟩:=szT_some hsz;obtain⟨i',hi',hib⟩:=byT_some hby;rw[hi]at hi';obtain rfl:=Option.some.inj hi';obtain⟨z,hiz,hzo,hzs⟩:∃z,i.zero=some z∧(zeroOk ty z.cells.toList).1=true∧z.cells.size=ty.wid:=by
      simp only[hi,Option.bind_some]at hz;cases hzz:i.zero with
      | none=>simp[hzz]at hz
      | some z=>simp[hzz]at hz;exact⟨z,rfl,hz.1,hz.2⟩
     have hv:=h.get (.tmp p);rw[hget]at hv;have hv:=datInt hv;obtain⟨h0,h1,h2,hk⟩:=mkD_some hk;obtain⟨m,rfl⟩:=Int.eq_ofNat_of_zero_le h0;simp only[Int.toNat_natCast]at hk;have hml:m≤lim:=by omega
     have hmb:i.bytes*m≤lim:=by rw[hib,Nat.mul_comm];exact_mod_cast h1
     obtain⟨w',hrun,hown,hgrow⟩:=run_make_full (P:=C.P) w 0 t e i z ty.wid (elT_some he) hi hiz his .i64 .i64 m (by unfold lim at hmb;omega) (by unfold maxLen;unfold lim at hml;omega) (Nat.zero_le _)
     have hext:Ext w w':=⟨hgrow.os,hgrow.tape,⟨hgrow.output,fun _=>run_drawn _ hrun⟩,hgrow.size,fun b hb=>hgrow.block b hb (by simp)⟩
     obtain ⟨G',h3,hga,h4⟩:∃ G',RelG E G' (addHp σ (.own false true e ty (List.replicate m ty.dflt))) a w'∧GA E σ (addHp σ (.own false true e ty (List.replicate m ty.dflt))) G G' w w' ∧
       VL (Imm E G' (addHp σ (.own false true e ty (List.replicate m ty.dflt))) w') (addHp σ (.own false true e ty (List.replicate m ty.dflt))).hp.length G' w' (.ref σ.hp.length) (.slice (some ⟨w.heap.size,0,none⟩) m m):=by
      obtain⟨G',h1,h2,h3⟩:=h.add hext (.own false true e ty (List.replicate m ty.dflt)) (.slice (some ⟨w.heap.size,0,none⟩) m m) [w.heap.size] rfl (by simp)
       (fun b hb=>by simp at hb;subst hb;exact⟨Nat.le_refl _,(hown.lt w.heap.size rfl).2⟩)
       fun I G' k hG=>by
        simp only[OR,hG];refine OwnV.mk (cells:=(madeCells z.cells (m*ty.wid)).toList) (bss:=List.replicate m []) (by simpa using hml) (by simpa using hown) (by simp[Value.ownBlock]) (fun _=>by simp) (fun hf=>by simp at hf) ?_
        refine(made_chkP (R:=fun y ys=>y=ty.dflt∧DpC 0 w' ty ty.dflt ys []) m hzs ⟨rfl,zeroOk_fullD hzo (by simpa using hzs)⟩).imp fun i y ys hi hy=>?_
        simp only[if_true,rep_get];rw[hy.1];exact hy.2
      exact⟨G',h1,h3,by simp[addHp],h2.symm,rfl⟩
     refine⟨_,w',?_,_,_,hk,Kp.add _ _,G',h3,hga,h4⟩;rw[hv];exact hrun
    ·simp at hk
   ·simp at hk
  ·simp at hk
 ·simp at hk
theorem run_storeVar {t:TypeId} {b o:Nat} {arr:Array Value} {e:TypeId} {v:Value} (hh:w.heap[b]? = some (.cells arr e (0,0))) (hs:szT C t = some v.cells.size) (ho:o + v.cells.size≤arr.size)
  (h1:∀u∈v.cells.toList,u.oneCell'=true) :
  (Instr.storeAt t (.pointer (some ⟨b,o,none⟩)) v).run C.P w=.ok () (w.setRow b (arr.toList.take o++v.cells.toList++arr.toList.drop (o+v.cells.size)).toArray):=by
 have hst:=run_storeCells_at C.P b o e v.cells.toList 0 arr w hh (by simpa using ho) h1
 simp only[Nat.add_zero,Array.length_toList]at hst;simp only[Instr.storeAt,Instr.sureAddr,Sem.run_bind,Sem.run_pure,Result.andThen_ok,storeVar,run_sizeOf hs w];rw[if_neg (by simp)]
 exact hst
theorem nodup_set {n:List Nat}:(l:List (List Nat))→(i:Nat)→l.flatten.Nodup→n.Nodup→(∀b∈n,b∉l.flatten)→(l.set i n).flatten.Nodup
 | [],i,h,_,_=>by simp
 | m::l,0,h,hn,hd=>by
  simp only[List.set_cons_zero,List.flatten_cons,List.nodup_append]at h ⊢;exact⟨hn,h.2.1,fun b hb c hc hbc=>hd b hb (by rw[List.flatten_cons];exact List.mem_append_right _ (hbc▸hc))⟩
 | m::l,i+1,h,hn,hd=>by
  simp only[List.set_cons_succ,List.flatten_cons,List.nodup_append]at h ⊢;refine⟨h.1,nodup_set l i h.2.1 hn fun b hb hm=>hd b hb (by rw[List.flatten_cons];exact List.mem_append_right _ hm),fun b hb c hc hbc=>?_⟩
  subst hbc;obtain⟨q,hq,hbq⟩:=List.mem_flatten.1 hc;rcases List.mem_or_eq_of_mem_set hq with hq | rfl
  ·exact h.2.2 b hb b (List.mem_flatten.2 ⟨q,hq,hbq⟩) rfl
  ·exact hd b hbq (by rw[List.flatten_cons];exact List.mem_append_left _ hb)
theorem chunk_set {cells cs:List Value} {n i wd:Nat} (hcl:cells.length = n * wd) (hcsl:cs.length = wd) (hi:i < n) :
  ((cells.take (i*wd)++cs++cells.drop (i*wd+wd)).length=n*wd)∧(∀j,j<wd→(cells.take (i*wd)++cs++cells.drop (i*wd+wd))[i*wd+j]? = cs[j]?) ∧
   ∀i' j,i'≠i→j<wd→(cells.take (i*wd)++cs++cells.drop (i*wd+wd))[i'*wd+j]? = cells[i'*wd+j]?:=by
 have hroom:i*wd+wd≤n*wd:=by
  calc i*wd+wd=(i+1)*wd:=by rw[Nat.add_mul,Nat.one_mul]
   _≤n*wd:=Nat.mul_le_mul_right _ (by omega)
 have hlt:(cells.take (i*wd)).length=i*wd:=by rw[List.length_take];omega
 have hlc:(cells.take (i*wd)++cs).length=i*wd+wd:=by rw[List.length_append,hlt,hcsl]
 refine⟨?_,fun j hj=>?_,fun i' j hne hj=>?_⟩
 ·rw[List.length_append,hlc,List.length_drop];omega
 ·rw[List.getElem?_append_left (by rw[hlc];omega),List.getElem?_append_right (by rw[hlt];omega),hlt]
  congr 1;omega
 ·rcases Nat.lt_or_gt_of_ne hne with hl | hg
  ·have:=chunk_lt hl hj;rw[List.getElem?_append_left (by rw[hlc];omega),List.getElem?_append_left (by rw[hlt];exact this),List.getElem?_take,if_pos this]
  ·have:i*wd+wd≤i'*wd:=by
    calc i*wd+wd=(i+1)*wd:=by rw[Nat.add_mul,Nat.one_mul]
     _≤i'*wd:=Nat.mul_le_mul_right _ (by omega)
   rw[List.getElem?_append_right (by rw[hlc];omega),List.getElem?_drop,hlc]
   congr 1;omega
theorem store_core (h:RelG E G σ a w) {σ':Sg} {id b n c i:Nat} {dp:Bool} {e t:TypeId} {ty:Ty} {xs:List ty.den} {y:ty.den} {u:Value} {ds:List Nat} (ho:σ.ob id = some (.own false dp e ty xs))
  (hg:(G id).1=.slice (some ⟨b,0,none⟩) n c) (hil:i<xs.length) (hfs:szT C t=some ty.wid) (hul:u.cells.toList.length=ty.wid) (hone:∀v∈u.cells.toList,v.oneCell'=true)
  (hd:if dp then DpC 0 w ty y u.cells.toList (ds.flatMap fun d=>(G d).2)else RdC (Imm E G σ w) w ty y u.cells.toList∧ds=[])
  (hds:∀d∈ds,∃o,σ.ob d=some o∧o.ro=false) (hnd:ds.Nodup) (hid:id∉ds)
  (hσ:∀j,σ'.ob j=if j=id then some (.own false dp e ty (xs.set i y))else if j∈ds then none else σ.ob j) (henv:σ'.env=σ.env) (hlen:σ'.hp.length=σ.hp.length) :
  ∃w',(Instr.storeAt t (.pointer (some ⟨b,i*ty.wid,none⟩)) u).run C.P w=.ok () w'∧∃G',RelG E G' σ' a w'∧GA E σ σ' G G' w w':=by
 have hor:=h.obs id _ ho;simp only[OR]at hor;obtain⟨hl,cells,bss,how,hbs,hd1,hd2,hchk⟩:=hor.chk;obtain⟨cap,cur,hgv,hh,hnc,hcm,hcs,htake⟩:∃cap cur,(G id).1=.slice (some ⟨b,0,none⟩) xs.length cap∧w.heap[b]? = some (.cells cur e (0,0))∧xs.length≤cap∧cap≤maxLen∧cur.size=cap*ty.wid∧cur.toList.take (xs.length*ty.wid)=cells:=by
  rcases how.2 with⟨hn,_⟩ | ⟨g,cap,cur,hgv,_,hh,r1,r2,r3,r4⟩
  ·rw[hg]at hn;simp at hn
  ·have:=hgv;rw[hg]at this;simp only[Value.slice.injEq,Option.some.injEq,Addr.mk.injEq,and_true,true_and]at this;obtain⟨rfl,_,_⟩:=this;exact⟨cap,cur,hgv,hh,r1,r2,r3,r4⟩
 have hG:(G id).2=b::bss.flatten:=by rw[hbs,hgv];rfl
 have hcl:cells.length=xs.length*ty.wid:=hchk.1;have hroom2:i*ty.wid+ty.wid≤xs.length*ty.wid:=by
  calc i*ty.wid+ty.wid=(i+1)*ty.wid:=by rw[Nat.add_mul,Nat.one_mul]
   _≤xs.length*ty.wid:=Nat.mul_le_mul_right _ (by omega)
 have hle:xs.length*ty.wid≤cur.size:=by rw[hcs];exact Nat.mul_le_mul_right _ hnc
 have husz:u.cells.size=ty.wid:=by rw[←Array.length_toList,hul]
 have hrun:=run_storeVar (C:=C) (w:=w) (o:=i*ty.wid) (v:=u) hh (by rw[husz];exact hfs) (by rw[husz];omega) hone
 rw[husz]at hrun;obtain⟨hset1,hset2,hset3⟩:=chunk_set hcl hul hil;have hndG:=h.nodup id _ ho rfl;rw[hG,List.nodup_cons]at hndG;have hrgG:=h.range id _ ho rfl;have hclaim:∀x,x∈(ds.flatMap fun d=>(G d).2)→x<w.heap.size∧(∃d∈ds,∃o',σ.ob d=some o'∧o'.ro=false∧x∈(G d).2)∧x∉(G id).2:=fun x hx=>by
  obtain⟨d,hdm,hxd⟩:=List.mem_flatMap.1 hx;obtain⟨o',ho',hr'⟩:=hds d hdm;exact⟨(h.range d o' ho' hr' x hxd).1,⟨d,hdm,o',ho',hr',hxd⟩,h.disj d id o' _ ho' hr' ho rfl (fun e=>hid (e▸hdm)) x hxd⟩
 have hndc:∀(l:List Nat),l.Nodup→(∀i∈l,∃o,σ.ob i=some o∧o.ro=false)→(l.flatMap fun i=>(G i).2).Nodup:=by
  intro l;induction l with
  | nil=>intro _ _;simp
  | cons j l ih =>
   intro hn ho;rw[List.flatMap_cons,List.nodup_append];rw[List.nodup_cons]at hn;obtain⟨oj,hoj,hrj⟩:=ho j (by simp)
   refine⟨h.nodup j oj hoj hrj,ih hn.2 fun i hi=>ho i (List.mem_cons_of_mem _ hi),fun b hb c hc hbc=>?_⟩;subst hbc;obtain⟨d,hd,hbd⟩:=List.mem_flatMap.1 hc;obtain⟨od,hod,hrd⟩:=ho d (List.mem_cons_of_mem _ hd);exact h.disj j d oj od hoj hrj hod hrd (fun e=>hn.1 (e▸hd)) b hb hbd
 have hmem:∀x,x∈(bss.set i (ds.flatMap fun d=>(G d).2)).flatten→x∈bss.flatten∨x∈(ds.flatMap fun d=>(G d).2):=fun x hx=>by
  obtain⟨q,hq,hxq⟩:=List.mem_flatten.1 hx;rcases List.mem_or_eq_of_mem_set hq with hq | rfl
  ·exact .inl (List.mem_flatten.2 ⟨q,hq,hxq⟩)
  ·exact .inr hxq
 have hmemI:∀(l:List (List Nat)) (i b:Nat),b∈l[i]?.getD []→b∈l.flatten:=fun l i b hb=>by
  cases hgi:l[i]? with
  | none=>simp[hgi]at hb
  | some q=>simp only[hgi,Option.getD_some]at hb;exact List.mem_flatten.2 ⟨q,List.mem_of_getElem? hgi,hb⟩
 obtain⟨G',hrel,_,hke⟩:=h.chg (σ':=σ') (id::ds) id (.own false dp e ty (xs.set i y)) (G id).1 (b::(bss.set i (ds.flatMap fun d=>(G d).2)).flatten)
  (w':=w.setRow b (cur.toList.take (i*ty.wid)++u.cells.toList++cur.toList.drop (i*ty.wid+ty.wid)).toArray)
  (fun j=>by rw[hσ j];by_cases hj:j=id<;>simp[hj]) henv (by rw[hlen];exact Nat.le_refl _) (.inr ⟨by simp,rfl⟩) rfl rfl rfl ⟨rfl,fun _=>Nat.le_refl _⟩ (by simp)
  (fun x hx hdd=>setRow_other w b x _ fun he=>hdd id (by simp) _ ho rfl (by rw[hG,he];rfl))
  (by
   rw[List.nodup_cons];refine⟨fun hm=>?_,nodup_set _ _ hndG.2 (hndc ds hnd hds) fun x hx hm=>(hclaim x hx).2.2 (by rw[hG];exact List.mem_cons_of_mem _ hm)⟩
   rcases hmem b hm with hm | hm
   ·exact hndG.1 hm
   ·exact(hclaim b hm).2.2 (by rw[hG];simp))
  (fun x hx=>by
   right;rcases List.mem_cons.1 hx with rfl | hx
   ·exact⟨(hrgG x (by rw[hG];simp)).1,id,by simp,_,ho,rfl,by rw[hG];simp⟩
   ·rcases hmem x hx with hm | hm
    ·exact⟨(hrgG x (by rw[hG];exact List.mem_cons_of_mem _ hm)).1,id,by simp,_,ho,rfl,by rw[hG];exact List.mem_cons_of_mem _ hm⟩
    ·obtain⟨h1,⟨d,hdm,o',ho',hr',hxd⟩,_⟩:=hclaim x hm;exact⟨h1,d,List.mem_cons_of_mem _ hdm,o',ho',hr',hxd⟩)
  (fun x hx=>by simp at hx;subst hx;exact .inr ⟨id,by simp,_,ho,rfl,by rw[hG];rfl⟩)
  (fun I G' kk hG'=>by
   simp only[OR,hG'];have hoth:∀x,x≠b→(w.setRow b (cur.toList.take (i*ty.wid)++u.cells.toList++cur.toList.drop (i*ty.wid+ty.wid)).toArray).heap[x]? = w.heap[x]?:=fun x hx=>setRow_other w b x _ hx;refine OwnV.mk (cells:=cells.take (i*ty.wid)++u.cells.toList++cells.drop (i*ty.wid+ty.wid)) (bss:=bss.set i (ds.flatMap fun d=>(G d).2)) (by simpa using hl) ?_ (by rw[hgv];rfl)
    (fun hdp=>by simpa using hd1 hdp) (fun hdp=>by simp[hd2 hdp]) ⟨by simpa using hset1,fun i' y' hi'=>?_⟩
   ·refine⟨by simpa using hset1,.inr ⟨b,cap,_,by simpa using hgv,Nat.zero_le _,setRow_heap w b cur _ e _ hh,by simpa using hnc,hcm,?_,?_⟩⟩
    ·rw[List.size_toArray,List.length_append,List.length_append,List.length_take,List.length_drop,hul,Array.length_toList,hcs];rw[hcs]at hle;omega
    ·rw[List.length_set,←htake,List.toList_toArray,List.take_append,List.take_append,List.take_take,List.take_take,List.drop_take];have e1:min (xs.length*ty.wid) (i*ty.wid)=i*ty.wid:=by omega
     have e2:min (i*ty.wid) (xs.length*ty.wid)=i*ty.wid:=by omega
     rw[e1,e2];have e3:(List.take (i*ty.wid) cur.toList).length=i*ty.wid:=by rw[List.length_take,Array.length_toList];omega
     have e4:(List.take (i*ty.wid) cur.toList++u.cells.toList).length=i*ty.wid+ty.wid:=by rw[List.length_append,e3,hul]
     rw[e3,e4,List.take_of_length_le (l:=u.cells.toList) (by omega)]
   ·rw[List.getElem?_set]at hi';by_cases hii:i=i'
    ·subst hii;simp only[if_true,hil,Option.some.injEq]at hi';subst hi';refine⟨u.cells.toList,hul,hset2,?_⟩;cases dp with
     | true =>
      simp only[if_true]at hd ⊢;have hlb:i<bss.length:=by rw[hd1 rfl];exact hil
      rw[List.getElem?_set,if_pos rfl,if_pos hlb];exact hd.mono (Nat.le_refl _) ty fun x hx=>hoth x fun he=>(hclaim x hx).2.2 (by rw[he,hG];simp)
     | false =>
      simp only[Bool.false_eq_true,if_false]at hd ⊢;exact hd.1.mono kk.imm kk.heap ty
    ·rw[if_neg hii]at hi';obtain⟨ys,hy1,hy2,hy3⟩:=hchk.2 i' y' hi';refine⟨ys,hy1,fun j hj=>by rw[hset3 i' j (Ne.symm hii) hj];exact hy2 j hj,?_⟩
     cases dp with
     | true =>
      simp only[if_true]at hy3 ⊢;rw[List.getElem?_set,if_neg hii];exact hy3.mono (Nat.le_refl _) ty fun x hx=>hoth x fun he=>hndG.1 (he▸hmemI _ _ _ hx)
     | false =>
      simp only[Bool.false_eq_true,if_false]at hy3 ⊢;exact hy3.mono kk.imm kk.heap ty)
 exact⟨_,hrun,G',hrel,hke⟩
theorem inIdx_some {β:Type}{n i:Nat}{k:Unit→Option β}{r:β}(h:(inIdx n i).bind k=some r):i<n∧k ()=some r:=by
 unfold inIdx at h;split at h
 ·exact⟨by omega,h⟩
 ·simp at h
theorem arrKeyB_some {ky:TypeId}{n:Nat}(h:arrKeyB C ky=some n):∃e,Go.WideMaps.ArrKey C.P ky e n∧C.P.underlying e=some (.int .i64)∧∃m,C.P.types.size=m+1:=by
 unfold arrKeyB at h;split at h
 ·rename_i n' e hu;split at h
  ·rename_i he;split at h
   ·rename_i hc;obtain rfl:=Option.some.inj h;simp only[Bool.and_eq_true,beq_iff_eq,decide_eq_true_eq]at hc;obtain⟨⟨⟨h1,h2⟩,h3⟩,h4⟩:=hc;exact⟨e,⟨hu,h1,h2,h3⟩,he,C.P.types.size-1,by omega⟩
   ·cases h
  ·cases h
 ·cases h
theorem mapM_isSome {α β:Type}{f:α→Option β}:(l:List α)→(∀x∈l,∃y,f x=some y)→∃ys,l.mapM f=some ys
 | [],_=>⟨[],rfl⟩
 | x::l,h=>by
  obtain⟨y,hy⟩:=h x (by simp)
  obtain⟨ys,hys⟩:=mapM_isSome l fun z hz=>h z (List.mem_cons_of_mem _ hz);exact⟨y::ys,by simp[List.mapM_cons,hy,hys]⟩
theorem keyOf_ints {ky e:TypeId}{n:Nat}(A:Go.WideMaps.ArrKey C.P ky e n)(he:C.P.underlying e=some (.int .i64))(hsz:∃m,C.P.types.size=m+1){xs:List Int}(hl:xs.length=n)(hx:xs.all i64B=true):∃l,keyOf C.P ky (kvV xs)=some l:=by
 have hkt:=A.keyType hsz;obtain⟨m,hm⟩:=hsz;unfold keyOf kvV;simp only[A.hu];rw[if_pos (by simp[hkt,Value.formed,A.hu,A.size,hl]),hm]
 unfold Program.keyLits;simp only[A.hu,Value.cells];rw[if_pos (by rw[A.size];simp[hl])]
 have:∃ys,((List.range n).mapM fun i=>C.P.keyLits (m+1) e (((xs.map (Value.int .i64)).drop (i*C.P.cellsOf e)).take (C.P.cellsOf e)))=some ys:=by
  refine mapM_isSome _ fun i hi=>?_;have hi:=List.mem_range.1 hi;rw[A.one,Nat.mul_one,List.drop_eq_getElem_cons (by simp[hl];exact hi)]
  have hb:i64B xs[i]=true:=List.all_eq_true.1 hx _ (List.getElem_mem _);unfold i64B at hb;have hw:(Lit.int .i64 xs[i]).wf=true:=hb;unfold Program.keyLits;simp[he,hw]
 obtain⟨ys,hys⟩:=this;rw[hys];exact⟨_,rfl⟩
theorem kvV_inj {xs ys:List Int}(h:kvV xs=kvV ys):xs=ys:=by
 unfold kvV at h;simp only[Value.agg.injEq]at h;have h:=congrArg Array.toList h;simp only at h;have:∀(xs ys:List Int),xs.map (Value.int .i64)=ys.map (Value.int .i64)→xs=ys:=by
  intro xs;induction xs with
  | nil=>intro ys h;cases ys with
   | nil=>rfl
   | cons _ _=>simp at h
  | cons x xs ih=>intro ys h;cases ys with
   | nil=>simp at h
   | cons y ys=>simp at h;rw[h.1,ih ys (by simpa using h.2)]
 exact this _ _ h
theorem run_mapUpdate {t ky ev e:TypeId} {n b:Nat} {es:Array MapEntry} {clock:Nat} {xs:List (List Int)} {x:List Int} {u:Value} (ht:C.P.underlying t = some (.map ky ev)) (A:Go.WideMaps.ArrKey C.P ky e n) (he:C.P.underlying e = some (.int .i64)) (hsz:∃ m,C.P.types.size = m + 1)
  (hb:w.heap[b]? = some (.map es clock)) (hk:es.toList.map (·.key)=xs.map kvV) (hxs:∀x∈xs,x.length=n∧x.all i64B=true) (hl:x.length=n) (hx:x.all i64B=true) :
  ∃es' clock',(Instr.mapUpdate t (.map (some b)) (kvV x) u).run C.P w=.ok () (Go.ChangeMaps.setBlock w b (.map es' clock'))∧es'.toList.map (·.key)=(insK xs x).map kvV:=by
 have K:Go.Maps.Keyed C.P ky:=.of_law A.law;obtain⟨l,hkey⟩:=keyOf_ints A he hsz hl hx;have hall:∀e∈es.toList,∃l,keyOf C.P ky e.key=some l:=fun e' he'=>by
  have hm:e'.key∈xs.map kvV:=by rw[←hk];exact List.mem_map_of_mem he'
  obtain⟨z,hz,hze⟩:=List.mem_map.1 hm;obtain⟨h1,h2⟩:=hxs z hz;rw[←hze];exact keyOf_ints A he hsz h1 h2
 rcases K.find w hkey es.toList hall with⟨h1,h2⟩ | ⟨j,e0,h1,h2,h3⟩
 ·refine⟨es.push ⟨kvV x,u,clock⟩,clock+1,?_,?_⟩
  ·simp[Instr.mapUpdate,run_underlying ht,MapKept.run_getObj_map hb,K.check w false hkey,h1,MapKept.run_setObj_map _ hb,Result.andThen,Go.ChangeMaps.setBlock]
  ·have hno:xs.contains x=false:=by
    cases hc:xs.contains x with
    | false=>rfl
    | true =>
     exfalso;have hmem:x∈xs:=by simpa using hc
     have:kvV x∈es.toList.map (·.key):=by rw[hk];exact List.mem_map_of_mem hmem
     obtain⟨e',he',hee⟩:=List.mem_map.1 this;exact h2 e' he' hee
   unfold insK;rw[hno];simp[hk]
 ·have hj:es[j]? = some e0:=by simpa using h2
  refine⟨es.modify j fun e=>{ e with key:=kvV x,val:=u },clock,?_,?_⟩
  ·have hst:=K.stays w hkey;simp[Instr.mapUpdate,run_underlying ht,MapKept.run_getObj_map hb,K.check w false hkey,h1,hj,h3,hst,MapKept.run_setObj_map _ hb,Result.andThen,Go.ChangeMaps.setBlock]
  ·have hyes:xs.contains x=true:=by
    have:kvV x∈xs.map kvV:=by rw[←hk,←h3];exact List.mem_map_of_mem (List.mem_of_getElem? h2)
    obtain⟨z,hz,hze⟩:=List.mem_map.1 this;rw[←kvV_inj hze];simpa using hz
   unfold insK;rw[hyes,if_pos rfl,←hk];apply List.ext_getElem?
   intro i;simp only[Array.toList_modify,List.getElem?_map,List.getElem?_modify];by_cases hij:j=i
   ·subst hij;rw[h2];simp[h3]
   ·cases es.toList[i]?<;>simp[hij]
theorem makeMapK_some {t:TypeId} {k:A→Sg→Option ρ} {r:ρ} (h:RelG E G σ a w) (hk:makeMapK C σ t k = some r) :
  ∃v w',(Instr.makeMap t none).run C.P w=.ok v w'∧OpOut C E G σ a w k r (.ok (.value v) w'):=by
 unfold makeMapK at hk;split at hk
 ·split at hk
  ·rename_i n hn;obtain⟨G',h1,h2,h3⟩:=h.add (Ext.alloc w (.map #[] 0)) (.mp false n []) (.map (some w.heap.size)) [w.heap.size] rfl (by simp) (by simp)
    fun I G' k hG=>by
     simp only[OR,hG];exact⟨w.heap.size,#[],0,rfl,heap_alloc_new w _,rfl,by simp,(fun x hx=>by simp at hx),rfl⟩
   exact⟨_,_,by simp[Instr.makeMap,newObj,Sem.run];rfl,_,_,hk,Kp.add _ _,G',h1,h3,by simp[addHp],by rw[h2],rfl⟩
  ·cases hk
 ·cases hk
theorem intsL_some {I:Nat→Prop}{N:Nat}:(ls:List L)→{vs:List Value}→{xs:List Int}→intsL ls=some xs→VLs I N G w ls vs→vs=xs.map (Value.int .i64)
 | [],[],xs,h,_=>by simp only[intsL,Option.some.injEq]at h;subst h;rfl
 | [],_::_,xs,h,hv=>hv.elim
 | l::ls,[],xs,h,hv=>hv.elim
 | l::ls,v::vs,xs,h,hv=>by
  unfold intsL at h;split at h
  ·rename_i hq;cases hq
  ·rename_i nn x r hq;simp only[List.cons.injEq]at hq;obtain⟨rfl,rfl⟩:=hq;obtain⟨ys,hys,rfl⟩:=Option.map_eq_some_iff.1 h;have h1:=RdV_int.1 hv.1.1.1;rw[intsL_some _ hys hv.2,h1];rfl
  ·cases h
theorem mapUpdateK_some {t:TypeId} {m y:A} {k:Sg→Option ρ} {r:ρ} {v u z:Value} (h:RelG E G σ a w) (hk:mapUpdateK C σ t m y k = some r)
  (hv:VA (Imm E G σ w) σ.hp.length G w m v) (hu:VA (Imm E G σ w) σ.hp.length G w y u) :
  ∃w' σ',(Instr.mapUpdate t v u z).run C.P w=.ok () w'∧k σ'=some r∧Kp σ σ'∧∃G',RelG E G' σ' a w'∧GA E σ σ' G G' w w':=by
 unfold mapUpdateK at hk;split at hk
 ·rename_i ky ev id ls ht;split at hk
  ·rename_i n n' xs x hn ho hx;split at hk
   ·rename_i hc;obtain⟨rfl,hl⟩:=hc;split at hk
    ·rename_i hc2;obtain⟨hall,hlim⟩:=hc2;obtain⟨e,A,he,hsz⟩:=arrKeyB_some hn;obtain⟨hid,rfl,_⟩:=hv;have hor:=h.obs id _ ho;simp only[OR]at hor;obtain⟨b,es,clock,hg,hb,hkeys,hlen,hxs,hG⟩:=hor;obtain⟨vs,rfl,hvs⟩:=hu;have hvx:=intsL_some ls hx hvs;subst hvx;obtain⟨es',clock',hrun,hk'⟩:=run_mapUpdate (u:=z) ht A he hsz hb hkeys hxs hl hall;have hbr:=h.range id _ ho rfl b (by rw[hG];simp)
     obtain⟨G',hrel,_,hke⟩:=h.chg (σ':=setHp σ id (some (.mp false n (insK xs x)))) [id] id (.mp false n (insK xs x)) (G id).1 [b]
      (w':=Go.ChangeMaps.setBlock w b (.map es' clock'))
      (fun i=>by rw[ob_setHp];by_cases hi:i=id<;>simp[hi,hid]) rfl (by simp) (.inr ⟨by simp,rfl⟩) rfl rfl rfl ⟨rfl,fun _=>Nat.le_refl _⟩ (by simp[Go.ChangeMaps.setBlock])
      (fun c hc hd=>by
       unfold Go.ChangeMaps.setBlock;rw[Array.getElem?_setIfInBounds_ne];intro he2;exact hd id (by simp) _ ho rfl (by rw[hG,he2];rfl)) (by simp)
      (fun c hc=>by simp at hc;subst hc;exact .inr ⟨hbr.1,id,by simp,_,ho,rfl,by rw[hG];simp⟩)
      (fun c hc=>by simp at hc;subst hc;exact .inr ⟨id,by simp,_,ho,rfl,by rw[hG];rfl⟩)
      (fun I G' kk hG'=>by
       simp only[OR,hG'];refine⟨b,es',clock',hg,?_,hk',?_,fun q hq=>?_,rfl⟩
       ·unfold Go.ChangeMaps.setBlock;simp[Array.getElem?_setIfInBounds,hbr.1]
       ·unfold insK;split
        ·exact hlen
        ·simp;omega
       ·unfold insK at hq;split at hq
        ·exact hxs q hq
        ·rcases List.mem_append.1 hq with hq | hq
         ·exact hxs q hq
         ·simp at hq;subst hq;exact⟨hl,hall⟩)
     refine⟨_,_,?_,hk,Kp.set _ ho rfl,G',hrel,hke⟩;rw[hg];exact hrun
    ·cases hk
   ·cases hk
  ·cases hk
 ·cases hk
theorem storeK_some {t:TypeId} {x y:A} {k:Sg→Option ρ} {r:ρ} {v u:Value} (h:RelG E G σ a w) (hk:storeK C σ t x y k = some r)
  (hv:VA (Imm E G σ w) σ.hp.length G w x v) (hu:VA (Imm E G σ w) σ.hp.length G w y u) :
  ∃w' σ',(Instr.storeAt t v u).run C.P w=.ok () w'∧k σ'=some r∧Kp σ σ'∧∃G',RelG E G' σ' a w'∧GA E σ σ' G G' w w':=by
 unfold storeK at hk;split at hk
 ·rename_i id j;obtain⟨hid,b,hg,rfl⟩:=hv;split at hk
  ·rename_i e cs ho;simp only at hk;split at hk
   ·rename_i hc;obtain⟨hsz,hj,hpos⟩:=hc;have hvs:=cellsA_VLs hu (by intro h0;rw[h0]at hpos;simp at hpos)
    have hl:=hvs.length;simp only[Array.length_toList]at hl;rw[hl]at hsz hj hk;have hor:=h.obs id _ ho;simp only[OR,Bool.false_eq_true,if_false]at hor;obtain⟨b',arr,hg',hh,hcs,hG⟩:=hor;rw[hg]at hg';simp only[Value.pointer.injEq,Option.some.injEq,Addr.mk.injEq,and_true]at hg';subst hg';have hcl:=hcs.length;simp only[Array.length_toList]at hcl;have hrun:=run_storeVar (C:=C) (w:=w) (o:=j) hh hsz (by omega) hvs.one
    have hb:=h.range id _ ho rfl b (by rw[hG];simp)
    obtain⟨G',hrel,_,hke⟩:=h.chg (σ':=setHp σ id (some (.box false e (cs.take j++cellsA y++cs.drop (j+u.cells.size))))) [id] id (.box false e (cs.take j++cellsA y++cs.drop (j+u.cells.size))) (G id).1 [b]
     (w':=w.setRow b (arr.toList.take j++u.cells.toList++arr.toList.drop (j+u.cells.size)).toArray)
     (fun i=>by rw[ob_setHp];by_cases hi:i=id<;>simp[hi,hid]) rfl (by simp) (.inr ⟨by simp,rfl⟩) rfl rfl rfl ⟨rfl,fun _=>Nat.le_refl _⟩ (by simp)
     (fun c hc hd=>setRow_other w b c _ fun he=>hd id (by simp) _ ho rfl (by rw[hG,he];rfl)) (by simp)
     (fun c hc=>by simp at hc;subst hc;exact .inr ⟨hb.1,id,by simp,_,ho,rfl,by rw[hG];simp⟩)
     (fun c hc=>by simp at hc;subst hc;exact .inr ⟨id,by simp,_,ho,rfl,by rw[hG];rfl⟩)
     (fun I G' kk hG'=>by
      simp only[OR,hG',Bool.false_eq_true,if_false];refine⟨b,_,hg,setRow_heap w b arr _ e _ hh,?_,rfl⟩;exact(((hcs.take j _).append _ hvs).append _ (hcs.drop _ _)).keep kk _)
    exact⟨_,_,hrun,hk,Kp.set _ ho rfl,G',hrel,hke⟩
   ·simp at hk
  ·simp at hk
 ·rename_i id wid i;obtain⟨hid,b,n,c,hg,rfl⟩:=hv;split at hk
  ·rename_i dp e ty xs ho;split at hk
   ·rename_i hc;obtain⟨rfl,hfit⟩:=hc
    ·have hne:=cellsA_of_tk hk;have hvs:=cellsA_VLs hu hne;have hfs:szT C t=some ty.wid:=by
      unfold fitT at hfit;simp only[Bool.and_eq_true,beq_iff_eq]at hfit;exact hfit.2
     cases hdp:dp&&!ty.flat with
     | false =>
      rw[hdp]at hk;obtain⟨z,ls',σ1,cs,vs',hk,hcu,h1,kp1,ke1,hv1,hrd⟩:=tkF_some ty h hk hvs;split at hk
      ·rename_i dp2 e2 ty2 xs2 ho2;split at hk
       ·rename_i hcc;obtain⟨rfl,rfl,rfl⟩:=hcc;cases hca:castT (.list ty2) (.list ty2) xs2 with
        | none=>simp[hca]at hk
        | some xs3 =>
         simp only[hca,Option.bind_some]at hk;have hca:xs3=xs2:=by
          obtain⟨_,h⟩:=castT_some hca;exact h.symm
         subst hca;obtain⟨hil,hk⟩:=inIdx_some hk;have hvs0:vs'=[]:=by cases vs' with
          | nil=>rfl
          | cons _ _=>exact hv1.elim
         subst hvs0;rw[List.append_nil]at hcu;subst hcu;obtain⟨w',hrun,G',hrel,hga⟩:=store_core (C:=C) (σ':=setHp σ1 id (some (.own false dp2 e2 ty2 (xs3.set i z)))) (ds:=[]) h1 ho2 hg hil hfs (hrd.length ty2) hvs.one
          (by
           cases dp2 with
           | false=>simpa using hrd
           | true =>
            simp only[Bool.true_and,Bool.not_eq_false']at hdp;simp only[if_true,List.flatMap_nil];exact flat_Dp ty2 hdp hrd)
          (by simp) (by simp) (by simp) (fun j=>by rw[ob_setHp];have:=Sg.ob_lt ho2;by_cases hj:j=id<;>simp[hj,this]) rfl (by simp)
         exact⟨w',_,hrun,hk,kp1.trans (Kp.set _ ho2 rfl),G',hrel,GA.trans ke1 hga⟩
       ·simp at hk
      ·simp at hk
     | true =>
      rw[hdp]at hk;simp only[Bool.and_eq_true,Bool.not_eq_true']at hdp;obtain⟨z,ls',σ1,cs,vs',new,hk,hcu,hgone,hv1,hids,hnd,hdp1⟩:=tkT_some ty h (Gone.refl σ) hk hvs;split at hk
      ·rename_i dp2 e2 ty2 xs2 ho2;split at hk
       ·rename_i hcc;obtain⟨rfl,rfl,rfl⟩:=hcc;cases hca:castT (.list ty2) (.list ty2) xs2 with
        | none=>simp[hca]at hk
        | some xs3 =>
         simp only[hca,Option.bind_some]at hk;have hca:xs3=xs2:=by
          obtain⟨_,h⟩:=castT_some hca;exact h.symm
         subst hca;obtain⟨hil,hk⟩:=inIdx_some hk;have hvs0:vs'=[]:=by cases vs' with
          | nil=>rfl
          | cons _ _=>exact hv1.elim
         subst hvs0;rw[List.append_nil]at hcu;subst hcu;rw[List.nil_append]at hgone;obtain⟨hni,ho3⟩:=hgone.sub ho2;rw[ho]at ho3;simp only[Option.some.injEq,Ob.own.injEq,true_and]at ho3;obtain⟨_,_,_,hxx⟩:=ho3;obtain⟨w',hrun,G',hrel,hga⟩:=store_core (C:=C) (σ':=setHp σ1 id (some (.own false dp2 e2 ty2 (xs.set i z)))) (ds:=new) h ho hg hil hfs hdp1.length hvs.one
          (by rw[hdp.1];exact hdp1)
          (fun d hd=>(hids d hd).2) hnd hni (fun j=>by
           have:=Sg.ob_lt ho2;rw[ob_setHp,hgone.ob j];by_cases hj:j=id<;>simp[hj,this]) hgone.env (by simp[hgone.len])
         exact⟨w',_,hrun,hk,⟨hgone.env,by simp[hgone.len],fun j o hoj hr=>by
          rw[ob_setHp];by_cases hj:j=id
          ·subst hj;rw[ho]at hoj;obtain rfl:=Option.some.inj hoj;simp[Ob.ro]at hr
          ·rw[if_neg (fun hc=>hj hc.1),hgone.ob j,if_neg,hoj];intro hn;obtain⟨_,o',ho',hr'⟩:=hids j hn;rw[hoj]at ho';obtain rfl:=Option.some.inj ho';rw[hr]at hr';simp at hr'⟩,G',hrel,hga⟩
       ·simp at hk
      ·simp at hk
   ·simp at hk
  ·simp at hk
 ·simp at hk
end
open Go
set_option linter.all false
section
variable {ρ:Type}{C:Ctx}{E:En}{G:Gh}{σ:Sg}{a:Act}{w:World}
def OptI (x:Option Value)(d n:Int):Prop:=(x=none∧n=d)∨∃kd,x=some (.int kd n)
theorem intOptK_some {x:Option Operand} {d:Int} {k:Int→Option ρ} {r:ρ} (h:RelG E G σ a w) (hk:intOptK σ x d k = some r) :
  ∃n,k n=some r∧OptI (x.map a.eval) d n:=by
 unfold intOptK at hk;split at hk
 ·exact⟨d,hk,.inl ⟨rfl,rfl⟩⟩
 ·rename_i x;split at hk
  ·rename_i nn kd n hg;have:=h.get x;rw[hg]at this;exact⟨n,hk,.inr ⟨kd,by rw[Option.map_some,datInt this]⟩⟩
  ·simp at hk
theorem run_bounds {P:Program} {isSlice:Bool} {len cap:Nat} {lo hi:Option Value} {l h:Int} (hlo:OptI lo 0 l) (hhi:OptI hi len h) (h0:0≤l) (h1:l≤h) (h2:h≤len) (h3:len≤cap) :
  (Instr.sliceBounds isSlice len cap lo hi none).run P w=.ok (l.toNat,h.toNat,cap) w:=by
 have hh:(0:Int)≤h∧h≤(cap:Int):=⟨by omega,by omega⟩
 have hl:(0:Int)≤l∧l≤((h.toNat:Nat):Int):=⟨h0,by omega⟩
 rcases hlo with⟨rfl,rfl⟩ | ⟨kl,rfl⟩<;>rcases hhi with⟨rfl,rfl⟩ | ⟨kh,rfl⟩
 ·simp[Instr.sliceBounds]
 ·simp[Instr.sliceBounds,Instr.sliceBound,asIntOf,hh]
 ·have hl':(0:Int)≤l∧l≤((len:Nat):Int):=⟨h0,by omega⟩
  simp[Instr.sliceBounds,Instr.sliceBound,asIntOf,hl']
 ·simp[Instr.sliceBounds,Instr.sliceBound,asIntOf,hh,hl];omega
theorem subl_some {α β:Type} {xs:List α} {l h:Int} {k:List α→Option β} {r:β} (hk:(subl xs l h).bind k = some r) :
  0≤l∧l≤h∧h≤xs.length∧k ((xs.take h.toNat).drop l.toNat)=some r:=by
 unfold subl at hk;split at hk
 ·rename_i hc;exact⟨hc.1,hc.2.1,hc.2.2,hk⟩
 ·simp at hk
theorem subs_some {β:Type} {xs:ByteArray} {l h:Int} {k:ByteArray→Option β} {r:β} (hk:(subs xs l h).bind k = some r) :
  0≤l∧l≤h∧h≤xs.size∧k (xs.extract l.toNat h.toNat)=some r:=by
 unfold subs at hk;split at hk
 ·rename_i hc;exact⟨hc.1,hc.2.1,hc.2.2,hk⟩
 ·simp at hk
theorem run_sliceAt {t e:TypeId} {n len cap:Nat} {p:Option Addr} {lo hi:Option Value} {l h:Int} (he:elT C t = some e) (hs:szT C e = some n) (hlo:OptI lo 0 l) (hhi:OptI hi len h) (h0:0≤l) (h1:l≤h) (h2:h≤len) (h3:len≤cap) :
  (Instr.sliceAt t (.slice p len cap) lo hi none).run C.P w=.ok (.slice (if cap=l.toNat then p else p.map (·.add (l.toNat*n))) (h.toNat-l.toNat) (cap-l.toNat)) w:=by
 have hu:=elT_some he;simp[Instr.sliceAt,Instr.slice,run_underlying hu,run_bounds hlo hhi h0 h1 h2 h3,run_sizeOf hs]
theorem slice_rd {I:Nat→Prop} {t e:TypeId} {ty:Ty} {xs:List ty.den} {lo hi:Option Value} {l h:Int} {v:Value} (hv:RdV I w (.list ty) xs v) (he:elT C t = some e) (hs:szT C e = some ty.wid)
  (hlo:OptI lo 0 l) (hhi:OptI hi xs.length h) (h0:0≤l) (h1:l≤h) (h2:h≤xs.length) :
  ∃u,(Instr.sliceAt t v lo hi none).run C.P w=.ok u w∧RdV I w (.list ty) ((xs.take h.toNat).drop l.toNat) u:=by
 obtain⟨p,c,rfl,h3,h4,h5,h6⟩:=RdV_list hv;refine⟨_,run_sliceAt he hs hlo hhi h0 h1 h2 h3,⟨[_],?_,rfl⟩⟩;have hlen:((xs.take h.toNat).drop l.toNat).length=h.toNat-l.toNat:=by rw[List.length_drop,List.length_take];omega
 simp only[RdC];refine⟨_,_,_,rfl,hlen.symm,by omega,by omega,by omega,fun hne=>?_⟩
 have hpos:0<h.toNat-l.toNat:=by rw[←hlen];exact List.length_pos_iff.2 hne
 have hx:xs≠[]:=by intro hx;subst hx;simp at hne
 obtain⟨b,o,rfl,hb,hel⟩:=h6 hx;have hc:c≠l.toNat:=by omega
 refine⟨b,o+l.toNat*ty.wid,by simp[hc,add_none],hb,fun i y hi=>?_⟩
 have hi':xs[l.toNat+i]? = some y:=by
  rw[List.getElem?_drop]at hi;rw[List.getElem?_take]at hi;split at hi
  ·exact hi
  ·simp at hi
 obtain⟨ys,hy1,hy2,hy3⟩:=hel _ y hi';refine⟨ys,hy1,fun j hj=>?_,hy3⟩;rw[←hy2 j hj];congr 2
 rw[Nat.add_mul];omega
theorem front_core (h:RelG E G σ a w) {id:Nat} {dp:Bool} {e t e':TypeId} {ty:Ty} {xs:List ty.den} {hi:Option Value} {m:Int} (ho:σ.ob id = some (.own false dp e' ty xs))
  (he:elT C t=some e) (hs:szT C e=some ty.wid) (hhi:OptI hi xs.length m) (h1:0≤m) (h2:m≤xs.length) :
  ∃u,(Instr.sliceAt t (G id).1 none hi none).run C.P w=.ok u w∧∃G',RelG E G' (addHp (setHp σ id none) (.own false dp e' ty (xs.take m.toNat))) a w∧GA E σ (addHp (setHp σ id none) (.own false dp e' ty (xs.take m.toNat))) G G' w w ∧
   VL (Imm E G' (addHp (setHp σ id none) (.own false dp e' ty (xs.take m.toNat))) w) (addHp (setHp σ id none) (.own false dp e' ty (xs.take m.toNat))).hp.length G' w (.ref σ.hp.length) u:=by
 have hor:=h.obs id _ ho;simp only[OR]at hor;obtain⟨hl,cells,bss,how,hbs,hd1,hd2,hchk⟩:=hor.chk;have hlt:=Sg.ob_lt ho;obtain⟨m,rfl⟩:=Int.eq_ofNat_of_zero_le h1;simp only[Int.toNat_natCast]at *;have hm:m≤xs.length:=by omega
 have hmem:∀b,b∈(bss.take m).flatten→b∈bss.flatten:=fun b hb=>by
  obtain⟨q,hq,hbq⟩:=List.mem_flatten.1 hb;exact List.mem_flatten.2 ⟨q,List.mem_of_mem_take hq,hbq⟩
 have hsub:∀b,b∈(G id).1.ownBlock.toList++(bss.take m).flatten→b∈(G id).2:=fun b hb=>by
  rw[hbs];rcases List.mem_append.1 hb with hb | hb
  ·exact List.mem_append_left _ hb
  ·exact List.mem_append_right _ (hmem b hb)
 have hnd:((G id).1.ownBlock.toList++(bss.take m).flatten).Nodup:=by
  have:=h.nodup id _ ho rfl;rw[hbs,List.nodup_append]at this;rw[List.nodup_append];refine⟨this.1,this.2.1.sublist ?_,fun b hb c hc=>this.2.2 b hb c (hmem c hc)⟩;have e:bss.flatten=(bss.take m).flatten++(bss.drop m).flatten:=by rw[←List.flatten_append,List.take_append_drop]
  rw[e];exact List.sublist_append_left _ _
 obtain⟨u,hrun,hu,hown⟩:∃u,(Instr.sliceAt t (G id).1 none hi none).run C.P w=.ok u w∧u.ownBlock=(G id).1.ownBlock∧w.ownsRow 0 e' ty.wid u m (cells.take (m*ty.wid)):=by
  have hcl:(cells.take (m*ty.wid)).length=m*ty.wid:=by
   rw[List.length_take,hchk.1];have:=Nat.mul_le_mul_right ty.wid hm;omega
  rcases how.2 with⟨hv,hn⟩ | ⟨g,cap,cur,hv,hg,hh,hnc,hcm,hcs,htake⟩
  ·have hm0:m=0:=by omega
   have hr:=run_sliceAt (C:=C) (w:=w) (p:=none) (len:=0) (cap:=0) (l:=0) he hs (.inl ⟨rfl,rfl⟩) (by rw[←hn];exact hhi) (by omega) (by omega) (by omega) (Nat.le_refl 0)
   rw[←hv]at hr;exact⟨_,hr,by simp[hv,Value.ownBlock],hcl,.inl ⟨by simp[hm0],hm0⟩⟩
  ·have hr:=run_sliceAt (C:=C) (w:=w) (p:=some ⟨g,0,none⟩) (len:=xs.length) (cap:=cap) (l:=0) he hs (.inl ⟨rfl,rfl⟩) hhi (by omega) (by omega) (by omega) hnc
   rw[←hv]at hr;have e1:(Value.slice (if cap=(0:Int).toNat then some ⟨g,0,none⟩else(some (⟨g,0,none⟩:Addr)).map (·.add ((0:Int).toNat*ty.wid))) ((m:Int).toNat-(0:Int).toNat) (cap-(0:Int).toNat))=.slice (some ⟨g,0,none⟩) m cap:=by
    simp[add_none]
   rw[e1]at hr;refine⟨_,hr,by simp[hv,Value.ownBlock],hcl,.inr ⟨g,cap,cur,rfl,hg,hh,by omega,hcm,hcs,?_⟩⟩
   rw[←htake,List.take_take];congr 1
   have:=Nat.mul_le_mul_right ty.wid hm;omega
 refine⟨u,hrun,?_⟩;obtain⟨G',hrel,hG',hke⟩:=h.chg (σ':=addHp (setHp σ id none) (.own false dp e' ty (xs.take m))) [id] σ.hp.length (.own false dp e' ty (xs.take m)) u ((G id).1.ownBlock.toList++(bss.take m).flatten)
  (w':=w) (fun j=>by
   rw[ob_addHp,ob_setHp,setHp_len];by_cases hj:j=σ.hp.length
   ·simp[hj]
   ·by_cases hj':j=id<;>simp[hj,hj',hlt]) rfl (by simp) (.inl rfl) rfl rfl rfl (.refl _) (Nat.le_refl _) (fun _ _ _=>rfl) hnd
  (fun b hb=>.inr ⟨(h.range id _ ho rfl b (hsub b hb)).1,id,by simp,_,ho,rfl,hsub b hb⟩)
  (fun b hb=>.inr ⟨id,by simp,_,ho,rfl,by
   rw[hbs];cases hv:(G id).1.ownBlock with
   | some g=>rw[hv]at hb;simpa using hb
   | none =>
    rcases how.2 with⟨_,hn⟩ | ⟨g,cap,cur,hv',_⟩
    ·have:bss=[]:=by
      cases dp with
      | true=>exact List.eq_nil_of_length_eq_zero (by rw[hd1 rfl,hn])
      | false=>exact hd2 rfl
     subst this;rw[hv]at hb;simp at hb
    ·rw[hv']at hv;simp[Value.ownBlock]at hv⟩)
  (fun I G' kk hG'=>by
   simp only[OR,hG'];refine OwnV.mk (cells:=cells.take (m*ty.wid)) (bss:=bss.take m) (by rw[List.length_take];omega) (by rw[List.length_take,Nat.min_eq_left hm];exact hown) (by rw[hu]) (fun hdp=>by rw[List.length_take,List.length_take,hd1 hdp]) (fun hdp=>by simp[hd2 hdp]) ⟨?_,fun i y hi=>?_⟩
   ·rw[List.length_take,List.length_take,hchk.1,Nat.min_eq_left hm];have:=Nat.mul_le_mul_right ty.wid hm;omega
   ·rw[List.getElem?_take]at hi;split at hi
    ·rename_i him;obtain⟨ys,hy1,hy2,hy3⟩:=hchk.2 i y hi;refine⟨ys,hy1,fun j hj=>?_,?_⟩
     ·rw[←hy2 j hj,List.getElem?_take,if_pos (chunk_lt him hj)]
     ·cases dp with
      | true =>
       simp only[if_true]at hy3 ⊢;rw[List.getElem?_take,if_pos him];exact hy3
      | false =>
       simp only[Bool.false_eq_true,if_false]at hy3 ⊢;exact hy3.mono kk.imm kk.heap ty
    ·simp at hi)
 refine⟨G',hrel,hke,by simp[addHp],by rw[←hG'],?_⟩
 rcases hown.2 with⟨hv',_⟩ | ⟨g,cap,cur,hv',_⟩<;>(rw[hv'];rfl)
theorem sliceK_some {t:TypeId} {x:A} {lo hi:Option Operand} {k:A→Sg→Option ρ} {r:ρ} {v:Value} {vw:Bool} (h:RelG E G σ a w) (hk:sliceK C σ t x lo hi vw k = some r)
  (hv:VA (Imm E G σ w) σ.hp.length G w x v) :
  ∃u,(Instr.sliceAt t v (lo.map a.eval) (hi.map a.eval) none).run C.P w=.ok u w∧OpOut C E G σ a w k r (.ok (.value u) w):=by
 unfold sliceK at hk;split at hk
 ·split at hk
  ·rename_i ht;obtain⟨rfl,hsl⟩:=datStr hv;obtain⟨l,hk,hlo⟩:=intOptK_some h hk;obtain⟨m,hk,hhi⟩:=intOptK_some h hk;obtain⟨h0,h1,h2,hk⟩:=subs_some hk;refine⟨_,?_,OpOut.val h hk ⟨RdV_str.2 ⟨rfl,?_⟩,fun _=>trivial⟩⟩
   ·simp[Instr.sliceAt,Instr.slice,run_underlying ht,run_bounds hlo hhi h0 h1 h2 (Nat.le_refl _)]
   ·simp;omega
  ·simp at hk
 ·split at hk
  ·rename_i e he;split at hk
   ·rename_i hs;obtain⟨l,hk,hlo⟩:=intOptK_some h hk;obtain⟨m,hk,hhi⟩:=intOptK_some h hk;obtain⟨h0,h1,h2,hk⟩:=subl_some hk;obtain⟨u,hrun,hu⟩:=slice_rd hv.1 he hs hlo hhi h0 h1 h2;exact⟨u,hrun,OpOut.val h hk ⟨hu,fun hn=>by simp at hn⟩⟩
   ·simp at hk
  ·simp at hk
 ·rename_i id;obtain⟨hid,rfl,_⟩:=hv;split at hk
  ·rename_i e ro dp e' ty xs he ho;split at hk
   ·rename_i hs;split at hk
    ·split at hk
     ·simp at hk
     ·rename_i hro;have hro:ro=false:=by simpa using hro
      subst hro;obtain⟨m,hk,hhi⟩:=intOptK_some h hk;obtain⟨h0,h1,h2,hk⟩:=subl_some hk;simp only[Int.toNat_zero,List.drop_zero]at hk;obtain⟨u,hrun,G',hrel,hga,hvl⟩:=front_core h ho he hs hhi h1 h2;exact⟨u,hrun,_,_,hk,(Kp.set _ ho rfl).trans (Kp.add _ _),G',hrel,hga,hvl⟩
    ·obtain⟨l,hk,hlo⟩:=intOptK_some h hk;obtain⟨m,hk,hhi⟩:=intOptK_some h hk;obtain⟨h0,h1,h2,hk7⟩:=subl_some hk;clear hk;split at hk7
     ·rename_i hvw;simp only[Bool.and_eq_true,Bool.not_eq_true']at hvw;obtain⟨_,rfl⟩:=hvw;obtain⟨cells,how,_,_⟩:=h.shallow ho;rcases how.2 with⟨hv',hn⟩ | ⟨g,cap,cur,hv',hg,hh,hnc,hcm,hcs,htake⟩
      ·have hr:=run_sliceAt (C:=C) (w:=w) (p:=none) (len:=0) (cap:=0) (l:=l) (h:=m) he hs hlo (by rw[←hn];exact hhi) h0 h1 (by rw[hn]at h2;exact h2) (Nat.le_refl 0)
       rw[←hv']at hr;exact⟨_,hr,OpOut.val h hk7 ⟨hid,none,0,0,hv',rfl,by omega,Nat.le_refl _,fun h0=>absurd rfl h0⟩⟩
      ·have hr:=run_sliceAt (C:=C) (w:=w) (p:=some ⟨g,0,none⟩) (len:=xs.length) (cap:=cap) (l:=l) (h:=m) he hs hlo hhi h0 h1 h2 hnc;rw[←hv']at hr;exact⟨_,hr,OpOut.val h hk7 ⟨hid,_,_,_,hv',rfl,by omega,hnc,fun _=>⟨g,rfl⟩⟩⟩
     have hk:=hk7;have hf:=h.freeze id _ ho;have hor:=hf.obs id (.own true dp e' ty xs) (by rw[ob_setHp,if_pos ⟨rfl,Sg.ob_lt ho⟩];rfl)
     simp only[OR]at hor;obtain⟨u,hrun,hu⟩:=slice_rd hor he hs hlo hhi h0 h1 h2;refine⟨u,hrun,_,_,hk,?_,G,?_,?_,?_⟩
     ·rw[ho];exact Kp.freeze ho
     ·rw[ho];exact hf
     ·have hkf:=keepFreeze (E:=E) (G:=G) (σ:=σ) (w:=w) (.ref id);simp only[Eng.freezeL,ho]at hkf;rw[ho];exact hkf
     ·rw[ho];exact⟨hu,fun hn=>by simp at hn⟩
   ·simp at hk
  ·simp at hk
 ·simp at hk
theorem slice3K_some {t:TypeId} {x:A} {hi mx:Operand} {k:A→Option ρ} {r:ρ} {v:Value} (h:RelG E G σ a w) (hk:slice3K C σ t x hi mx k = some r)
  (hv:VA (Imm E G σ w) σ.hp.length G w x v) :
  ∃z u,k z=some r∧(Instr.sliceAt t v none (some (a.eval hi)) (some (a.eval mx))).run C.P w=.ok u w∧VA (Imm E G σ w) σ.hp.length G w z u:=by
 unfold slice3K at hk;split at hk
 ·rename_i nn ty xs n1 k1 hh n2 k2 mm e1 e2;have v1:=h.get hi;have v2:=h.get mx;rw[e1]at v1;rw[e2]at v2;have v1:=datInt v1;have v2:=datInt v2;split at hk
  ·rename_i e he;split at hk
   ·rename_i hs;obtain⟨_,hf,hk2⟩:=Option.bind_eq_some_iff.1 hk;clear hk;unfold fullD at hf;split at hf
    ·rename_i hc;obtain⟨rfl,rfl⟩:=hc;obtain⟨p,c,rfl,h3,h4,h5,h6⟩:=RdV_list hv.1;have hu:=elT_some he;have hm:(0:Int)≤(xs.length:Int)∧(xs.length:Int)≤(c:Int):=⟨by omega,by omega⟩
     have hb:(Instr.sliceBounds true xs.length c none (some (a.eval hi)) (some (a.eval mx))).run C.P w=.ok (0,xs.length,xs.length) w:=by
      rw[v1,v2];simp[Instr.sliceBounds,Instr.sliceBound,asIntOf,hm]
     refine⟨_,.slice p xs.length xs.length,hk2,?_,?_,p,xs.length,rfl⟩
     ·simp[Instr.sliceAt,Instr.slice,run_underlying hu,hb,run_sizeOf hs];intro hne;obtain⟨b,o,rfl,_⟩:=h6 hne;simp[add_none]
     ·obtain⟨cs,hr,e⟩:=hv.1;refine⟨[.slice p xs.length xs.length],?_,rfl⟩;simp only[RdC]at hr ⊢;obtain⟨a',n',c',e',g1,g2,g3,g4,g5⟩:=hr;subst e';simp only[mkV,Ty.isProd,Bool.false_eq_true,if_false,List.headD_cons,Value.slice.injEq]at e;obtain⟨rfl,rfl,rfl⟩:=e;exact⟨_,_,_,rfl,g1,Nat.le_refl _,by omega,g4,g5⟩
    ·cases hf
   ·cases hk
  ·cases hk
 ·cases hk
theorem strI_foldl:(xs:List Int)→(s:ByteArray)→xs.foldl (fun r n=>r.push (UInt8.ofNat n.toNat)) s=⟨(s.data.toList++xs.map fun n=>UInt8.ofNat n.toNat).toArray⟩
 | [],s=>by simp
 | x::xs,s=>by
  rw[List.foldl_cons,strI_foldl xs];simp[ByteArray.push]
theorem convertK_some {src dst:TypeId} {x:A} {k:A→Option ρ} {r:ρ} {v:Value} (h:RelG E G σ a w) (hk:convertK C σ src dst x k = some r)
  (hv:VA (Imm E G σ w) σ.hp.length G w x v) :
  ∃y u,k y=some r∧(convert src dst v).run C.P w=.ok u w∧VA (Imm E G σ w) σ.hp.length G w y u:=by
 unfold convertK at hk;split at hk
 ·rename_i hd;have:=datInt hv;subst this;split at hk
  ·rename_i hs;exact⟨_,_,hk,by simp[convert,run_underlying hs,run_underlying hd,Conv.intToInt],intVA⟩
  ·simp at hk
 ·rename_i x hd;split at hk
  ·rename_i e he;split at hk
   ·rename_i hu;obtain⟨xs,hk,hrd,_,_⟩:=rdL_some h hk hv;obtain⟨p,c,rfl,h3,h4,h5,h6⟩:=RdV_list hrd;refine⟨_,.string (strI xs),hk,?_,⟨RdV_str.2 ⟨rfl,?_⟩,fun _=>trivial⟩⟩
    ·rw[run_convert_bytes_string w src dst e p xs.length c (elT_some he) hu hd];cases p with
     | none =>
      have:xs=[]:=by
       cases xs with
       | nil=>rfl
       | cons _ _=>obtain⟨b,o,hp,_⟩:=h6 (by simp);simp at hp
      subst this;simp[Conv.bytesToString,Sem.run_pure,strI];rfl
     | some ad =>
      rw[run_bytesToString w ad xs.length c xs]
      ·rw[strI_foldl];simp[strI]
      ·have:=run_loadCells_list (P:=C.P) w ad (xs.map (Value.int .u8)) fun j u hj=>by
        rw[List.getElem?_map]at hj;cases hx:xs[j]? with
        | none=>simp[hx]at hj
        | some y =>
         simp only[hx,Option.map_some,Option.some.injEq]at hj;subst hj;obtain⟨b,o,hp,hb,hel⟩:=h6 (by intro h0;subst h0;simp at hx)
         simp only[Option.some.injEq]at hp;subst hp;obtain⟨ys,hy1,hy2,hy3⟩:=hel j y hx;simp only[RdC]at hy3;subst hy3;have:=hy2 0 (by decide)
         simpa[Ty.wid,add_none]using this
       simpa using this
    ·show(strI xs).size≤lim;simp[strI,ByteArray.size];exact h5
   ·simp at hk
  ·simp at hk
 ·simp at hk
end
open Go
set_option linter.all false
structure Pre (E:En) (I U:Nat→Prop) (G:Gh) (σ:Sg) (a:Act) (w:World):Prop where
 defers:a.defers=[]
 len:a.tmps.size=σ.env.length
 env:∀(t:Nat) (x:A),σ.env[t]? = some x→VA I σ.hp.length G w x (a.tmps.getD t undef)
 obs:∀(id:Nat) (o:Ob),σ.ob id=some o→OR I σ.hp.length G w id o
 nodup:∀(id:Nat) (o:Ob),σ.ob id=some o→o.ro=false→(G id).2.Nodup
 range:∀(id:Nat) (o:Ob),σ.ob id=some o→o.ro=false→∀b∈(G id).2,b<w.heap.size∧(b<E.B→E.X b)∧U b
 hrange:∀(id:Nat) (o:Ob),σ.ob id=some o→o.ro=false→∀b,(G id).2.head? = some b→(b<E.B→E.H b)∧¬I b
 disj:∀(id id':Nat) (o o':Ob),σ.ob id=some o→o.ro=false→σ.ob id'=some o'→o'.ro=false→id≠id'→∀b∈(G id).2,b∉(G id').2
 os:w.os=E.w0.os
 tape:w.tape=E.w0.tape
 output:Out E.d w E.w0
 size:E.B≤w.heap.size
 frame:∀b,b<E.B→¬E.H b→w.heap[b]? = E.w0.heap[b]?
 xa:XA E
 fixd:∀t,E.F t→a.tmps.getD t undef=E.V t
 acc:∀b,I b→b<w.heap.size∧(b<E.B→E.A b)
section
variable {ρ:Type}{C:Ctx}{E:En}{G:Gh}{σ:Sg}{a:Act}{w:World}{I U:Nat→Prop}
theorem Pre.imm (h:Pre E I U G σ a w)(b:Nat)(hb:I b):Imm E G σ w b :=
 ⟨(h.acc b hb).1,(h.acc b hb).2,fun id o ho hr hh=>(h.hrange id o ho hr b hh).2 hb⟩
theorem Pre.keep (h:Pre E I U G σ a w):Keep I (Imm E G σ w) σ.hp.length σ.hp.length G G w w :=
 ⟨h.imm,fun _ _=>rfl,Nat.le_refl _,fun _ _=>rfl⟩
theorem Pre.rel (h:Pre E I U G σ a w):RelG E G σ a w :=
 {defers:=h.defers
  len:=h.len
  env:=fun t x hx=>(h.env t x hx).keep h.keep x
  obs:=fun id o ho=>(h.obs id o ho).keep h.keep (Sg.ob_lt ho) rfl o fun _ _ _=>rfl
  nodup:=h.nodup
  range:=fun id o ho hr b hb=>⟨(h.range id o ho hr b hb).1,(h.range id o ho hr b hb).2.1⟩
  hrange:=fun id o ho hr b hb=>(h.hrange id o ho hr b hb).1
  disj:=h.disj
  os:=h.os
  tape:=h.tape
  output:=h.output
  size:=h.size
  frame:=h.frame
  xa:=h.xa
  fixd:=h.fixd }
structure Adm (E:En) (I U:Nat→Prop) (w:World) (bss:List (List Nat)):Prop where
 nodup:bss.flatten.Nodup
 range:∀b∈bss.flatten,b<w.heap.size∧(b<E.B→E.X b)∧¬U b
 head:∀bs∈bss,∀b,bs.head? = some b→(b<E.B→E.H b)∧¬I b
theorem Adm.left {b1 b2:List (List Nat)}(h:Adm E I U w (b1++b2)):Adm E I U w b1 :=
 ⟨by have:=h.nodup; rw [List.flatten_append,List.nodup_append] at this; exact this.1,
  fun b hb=>h.range b (by rw[List.flatten_append];exact List.mem_append_left _ hb),fun bs hb=>h.head bs (List.mem_append_left _ hb)⟩
theorem Adm.right {b1 b2:List (List Nat)}(h:Adm E I U w (b1++b2)):Adm E I (fun b=>U b∨b∈b1.flatten) w b2:=by
 have hn:=h.nodup;rw[List.flatten_append,List.nodup_append]at hn;refine⟨hn.2.1,fun b hb=>?_,fun bs hb=>h.head bs (List.mem_append_right _ hb)⟩;obtain⟨h1,h2,h3⟩:=h.range b (by rw[List.flatten_append];exact List.mem_append_right _ hb)
 exact⟨h1,h2,fun hu=>hu.elim h3 fun hm=>hn.2.2 b hm b hb rfl⟩
theorem Adm.single {bs:List Nat}{r:List (List Nat)}(h:Adm E I U w (bs::r)):Adm E I U w [bs]:=Adm.left (b2:=r) h
theorem Adm.tail {bs:List Nat}{r:List (List Nat)}(h:Adm E I U w (bs::r)):Adm E I (fun b=>U b∨b∈bs) w r:=by
 have:=Adm.right (b1:=[bs]) (b2:=r) h;simpa using this
theorem Pre.wide {U':Nat→Prop}(h:Pre E I U G σ a w)(hU:∀b,U b→U' b):Pre E I U' G σ a w :=
 {h with range:=fun id o ho hr b hb=>⟨(h.range id o ho hr b hb).1,(h.range id o ho hr b hb).2.1,hU b (h.range id o ho hr b hb).2.2⟩ }
structure Grow (σ σ':Sg) (G G':Gh):Prop where
 env:σ'.env=σ.env
 n:σ.hp.length≤σ'.hp.length
 ob:∀id,id<σ.hp.length→σ'.ob id=σ.ob id
 g:∀id,id<σ.hp.length→G' id=G id
theorem Grow.refl (σ:Sg)(G:Gh):Grow σ σ G G:=⟨rfl,Nat.le_refl _,fun _ _=>rfl,fun _ _=>rfl⟩
theorem Grow.trans {σ1 σ2 σ3:Sg}{G1 G2 G3:Gh}(h:Grow σ1 σ2 G1 G2)(k:Grow σ2 σ3 G2 G3):Grow σ1 σ3 G1 G3 :=
 ⟨k.env.trans h.env,Nat.le_trans h.n k.n,fun id hi=>(k.ob id (Nat.lt_of_lt_of_le hi h.n)).trans (h.ob id hi),fun id hi=>(k.g id (Nat.lt_of_lt_of_le hi h.n)).trans (h.g id hi)⟩
theorem Grow.keep {σ σ':Sg}{G G':Gh}(h:Grow σ σ' G G'):Keep I I σ.hp.length σ'.hp.length G G' w w :=
 ⟨fun _ hb=>hb,fun _ _=>rfl,h.n,fun id hi=>by rw[h.g id hi]⟩
theorem Pre.put (h:Pre E I U G σ a w) {σ':Sg} (n:Nat) (o:Ob) (v:Value) (bs:List Nat) (hro:o.ro = false) (ha:Adm E I U w [bs])
  (hn:n=σ.hp.length∨(n<σ.hp.length∧σ.ob n=none∧(G n).1=v)) (henv:σ'.env=σ.env) (hlen:σ.hp.length≤σ'.hp.length)
  (hσ:∀i,σ'.ob i=if i=n then some o else σ.ob i)
  (hor:∀G':Gh,(∀i,i<σ.hp.length→(G' i).1=(G i).1)→G' n=(v,bs)→OR I σ'.hp.length G' w n o) :
  ∃G',Pre E I (fun b=>U b∨b∈bs) G' σ' a w∧G' n=(v,bs)∧(∀i,i≠n→G' i=G i)∧∀i,i<σ.hp.length→(G' i).1=(G i).1:=by
 let G':Gh:=fun i=>if i=n then(v,bs)else G i
 have hGn:G' n=(v,bs):=by simp[G']
 have hGo:∀i,i≠n→G' i=G i:=fun i hi=>by simp[G',hi]
 have hG1:∀i,i<σ.hp.length→(G' i).1=(G i).1:=fun i hi=>by
  by_cases hin:i=n
  ·subst hin;rw[hGn];rcases hn with hn | hn
   ·omega
   ·exact hn.2.2.symm
  ·rw[hGo i hin]
 have hold:∀i o',σ'.ob i=some o'→i≠n→σ.ob i=some o':=fun i o' ho' hi=>by rw[hσ i,if_neg hi]at ho';exact ho'
 have hnew:∀o',σ'.ob n=some o'→o'=o:=fun o' ho'=>by rw[hσ n,if_pos rfl]at ho';exact(Option.some.inj ho').symm
 have hk:Keep I I σ.hp.length σ'.hp.length G G' w w:=⟨fun _ hb=>hb,fun _ _=>rfl,hlen,hG1⟩;have hf:[bs].flatten=bs:=by simp
 have hanod:=ha.nodup;have harng:=ha.range;rw[hf]at hanod harng;refine ⟨G',{ h with
   len:=by rw[henv];exact h.len
   env:=fun t x hx=>by rw[henv]at hx;exact(h.env t x hx).keep hk x
   obs:=fun i o' ho'=>?_
   nodup:=fun i o' ho' hr=>?_
   range:=fun i o' ho' hr b hb=>?_
   hrange:=fun i o' ho' hr b hb=>?_
   disj:=fun i j o1 o2 h1 hr1 h2 hr2 hij b hb=>?_ },hGn,hGo,hG1⟩
 ·by_cases hin:i=n
  ·subst hin;rw[hnew o' ho'];exact hor G' hG1 hGn
  ·have:=hold i o' ho' hin;exact(h.obs i o' this).keep hk (Sg.ob_lt this) (hGo i hin) o' fun _ _ _=>rfl
 ·by_cases hin:i=n
  ·subst hin;rw[hGn];exact hanod
  ·rw[hGo i hin];exact h.nodup i o' (hold i o' ho' hin) hr
 ·by_cases hin:i=n
  ·subst hin;rw[hGn]at hb;obtain⟨h1,h2,_⟩:=harng b hb;exact⟨h1,h2,.inr hb⟩
  ·rw[hGo i hin]at hb;obtain⟨h1,h2,h3⟩:=h.range i o' (hold i o' ho' hin) hr b hb;exact⟨h1,h2,.inl h3⟩
 ·by_cases hin:i=n
  ·subst hin;rw[hGn]at hb;exact ha.head bs (by simp) b hb
  ·rw[hGo i hin]at hb;exact h.hrange i o' (hold i o' ho' hin) hr b hb
 ·have key:∀(j:Nat) (o2:Ob),σ'.ob j=some o2→o2.ro=false→j≠n→∀b∈bs,b∉(G j).2:=fun j o2 h2 hr2 hj b hb hbj =>
   (harng b hb).2.2 (h.range j o2 (hold j o2 h2 hj) hr2 b hbj).2.2
  by_cases hin:i=n
  ·have hjn:j≠n:=fun e=>hij (hin.trans e.symm);rw[hGo j hjn];rw[hin,hGn]at hb;exact key j o2 h2 hr2 hjn b hb
  ·rw[hGo i hin]at hb;by_cases hjn:j=n
   ·rw[hjn,hGn];exact fun hb'=>key i o1 h1 hr1 hin b hb' hb
   ·rw[hGo j hjn];exact h.disj i j o1 o2 (hold i o1 h1 hin) hr1 (hold j o2 h2 hjn) hr2 hij b hb
theorem Pre.add (h:Pre E I U G σ a w) (o:Ob) (v:Value) (bs:List Nat) (hro:o.ro = false) (ha:Adm E I U w [bs])
  (hor:∀G':Gh,(∀i,i<σ.hp.length→(G' i).1=(G i).1)→G' σ.hp.length=(v,bs)→OR I (σ.hp.length+1) G' w σ.hp.length o) :
  ∃G',Pre E I (fun b=>U b∨b∈bs) G' (addHp σ o) a w∧G' σ.hp.length=(v,bs)∧Grow σ (addHp σ o) G G':=by
 obtain⟨G',h1,h2,h3,h4⟩:=h.put (σ':=addHp σ o) σ.hp.length o v bs hro ha (.inl rfl) rfl (by simp) (fun i=>ob_addHp σ i o) (fun G' hG hn=>by rw[addHp_len];exact hor G' hG hn)
 exact⟨G',h1,h2,rfl,by simp,fun i hi=>by rw[ob_addHp,if_neg (by omega)],fun i hi=>h3 i (by omega)⟩
def LV (I:Nat→Prop)(w:World):(c:LK)→c.den→Value→List Nat→Prop
 | .d nn t,y,v,bs=>RdV I w t y v∧(nn=true→nnP t y v)∧bs=[]
 | .o dp e t,y,v,bs=>OwnV I w dp e t y v bs
 | .m n,y,v,bs=>MapV w n y v bs
def LVs (I:Nat→Prop)(w:World):(cs:List LK)→LKs.den cs→List Value→List (List Nat)→Prop
 | [],_,[],bss=>bss=[]
 | [c],y,[v],bss=>∃bs,bss=[bs]∧LV I w c y v bs∧v.oneCell'=true
 | c::c'::r,y,v::vs,bss=>∃bs rest,bss=bs::rest∧(LV I w c y.1 v bs∧v.oneCell'=true)∧LVs I w (c'::r) y.2 vs rest
 | _,_,_,_=>False
def SV (I:Nat→Prop)(w:World):(c:SK)→c.den→Value→List (List Nat)→Prop
 | .l c,y,v,bss=>∃bs,bss=[bs]∧LV I w c y v bs
 | .a cs,y,v,bss=>∃vs:List Value,v=.agg vs.toArray∧LVs I w cs y vs bss
 | .b e cs,y,v,bss=>∃(b:Nat) (arr:Array Value) (rest:List (List Nat)),v=.pointer (some ⟨b,0,none⟩)∧w.heap[b]? = some (.cells arr e (0,0))∧LVs I w cs y arr.toList rest∧bss=rest++[[b]]
def SVs (I:Nat→Prop)(w:World):(cs:List SK)→SKs.den cs→List Value→List (List Nat)→Prop
 | [],_,[],bss=>bss=[]
 | [c],y,[v],bss=>SV I w c y v bss
 | c::c'::r,y,v::vs,bss=>∃b1 b2,bss=b1++b2∧SV I w c y.1 v b1∧SVs I w (c'::r) y.2 vs b2
 | _,_,_,_=>False
theorem OwnV.one {dp:Bool}{e:TypeId}{t:Ty}{x:List t.den}{v:Value}{bs:List Nat}(h:OwnV I w dp e t x v bs):v.oneCell'=true:=by
 obtain⟨_,cells,bss,ho,_⟩:=h;rcases ho.2 with⟨hv,_⟩ | ⟨g,cap,cur,hv,_⟩<;>(rw[hv];rfl)
theorem encL_some (h:Pre E I U G σ a w):(c:LK)→{y:c.den}→{v:Value}→{bs:List Nat}→LV I w c y v bs→Adm E I U w [bs] →
  ∃l σ' G',(∀(ρ:Type) (k:L→Sg→Option ρ),encL σ c y k=k l σ')∧Pre E I (fun b=>U b∨b∈bs) G' σ' a w∧VL I σ'.hp.length G' w l v∧Grow σ σ' G G'
 | .d nn t,y,v,bs,hv,ha=>⟨.dat nn t y,σ,G,fun _ _=>rfl,h.wide fun _ hb=>.inl hb,⟨hv.1,hv.2.1⟩,Grow.refl _ _⟩
 | .o dp e t,y,v,bs,hv,ha=>by
  simp only[LV]at hv;obtain⟨G',h1,h2,h3⟩:=h.add (.own false dp e t y) v bs rfl ha (fun G' _ hn=>by simp only[OR,hn];exact hv)
  exact⟨.ref σ.hp.length,_,G',fun _ _=>rfl,h1,⟨by simp,by rw[h2],hv.one⟩,h3⟩
 | .m n,y,v,bs,hv,ha=>by
  simp only[LV]at hv;obtain⟨G',h1,h2,h3⟩:=h.add (.mp false n y) v bs rfl ha (fun G' _ hn=>by simp only[OR,hn];exact hv)
  obtain⟨b,es,clock,rfl,_⟩:=hv;exact⟨.ref σ.hp.length,_,G',fun _ _=>rfl,h1,⟨by simp,by rw[h2],rfl⟩,h3⟩
theorem encLs_some:(cs:List LK)→{σ:Sg}→{G:Gh}→{U:Nat→Prop}→Pre E I U G σ a w→{y:LKs.den cs}→{vs:List Value}→{bss:List (List Nat)}→LVs I w cs y vs bss→Adm E I U w bss →
  ∃ls σ' G',(∀(ρ:Type) (k:List L→Sg→Option ρ),encLs σ cs y k=k ls σ')∧Pre E I (fun b=>U b∨b∈bss.flatten) G' σ' a w∧VLs I σ'.hp.length G' w ls vs∧Grow σ σ' G G'
 | [],σ,G,U,h,y,[],bss,hv,ha=>⟨[],σ,G,fun _ _=>rfl,h.wide fun _ hb=>.inl hb,trivial,Grow.refl _ _⟩
 | [c],σ,G,U,h,y,[v],bss,hv,ha=>by
  obtain⟨bs,rfl,hv,h1⟩:=hv;obtain⟨l,σ',G',h2,h3,h4,h5⟩:=encL_some h c hv ha;exact⟨[l],σ',G',fun ρ k=>by simp only[encLs];exact h2 ρ _,h3.wide fun b hb=>hb.imp (fun h=>h) fun h=>by simpa using h,⟨⟨h4,h1⟩,trivial⟩,h5⟩
 | c::c'::r,σ,G,U,h,y,v::vs,bss,hv,ha=>by
  obtain⟨bs,rest,rfl,⟨hv,h1⟩,hvs⟩:=hv;obtain⟨l,σ',G',h2,h3,h4,h5⟩:=encL_some h c hv ha.single;obtain⟨ls,σ2,G2,k2,k3,k4,k5⟩:=encLs_some (c'::r) h3 hvs ha.tail;refine⟨l::ls,σ2,G2,fun ρ k=>by simp only[encLs];rw[h2,k2],k3.wide fun b hb=>?_,⟨⟨h4.keep k5.keep l,h1⟩,k4⟩,h5.trans k5⟩
  rw[List.flatten_cons,List.mem_append];rcases hb with(hb | hb) | hb
  ·exact .inl hb
  ·exact .inr (.inl hb)
  ·exact .inr (.inr hb)
 | [],_,_,_,_,_,_::_,_,hv,_=>hv.elim
 | [_],_,_,_,_,_,[],_,hv,_=>hv.elim
 | [_],_,_,_,_,_,_::_::_,_,hv,_=>hv.elim
 | _::_::_,_,_,_,_,_,[],_,hv,_=>hv.elim
theorem encS_some (h:Pre E I U G σ a w):(c:SK)→{y:c.den}→{v:Value}→{bss:List (List Nat)}→SV I w c y v bss→Adm E I U w bss →
  ∃x σ' G',(∀(ρ:Type) (k:A→Sg→Option ρ),encS σ c y k=k x σ')∧Pre E I (fun b=>U b∨b∈bss.flatten) G' σ' a w∧VA I σ'.hp.length G' w x v∧Grow σ σ' G G'
 | .l c,y,v,bss,hv,ha=>by
  obtain⟨bs,rfl,hv⟩:=hv;obtain⟨l,σ',G',h2,h3,h4,h5⟩:=encL_some h c hv ha;exact⟨.l l,σ',G',fun ρ k=>by simp only[encS];exact h2 ρ _,h3.wide fun b hb=>hb.imp (fun h=>h) fun h=>by simpa using h,h4,h5⟩
 | .a cs,y,v,bss,hv,ha=>by
  obtain⟨vs,rfl,hv⟩:=hv;obtain⟨ls,σ',G',h2,h3,h4,h5⟩:=encLs_some cs h hv ha;exact⟨.a ls,σ',G',fun ρ k=>by simp only[encS];exact h2 ρ _,h3,⟨vs,rfl,h4⟩,h5⟩
 | .b e cs,y,v,bss,hv,ha=>by
  obtain⟨b,arr,rest,rfl,hh,hv,rfl⟩:=hv;obtain⟨ls,σ',G',h2,h3,h4,h5⟩:=encLs_some cs h hv ha.left;obtain⟨G2,k1,k2,k3⟩:=h3.add (.box false e ls) (.pointer (some ⟨b,0,none⟩)) [b] rfl ha.right (fun G2 hG hn=>by
   simp only[OR,hn,Bool.false_eq_true,if_false];exact⟨b,arr,rfl,hh,h4.keep ⟨fun _ hb=>hb,fun _ _=>rfl,Nat.le_succ _,hG⟩ ls,rfl⟩)
  refine⟨.l (.bptr σ'.hp.length 0),_,G2,fun ρ k=>by simp only[encS];rw[h2],k1.wide fun c hc=>?_,⟨by simp,b,by rw[k2],rfl⟩,h5.trans k3⟩
  rw[List.flatten_append,List.mem_append];rcases hc with(hc | hc) | hc
  ·exact .inl hc
  ·exact .inr (.inl hc)
  ·exact .inr (.inr (by simpa using hc))
theorem encSs_some:(cs:List SK)→{σ:Sg}→{G:Gh}→{U:Nat→Prop}→Pre E I U G σ a w→{y:SKs.den cs}→{vs:List Value}→{bss:List (List Nat)}→SVs I w cs y vs bss→Adm E I U w bss →
  ∃xs σ' G',(∀(ρ:Type) (k:List A→Sg→Option ρ),encSs σ cs y k=k xs σ')∧Pre E I (fun b=>U b∨b∈bss.flatten) G' σ' a w∧VAs I σ'.hp.length G' w xs vs∧Grow σ σ' G G'
 | [],σ,G,U,h,y,[],bss,hv,ha=>⟨[],σ,G,fun _ _=>rfl,h.wide fun _ hb=>.inl hb,trivial,Grow.refl _ _⟩
 | [c],σ,G,U,h,y,[v],bss,hv,ha=>by
  simp only[SVs]at hv;obtain⟨x,σ',G',h2,h3,h4,h5⟩:=encS_some h c hv ha;exact⟨[x],σ',G',fun ρ k=>by simp only[encSs];exact h2 ρ _,h3,⟨h4,trivial⟩,h5⟩
 | c::c'::r,σ,G,U,h,y,v::vs,bss,hv,ha=>by
  obtain⟨b1,b2,rfl,hv,hvs⟩:=hv;obtain⟨x,σ',G',h2,h3,h4,h5⟩:=encS_some h c hv ha.left;obtain⟨xs,σ2,G2,k2,k3,k4,k5⟩:=encSs_some (c'::r) h3 hvs ha.right;refine⟨x::xs,σ2,G2,fun ρ k=>by simp only[encSs];rw[h2,k2],k3.wide fun b hb=>?_,⟨h4.keep k5.keep x,k4⟩,h5.trans k5⟩
  rw[List.flatten_append,List.mem_append];rcases hb with(hb | hb) | hb
  ·exact .inl hb
  ·exact .inr (.inl hb)
  ·exact .inr (.inr hb)
 | [],_,_,_,_,_,_::_,_,hv,_=>hv.elim
 | [_],_,_,_,_,_,[],_,hv,_=>hv.elim
 | [_],_,_,_,_,_,_::_::_,_,hv,_=>hv.elim
 | _::_::_,_,_,_,_,_,[],_,hv,_=>hv.elim
end
open Go
set_option linter.all false
section
variable {ρ:Type}{C:Ctx}{E:En}{G:Gh}{σ σ':Sg}{a:Act}{w:World}{ids:List Nat}
def Mine (σ:Sg)(ids:List Nat):Prop:=∀i∈ids,∃o,σ.ob i=some o∧o.ro=false
def Rdb (E:En)(G:Gh)(w:World)(ids:List Nat)(b:Nat):Prop:=Acc E w b∧∀i∈ids,(G i).2.head?≠some b
def nnSrc (x:L):Prop:=x=.nils∨∃t y,x=.dat true t y
theorem Imm.rdb (hm:Mine σ ids){b:Nat}(h:Imm E G σ w b):Rdb E G w ids b :=
 ⟨h.acc,fun i hi=>by obtain⟨o,ho,hr⟩:=hm i hi;exact h.2.2 i o ho hr⟩
theorem nil_rd {S:Nat→Prop}{t:Ty}:RdV S w (.list t) [] (.slice none 0 0) :=
 ⟨[.slice none 0 0],by simp only[RdC];exact⟨none,0,0,rfl,rfl,Nat.le_refl _,Nat.zero_le _,Nat.zero_le _,fun hne=>absurd rfl hne⟩,rfl⟩
theorem rdL_gone {t:Ty} {x:L} {k:t.den→Option ρ} {r:ρ} {v:Value} (h:RelG E G σ a w) (hg:Gone σ σ' ids) (hm:Mine σ ids) (hk:rdL σ' t x k = some r)
  (hv:VL (Imm E G σ w) σ.hp.length G w x v):∃y,k y=some r∧RdV (Rdb E G w ids) w t y v∧(okL σ' x=true→RdV (Imm E G σ w) w t y v)∧(nnSrc x→nnP t y v):=by
 have wide:∀{t:Ty} {y:t.den},RdV (Imm E G σ w) w t y v→RdV (Rdb E G w ids) w t y v:=fun hr=>hr.mono (fun b hb=>hb.rdb hm) fun _ _=>rfl;unfold rdL at hk;split at hk
 ·rename_i nn t' y;cases hc:castT t' t y with
  | none=>simp[hc]at hk
  | some z =>
   simp only[hc,Option.bind_some]at hk;obtain⟨e,rfl⟩:=castT_some hc;subst e;exact⟨_,hk,wide hv.1,fun _=>hv.1,fun hn=>by
    rcases hn with hn | ⟨_,_,hn⟩
    ·simp at hn
    ·simp only[L.dat.injEq]at hn;exact hv.2 hn.1⟩
 ·split at hk
  ·simp only[VL]at hv;subst hv;exact⟨_,hk,nil_rd,fun _=>nil_rd,fun _ _=>rfl⟩
  ·simp at hk
 ·rename_i id;split at hk
  ·rename_i ro dp e t' y ho;cases hc:castT (.list t') t y with
   | none=>simp[hc]at hk
   | some z =>
    simp only[hc,Option.bind_some]at hk;obtain⟨e',rfl⟩:=castT_some hc;subst e';obtain⟨hni,ho'⟩:=hg.sub ho;obtain⟨_,rfl,_⟩:=hv;have hor:=h.obs id _ ho';refine⟨_,hk,?_,fun hok=>?_,fun hn=>by rcases hn with hn | ⟨_,_,hn⟩<;>simp at hn⟩
    ·cases ro with
     | true=>simp only[OR]at hor;exact hor.mono (fun b hb=>hb.rdb hm) fun _ _=>rfl
     | false =>
      simp only[OR]at hor;refine hor.rd (fun b hb=>hb.rdb hm) fun b hb=>⟨⟨(h.range id _ ho' rfl b hb).1,fun hB=>h.xa.a b ((h.range id _ ho' rfl b hb).2 hB)⟩,fun i hi hh=>?_⟩;obtain⟨o,hoi,hr⟩:=hm i hi;exact h.disj id i _ o ho' rfl hoi hr (fun e=>hni (e▸hi)) b hb (List.mem_of_mem_head? hh)
    ·simp only[okL,ho]at hok;subst hok;simpa only[OR]using hor
  ·simp at hk
 ·simp at hk
theorem nnL_some {t:Ty}{x:L}{y:t.den}{k:Option ρ}{r:ρ}{v:Value}(hk:nnL t x y k=some r)(hs:nnSrc x→nnP t y v):k=some r∧nnP t y v:=by
 unfold nnL at hk;split at hk
 ·exact⟨hk,hs (.inl rfl)⟩
 ·exact⟨hk,hs (.inr ⟨_,_,rfl⟩)⟩
 ·split at hk
  ·rename_i t z;unfold nneD at hk;split at hk
   ·simp at hk
   ·rename_i hne;exact⟨hk,fun h0=>by simp only at h0;rw[h0]at hne;simp at hne⟩
  ·rename_i hn;refine⟨hk,?_⟩;cases t with
   | list t=>exact(hn t y rfl HEq.rfl).elim
   | _=>trivial
theorem nnK_some {nn:Bool}{t:Ty}{x:L}{y:t.den}{k:Option ρ}{r:ρ}{v:Value}(hk:nnK nn t x y k=some r)(hs:nnSrc x→nnP t y v):k=some r∧(nn=true→nnP t y v):=by
 unfold nnK at hk;split at hk
 ·obtain⟨h1,h2⟩:=nnL_some hk hs;exact⟨h1,fun _=>h2⟩
 ·exact⟨hk,fun hf=>by simp at hf⟩
theorem nnA_some {nn:Bool}{t:Ty}{x:A}{y:t.den}{k:Option ρ}{r:ρ}{v:Value}(hk:nnA nn t x y k=some r)(hs:(∀l,x=.l l→nnSrc l)→nnP t y v):k=some r∧(nn=true→nnP t y v):=by
 unfold nnA at hk;split at hk
 ·split at hk
  ·obtain⟨h1,h2⟩:=nnL_some hk fun hn=>hs fun l hl=>by simp only[A.l.injEq]at hl;subst hl;exact hn
   exact⟨h1,fun _=>h2⟩
  ·simp at hk
 ·exact⟨hk,fun hf=>by simp at hf⟩
theorem rdLs_gone:(t:Ty)→{ls:List L}→{vs:List Value}→{k:t.den→List L→Option ρ}→{r:ρ}→(h:RelG E G σ a w)→(hg:Gone σ σ' ids)→(hm:Mine σ ids)→(hk:rdLs σ' t ls k = some r) →
  (hv:VLs (Imm E G σ w) σ.hp.length G w ls vs)→∃y ls' cs vs',k y ls'=some r∧vs=cs++vs'∧VLs (Imm E G σ w) σ.hp.length G w ls' vs'∧RdC (Rdb E G w ids) w t y cs ∧
   (ls.all (okL σ')=true→RdC (Imm E G σ w) w t y cs∧ls'.all (okL σ')=true)
 | .prod p q,ls,vs,k,r,h,hg,hm,hk,hv=>by
  simp only[rdLs]at hk;obtain⟨y1,l1,c1,v1,hk1,rfl,hv1,r1,o1⟩:=rdLs_gone p h hg hm hk hv;obtain⟨y2,l2,c2,v2,hk2,rfl,hv2,r2,o2⟩:=rdLs_gone q h hg hm hk1 hv1;refine⟨(y1,y2),l2,c1++c2,v2,hk2,by simp,hv2,?_,fun hok=>?_⟩
  ·simp only[RdC];exact⟨c1,c2,rfl,r1,r2⟩
  ·obtain⟨q1,q2⟩:=o1 hok;obtain⟨q3,q4⟩:=o2 q2;simp only[RdC];exact⟨⟨c1,c2,rfl,q1,q3⟩,q4⟩
 | .list t,x::ls,v::vs,k,r,h,hg,hm,hk,hv=>rdLs_one h hg hm (by simpa only[rdLs]using hk) hv
 | .int t,x::ls,v::vs,k,r,h,hg,hm,hk,hv=>rdLs_one h hg hm (by simpa only[rdLs]using hk) hv
 | .bool,x::ls,v::vs,k,r,h,hg,hm,hk,hv=>rdLs_one h hg hm (by simpa only[rdLs]using hk) hv
 | .str,x::ls,v::vs,k,r,h,hg,hm,hk,hv=>rdLs_one h hg hm (by simpa only[rdLs]using hk) hv
 | .list t,[],vs,k,r,h,hg,hm,hk,hv=>by simp[rdLs]at hk
 | .int kd,[],vs,k,r,h,hg,hm,hk,hv=>by simp[rdLs]at hk
 | .bool,[],vs,k,r,h,hg,hm,hk,hv=>by simp[rdLs]at hk
 | .str,[],vs,k,r,h,hg,hm,hk,hv=>by simp[rdLs]at hk
 | .list t,_::_,[],k,r,h,hg,hm,hk,hv=>hv.elim
 | .int kd,_::_,[],k,r,h,hg,hm,hk,hv=>hv.elim
 | .bool,_::_,[],k,r,h,hg,hm,hk,hv=>hv.elim
 | .str,_::_,[],k,r,h,hg,hm,hk,hv=>hv.elim
where
 rdLs_one {t:Ty} {x:L} {ls:List L} {v:Value} {vs:List Value} {k:t.den→List L→Option ρ} {r:ρ} (h:RelG E G σ a w) (hg:Gone σ σ' ids) (hm:Mine σ ids) (hk:rdL σ' t x (fun y=>k y ls) = some r)
   (hv:VLs (Imm E G σ w) σ.hp.length G w (x::ls) (v::vs)):∃y ls' cs vs',k y ls'=some r∧v::vs=cs++vs'∧VLs (Imm E G σ w) σ.hp.length G w ls' vs'∧RdC (Rdb E G w ids) w t y cs ∧
    ((x::ls).all (okL σ')=true→RdC (Imm E G σ w) w t y cs∧ls'.all (okL σ')=true):=by
  obtain⟨y,h1,h2,h3,_⟩:=rdL_gone h hg hm hk hv.1.1;refine⟨y,ls,[v],vs,h1,rfl,hv.2,?_,fun hok=>?_⟩
  ·have:=h2.cells;rwa [cells_one hv.1.2]at this
  ·simp only[List.all_cons,Bool.and_eq_true]at hok;have:=(h3 hok.1).cells;rw[cells_one hv.1.2]at this;exact⟨this,hok.2⟩
theorem rdA_gone {t:Ty} {x:A} {k:t.den→Option ρ} {r:ρ} {v:Value} (h:RelG E G σ a w) (hg:Gone σ σ' ids) (hm:Mine σ ids) (hk:rdA σ' t x k = some r)
  (hv:VA (Imm E G σ w) σ.hp.length G w x v):∃y,k y=some r∧RdV (Rdb E G w ids) w t y v∧(okA σ' x=true→RdV (Imm E G σ w) w t y v)∧((∀l,x=.l l→nnSrc l)→nnP t y v):=by
 unfold rdA at hk;split at hk
 ·obtain⟨y,h1,h2,h3,h4⟩:=rdL_gone h hg hm hk hv;exact⟨y,h1,h2,h3,fun hl=>h4 (hl _ rfl)⟩
 ·split at hk
  ·rename_i ls _ p q _;obtain⟨vs,rfl,hvs⟩:=hv;obtain⟨y,ls',cs,vs',hk,rfl,hv',hr,ho⟩:=rdLs_gone (.prod p q) h hg hm hk hvs;split at hk
   ·have:vs'=[]:=by cases vs' with
     | nil=>rfl
     | cons _ _=>exact hv'.elim
    subst this;refine⟨y,hk,⟨cs,hr,by simp[mkV,Ty.isProd]⟩,fun hok=>⟨cs,(ho hok).1,by simp[mkV,Ty.isProd]⟩,fun _=>trivial⟩
   ·simp at hk
  ·simp at hk
 ·simp at hk
structure Cls (G:Gh) (ids:List Nat) (bss:List (List Nat)):Prop where
 nodup:bss.flatten.Nodup
 mem:∀bs∈bss,∀b∈bs,∃id∈ids,b∈(G id).2
 head:∀bs∈bss,∀b,bs.head? = some b→∃id∈ids,(G id).2.head? = some b
theorem Cls.nil:Cls G [] []:=⟨by simp,by simp,by simp⟩
theorem Cls.nil1:Cls G [] [[]]:=⟨by simp,by simp,by simp⟩
theorem Cls.append (h:RelG E G σ a w){n1 n2:List Nat}{b1 b2:List (List Nat)}(hm1:Mine σ n1)(hm2:Mine σ n2)(hd:∀i∈n2,i∉n1)(h1:Cls G n1 b1)(h2:Cls G n2 b2):Cls G (n1++n2) (b1++b2):=by
 refine⟨?_,fun bs hbs b hb=>?_,fun bs hbs b hb=>?_⟩
 ·rw[List.flatten_append,List.nodup_append];refine⟨h1.nodup,h2.nodup,fun b hb c hc hbc=>?_⟩;subst hbc;obtain⟨q1,hq1,hb1⟩:=List.mem_flatten.1 hb;obtain⟨q2,hq2,hb2⟩:=List.mem_flatten.1 hc;obtain⟨i,hi,hbi⟩:=h1.mem q1 hq1 b hb1;obtain⟨j,hj,hbj⟩:=h2.mem q2 hq2 b hb2;obtain⟨o1,ho1,hr1⟩:=hm1 i hi;obtain⟨o2,ho2,hr2⟩:=hm2 j hj;exact h.disj i j o1 o2 ho1 hr1 ho2 hr2 (fun e=>hd j hj (e▸hi)) b hbi hbj
 ·rcases List.mem_append.1 hbs with hbs | hbs
  ·obtain⟨i,hi,hx⟩:=h1.mem bs hbs b hb;exact⟨i,List.mem_append_left _ hi,hx⟩
  ·obtain⟨i,hi,hx⟩:=h2.mem bs hbs b hb;exact⟨i,List.mem_append_right _ hi,hx⟩
 ·rcases List.mem_append.1 hbs with hbs | hbs
  ·obtain⟨i,hi,hx⟩:=h1.head bs hbs b hb;exact⟨i,List.mem_append_left _ hi,hx⟩
  ·obtain⟨i,hi,hx⟩:=h2.head bs hbs b hb;exact⟨i,List.mem_append_right _ hi,hx⟩
theorem Cls.adm (h:RelG E G σ a w)(hm:Mine σ ids){bss:List (List Nat)}(hc:Cls G ids bss){U:Nat→Prop}(hU:∀i∈ids,∀b∈(G i).2,¬U b):Adm E (Imm E G σ w) U w bss:=by
 refine⟨hc.nodup,fun b hb=>?_,fun bs hbs b hb=>?_⟩
 ·obtain⟨q,hq,hbq⟩:=List.mem_flatten.1 hb;obtain⟨i,hi,hbi⟩:=hc.mem q hq b hbq;obtain⟨o,ho,hr⟩:=hm i hi;have:=h.range i o ho hr b hbi;exact⟨this.1,this.2,hU i hi b hbi⟩
 ·obtain⟨i,hi,hbi⟩:=hc.head bs hbs b hb;obtain⟨o,ho,hr⟩:=hm i hi;exact⟨h.hrange i o ho hr b hbi,fun hI=>hI.2.2 i o ho hr hbi⟩
structure Took (G:Gh) (σ σ2:Sg) (ids new:List Nat) (bss:List (List Nat)):Prop where
 gone:Gone σ σ2 (ids++new)
 mine:Mine σ new
 fresh:∀i∈new,i∉ids
 nodup:new.Nodup
 cls:Cls G new bss
theorem Took.none (hg:Gone σ σ' ids):Took G σ σ' ids [] []:=⟨by simpa using hg,by simp[Mine],by simp,by simp,Cls.nil⟩
theorem Took.none1 (hg:Gone σ σ' ids):Took G σ σ' ids [] [[]]:=⟨by simpa using hg,by simp[Mine],by simp,by simp,Cls.nil1⟩
theorem Took.trans (h:RelG E G σ a w){σ2 σ3:Sg}{n1 n2:List Nat}{b1 b2:List (List Nat)}(h1:Took G σ σ2 ids n1 b1)(h2:Took G σ σ3 (ids++n1) n2 b2):Took G σ σ3 ids (n1++n2) (b1++b2):=by
 have hd:∀i∈n2,i∉n1:=fun i hi hm=>h2.fresh i hi (List.mem_append_right _ hm);refine⟨by rw[←List.append_assoc];exact h2.gone,fun i hi=>?_,fun i hi=>?_,?_,Cls.append h h1.mine h2.mine hd h1.cls h2.cls⟩
 ·rcases List.mem_append.1 hi with hi | hi
  ·exact h1.mine i hi
  ·exact h2.mine i hi
 ·rcases List.mem_append.1 hi with hi | hi
  ·exact h1.fresh i hi
  ·exact fun hm=>h2.fresh i hi (List.mem_append_left _ hm)
 ·rw[List.nodup_append];exact⟨h1.nodup,h2.nodup,fun b hb c hc hbc=>hd c hc (hbc▸hb)⟩
theorem tkO_some {dp:Bool} {e:TypeId} {t:Ty} {x:L} {k:List t.den→Sg→Option ρ} {r:ρ} {v:Value} (h:RelG E G σ a w) (hg:Gone σ σ' ids) (hk:tkO σ' dp e t x k = some r)
  (hv:VL (Imm E G σ w) σ.hp.length G w x v):∃y σ2 new bs,k y σ2=some r∧Took G σ σ2 ids new [bs]∧OwnV (Imm E G σ w) w dp e t y v bs:=by
 unfold tkO at hk;split at hk
 ·simp only[VL]at hv;subst hv;refine⟨[],σ',[],[],hk,Took.none1 hg,?_⟩;exact OwnV.mk (cells:=[]) (bss:=[]) (by simp) ⟨by simp,.inl ⟨rfl,rfl⟩⟩ (by simp[Value.ownBlock]) (fun _=>rfl) (fun _=>rfl) ⟨by simp,fun i y hi=>by simp at hi⟩
 ·rename_i id;split at hk
  ·rename_i dp' e' t' y ho;split at hk
   ·rename_i hc;simp only[Bool.and_eq_true,beq_iff_eq]at hc;obtain⟨hok,rfl⟩:=hc;cases hca:castT (.list t') (.list t) y with
    | none=>simp[hca]at hk
    | some z =>
     simp only[hca,Option.bind_some]at hk;obtain⟨e0,rfl⟩:=castT_some hca;simp only[Ty.list.injEq]at e0;subst e0;obtain⟨hni,ho'⟩:=hg.sub ho;obtain⟨_,rfl,_⟩:=hv;have hor:=h.obs id _ ho';simp only[OR]at hor;have hmine:Mine σ [id]:=fun i hi=>by simp only[List.mem_singleton]at hi;subst hi;exact⟨_,ho',rfl⟩
     have took:∀bs,bs.Nodup→(∀b∈bs,b∈(G id).2)→(∀b,bs.head? = some b→(G id).2.head? = some b)→Took G σ (setHp σ' id none) ids [id] [bs]:=fun bs h1 h2 h3 =>
      ⟨hg.step ho,hmine,fun i hi=>by simp only[List.mem_singleton]at hi;subst hi;exact hni,by simp,by simpa using h1,
       fun q hq b hb=>by simp only[List.mem_singleton]at hq;subst hq;exact⟨id,by simp,h2 b hb⟩,
       fun q hq b hb=>by simp only[List.mem_singleton]at hq;subst hq;exact⟨id,by simp,h3 b hb⟩⟩
     have hnd:=h.nodup id _ ho' rfl;by_cases hdd:dp=dp'
     ·subst hdd;exact⟨_,_,[id],_,hk,took _ hnd (fun b hb=>hb) (fun b hb=>hb),hor⟩
     ·cases dp with
      | false =>
       obtain⟨cells,how,hl,hchk⟩:=h.shallow ho';obtain⟨_,cells2,bss,_,hbs,_⟩:=hor.chk;refine⟨_,_,[id],(G id).1.ownBlock.toList,hk,took _ (by cases (G id).1.ownBlock<;>simp) (fun b hb=>by rw[hbs];exact List.mem_append_left _ hb) (fun b hb=>?_),?_⟩
       ·rw[hbs];cases hv:(G id).1.ownBlock with
        | none=>rw[hv]at hb;simp at hb
        | some g=>rw[hv]at hb;simpa using hb
       ·exact OwnV.mk (cells:=cells) (bss:=[]) hl how (by simp) (fun hf=>by simp at hf) (fun _=>rfl) (by simpa using hchk)
      | true =>
       have hdp':dp'=false:=by cases dp'<;>simp_all
       subst hdp';have hf:t'.flat=true:=by simpa[okDp]using hok
       obtain⟨hl,cells,bss,how,hbs,_,hd2,hchk⟩:=hor.chk;have hd2:=hd2 rfl;subst hd2;refine⟨_,_,[id],_,hk,took _ hnd (fun b hb=>hb) (fun b hb=>hb),?_⟩;refine OwnV.mk (cells:=cells) (bss:=List.replicate y.length []) hl how (by rw[hbs];simp) (fun _=>by simp) (fun hf=>by simp at hf) ?_
       refine hchk.imp fun i y cs hi hy=>?_;simp only[if_true,rep_get];simp only[Bool.false_eq_true,if_false]at hy;exact flat_Dp t' hf hy
   ·simp at hk
  ·simp at hk
 ·simp at hk
theorem tkM_some {n:Nat} {x:L} {k:List (List Int)→Sg→Option ρ} {r:ρ} {v:Value} (h:RelG E G σ a w) (hg:Gone σ σ' ids) (hk:tkM σ' n x k = some r)
  (hv:VL (Imm E G σ w) σ.hp.length G w x v):∃y σ2 new bs,k y σ2=some r∧Took G σ σ2 ids new [bs]∧MapV w n y v bs:=by
 unfold tkM at hk;split at hk
 ·rename_i id;split at hk
  ·rename_i n' xs ho;split at hk
   ·rename_i hn;subst hn;obtain⟨hni,ho'⟩:=hg.sub ho;obtain⟨_,rfl,_⟩:=hv;have hor:=h.obs id _ ho';simp only[OR]at hor;have hmine:Mine σ [id]:=fun i hi=>by simp only[List.mem_singleton]at hi;subst hi;exact⟨_,ho',rfl⟩
    have hnd:=h.nodup id _ ho' rfl;exact⟨_,_,[id],_,hk,⟨hg.step ho,hmine,fun i hi=>by simp only[List.mem_singleton]at hi;subst hi;exact hni,by simp,by simpa using hnd,
     fun q hq b hb=>by simp only[List.mem_singleton]at hq;subst hq;exact⟨id,by simp,hb⟩,
     fun q hq b hb=>by simp only[List.mem_singleton]at hq;subst hq;exact⟨id,by simp,hb⟩⟩,hor⟩
   ·cases hk
  ·cases hk
 ·cases hk
theorem decL_some {c:LK} {x:L} {k:c.den→Sg→Option ρ} {r:ρ} {v:Value} (h:RelG E G σ a w) (hg:Gone σ σ' ids) (hm:Mine σ ids) (hk:decL σ' c x k = some r)
  (hv:VL (Imm E G σ w) σ.hp.length G w x v):∃y σ2 new bs,k y σ2=some r∧Took G σ σ2 ids new [bs]∧LV (Imm E G σ w) w c y v bs:=by
 unfold decL at hk;split at hk
 ·rename_i nn t;split at hk
  ·rename_i hok;obtain⟨y,h1,_,h3,h4⟩:=rdL_gone h hg hm hk hv;obtain⟨h5,h6⟩:=nnK_some h1 h4;exact⟨y,σ',[],[],h5,Took.none1 hg,h3 hok,h6,rfl⟩
  ·simp at hk
 ·obtain⟨y,σ2,new,bs,h1,h2,h3⟩:=tkO_some h hg hk hv;exact⟨y,σ2,new,bs,h1,h2,h3⟩
 ·obtain⟨y,σ2,new,bs,h1,h2,h3⟩:=tkM_some h hg hk hv;exact⟨y,σ2,new,bs,h1,h2,h3⟩
theorem Mine.append {n1 n2:List Nat}(h1:Mine σ n1)(h2:Mine σ n2):Mine σ (n1++n2):=fun i hi=>by
 rcases List.mem_append.1 hi with hi | hi
 ·exact h1 i hi
 ·exact h2 i hi
theorem decLs_some:(cs:List LK)→{ids:List Nat}→{σ':Sg}→{xs:List L}→{k:LKs.den cs→Sg→Option ρ}→{r:ρ}→{vs:List Value}→(h:RelG E G σ a w)→(hg:Gone σ σ' ids)→(hm:Mine σ ids)→(hk:decLs cs xs σ' k = some r) →
  (hv:VLs (Imm E G σ w) σ.hp.length G w xs vs)→∃y σ2 new bss,k y σ2=some r∧Took G σ σ2 ids new bss∧LVs (Imm E G σ w) w cs y vs bss
 | [],ids,σ',[],k,r,[],h,hg,hm,hk,hv=>⟨(),σ',[],[],hk,Took.none hg,rfl⟩
 | [c],ids,σ',[x],k,r,[v],h,hg,hm,hk,hv=>by
  simp only[decLs]at hk;obtain⟨y,σ2,new,bs,h1,h2,h3⟩:=decL_some h hg hm hk hv.1.1;exact⟨y,σ2,new,[bs],h1,h2,bs,rfl,h3,hv.1.2⟩
 | c::c'::r',ids,σ',x::xs,k,r,v::vs,h,hg,hm,hk,hv=>by
  simp only[decLs]at hk;obtain⟨y,σ2,new,bs,h1,h2,h3⟩:=decL_some h hg hm hk hv.1.1;obtain⟨ys,σ3,new2,bss,k1,k2,k3⟩:=decLs_some (c'::r') h h2.gone (hm.append h2.mine) h1 hv.2;exact⟨(y,ys),σ3,new++new2,bs::bss,k1,Took.trans h h2 k2,bs,bss,rfl,⟨h3,hv.1.2⟩,k3⟩
 | [],_,_,_::_,_,_,_,_,_,_,hk,_=>by simp[decLs]at hk
 | [_],_,_,[],_,_,_,_,_,_,hk,_=>by simp[decLs]at hk
 | [_],_,_,_::_::_,_,_,_,_,_,_,hk,_=>by simp[decLs]at hk
 | _::_::_,_,_,[],_,_,_,_,_,_,hk,_=>by simp[decLs]at hk
 | [],_,_,[],_,_,_::_,_,_,_,_,hv=>hv.elim
 | [_],_,_,[_],_,_,[],_,_,_,_,hv=>hv.elim
 | [_],_,_,[_],_,_,_::_::_,_,_,_,_,hv=>hv.2.elim
 | _::_::_,_,_,_::_,_,_,[],_,_,_,_,hv=>hv.elim
theorem splitD_ne:(t:Ty)→(x:t.den)→splitD t x≠[]
 | .prod a b,x=>by simp only[splitD];intro h;exact splitD_ne a x.1 (List.append_eq_nil_iff.1 h).1
 | .int _,x=>by simp[splitD]
 | .bool,x=>by simp[splitD]
 | .str,x=>by simp[splitD]
 | .list _,x=>by simp[splitD]
theorem decS_some {c:SK} {x:A} {k:c.den→Sg→Option ρ} {r:ρ} {v:Value} (h:RelG E G σ a w) (hg:Gone σ σ' ids) (hm:Mine σ ids) (hk:decS c x σ' k = some r)
  (hv:VA (Imm E G σ w) σ.hp.length G w x v):∃y σ2 new bss,k y σ2=some r∧Took G σ σ2 ids new bss∧SV (Imm E G σ w) w c y v bss:=by
 unfold decS at hk;split at hk
 ·split at hk
  ·obtain⟨y,σ2,new,bs,h1,h2,h3⟩:=decL_some h hg hm hk hv;exact⟨y,σ2,new,[bs],h1,h2,bs,rfl,h3⟩
  ·split at hk
   ·split at hk
    ·rename_i hok;obtain⟨y,h1,_,h3,h4⟩:=rdA_gone h hg hm hk hv;exact⟨y,σ',[],[[]],h1,Took.none1 hg,[],rfl,h3 hok,fun _=>h4 fun l hl=>by simp at hl,rfl⟩
    ·simp at hk
   ·simp at hk
   ·cases hk
  ·simp at hk
 ·split at hk
  ·obtain⟨vs,rfl,hvs⟩:=hv;obtain⟨y,σ2,new,bss,h1,h2,h3⟩:=decLs_some _ h hg hm hk hvs;exact⟨y,σ2,new,bss,h1,h2,vs,rfl,h3⟩
  ·rename_i nn p q z;have hvs:=cellsA_VLs hv (splitD_ne (.prod p q) z);obtain⟨cs,hcs,rfl⟩:=hv.1;have e1:(mkV (.prod p q) cs).cells.toList=cs:=by simp[mkV,Ty.isProd,Value.cells]
   rw[e1]at hvs;obtain⟨y,σ2,new,bss,h1,h2,h3⟩:=decLs_some _ h hg hm hk hvs;exact⟨y,σ2,new,bss,h1,h2,cs,by simp[mkV,Ty.isProd],h3⟩
  ·simp at hk
 ·split at hk
  ·rename_i id;split at hk
   ·rename_i e' ls ho;split at hk
    ·rename_i hee;rw[beq_iff_eq]at hee;subst hee;obtain⟨hni,ho'⟩:=hg.sub ho;obtain⟨_,b,hgv,rfl⟩:=hv;have hor:=h.obs id _ ho';simp only[OR,Bool.false_eq_true,if_false]at hor;obtain⟨b',arr,hg',hh,hcs,hG⟩:=hor;rw[hgv]at hg';simp only[Value.pointer.injEq,Option.some.injEq,Addr.mk.injEq,and_true]at hg';subst hg';have hmine:Mine σ [id]:=fun i hi=>by simp only[List.mem_singleton]at hi;subst hi;exact⟨_,ho',rfl⟩
     have t1:Took G σ (setHp σ' id none) ids [id] [[b]]:=⟨hg.step ho,hmine,fun i hi=>by simp only [List.mem_singleton] at hi; subst hi; exact hni,by simp,by simp,
       fun q hq c hc=>by simp only[List.mem_singleton]at hq;subst hq;exact⟨id,by simp,by rw[hG];exact hc⟩,
       fun q hq c hc=>by simp only[List.mem_singleton]at hq;subst hq;exact⟨id,by simp,by rw[hG];exact hc⟩⟩
     obtain⟨y,σ2,new,bss,h1,h2,h3⟩:=decLs_some _ h t1.gone (hm.append hmine) hk hcs;have t2:=Took.trans h t1 h2;refine⟨y,σ2,[id]++new,bss++[[b]],h1,⟨t2.gone,t2.mine,t2.fresh,t2.nodup,?_⟩,b,arr,bss,rfl,hh,h3,rfl⟩;have hc:=t2.cls;refine⟨?_,fun q hq=>hc.mem q ((List.mem_append.1 hq).elim (List.mem_append_right _) (List.mem_append_left _)),fun q hq=>hc.head q ((List.mem_append.1 hq).elim (List.mem_append_right _) (List.mem_append_left _))⟩;have:=hc.nodup;rw[List.flatten_append]at this ⊢;exact(List.perm_append_comm).nodup_iff.1 this
    ·simp at hk
   ·simp at hk
  ·simp at hk
theorem decSs_some:(cs:List SK)→{ids:List Nat}→{σ':Sg}→{xs:List A}→{k:SKs.den cs→Sg→Option ρ}→{r:ρ}→{vs:List Value}→(h:RelG E G σ a w)→(hg:Gone σ σ' ids)→(hm:Mine σ ids)→(hk:decSs cs xs σ' k = some r) →
  (hv:VAs (Imm E G σ w) σ.hp.length G w xs vs)→∃y σ2 new bss,k y σ2=some r∧Took G σ σ2 ids new bss∧SVs (Imm E G σ w) w cs y vs bss
 | [],ids,σ',[],k,r,[],h,hg,hm,hk,hv=>⟨(),σ',[],[],hk,Took.none hg,rfl⟩
 | [c],ids,σ',[x],k,r,[v],h,hg,hm,hk,hv=>by
  simp only[decSs]at hk;exact decS_some h hg hm hk hv.1
 | c::c'::r',ids,σ',x::xs,k,r,v::vs,h,hg,hm,hk,hv=>by
  simp only[decSs]at hk;obtain⟨y,σ2,new,bs,h1,h2,h3⟩:=decS_some h hg hm hk hv.1;obtain⟨ys,σ3,new2,bss,k1,k2,k3⟩:=decSs_some (c'::r') h h2.gone (hm.append h2.mine) h1 hv.2;exact⟨(y,ys),σ3,new++new2,bs++bss,k1,Took.trans h h2 k2,bs,bss,rfl,h3,k3⟩
 | [],_,_,_::_,_,_,_,_,_,_,hk,_=>by simp[decSs]at hk
 | [_],_,_,[],_,_,_,_,_,_,hk,_=>by simp[decSs]at hk
 | [_],_,_,_::_::_,_,_,_,_,_,_,hk,_=>by simp[decSs]at hk
 | _::_::_,_,_,[],_,_,_,_,_,_,hk,_=>by simp[decSs]at hk
 | [],_,_,[],_,_,_::_,_,_,_,_,hv=>hv.elim
 | [_],_,_,[_],_,_,[],_,_,_,_,hv=>hv.elim
 | [_],_,_,[_],_,_,_::_::_,_,_,_,_,hv=>hv.2.elim
 | _::_::_,_,_,_::_,_,_,[],_,_,_,_,hv=>hv.elim
inductive Frz:Sg→Sg→Prop
 | refl (σ:Sg):Frz σ σ
 | step {σ σ':Sg} (x:L):Frz σ σ'→Frz σ (freezeL σ' x)
theorem Frz.trans {s1 s2 s3:Sg}(h:Frz s1 s2)(k:Frz s2 s3):Frz s1 s3:=by
 induction k with
 | refl=>exact h
 | step x _ ih=>exact .step x ih
theorem Frz.rel {s:Sg}(f:Frz σ s)(h:RelG E G σ a w):RelG E G s a w:=by
 induction f with
 | refl=>exact h
 | step x _ ih=>exact ih.freezeL x
theorem Frz.keep {s:Sg}(f:Frz σ s):Keep (Imm E G σ w) (Imm E G s w) σ.hp.length s.hp.length G G w w:=by
 induction f with
 | refl=>exact⟨fun _ hb=>hb,fun _ _=>rfl,Nat.le_refl _,fun _ _=>rfl⟩
 | step x _ ih=>exact⟨fun b hb=>(keepFreeze x).imm b (ih.imm b hb),fun _ _=>rfl,Nat.le_trans ih.n (keepFreeze (E:=E) (G:=G) (w:=w) x).n,fun _ _=>rfl⟩
theorem Frz.kp {s:Sg}(f:Frz σ s):Kp σ s:=by
 induction f with
 | refl=>exact Kp.refl _
 | step x _ ih=>exact ih.trans (Kp.freezeL _ x)
theorem Frz.len {s:Sg}(f:Frz σ s):s.hp.length=σ.hp.length:=by
 induction f with
 | refl=>rfl
 | step x _ ih=>rw[freezeL_len];exact ih
theorem Frz.foldl (ls:List L):∀{s:Sg},Frz σ s→Frz σ (ls.foldl freezeL s):=by
 induction ls with
 | nil=>exact fun h=>h
 | cons x ls ih=>exact fun h=>ih (.step x h)
theorem frzL_frz (c:LK)(x:L)(σ:Sg):Frz σ (frzL σ c x):=by
 cases c with
 | d nn t=>exact .step x (.refl _)
 | o dp e t=>exact .refl _
 | m n=>exact .refl _
theorem frzLs_frz:(cs:List LK)→(xs:List L)→(σ:Sg)→Frz σ (frzLs cs xs σ)
 | [],_,σ=>by simp only[frzLs];exact .refl _
 | _::_,[],σ=>by simp only[frzLs];exact .refl _
 | c::cs,x::xs,σ=>by simp only[frzLs];exact(frzL_frz c x σ).trans (frzLs_frz cs xs _)
theorem frzS_frz (c:SK)(x:A)(σ:Sg):Frz σ (frzS c x σ):=by
 unfold frzS;split
 ·split
  ·exact frzL_frz _ _ _
  ·exact Frz.foldl _ (.refl _)
  ·exact .refl _
 ·exact frzLs_frz _ _ _
 ·split
  ·split
   ·exact frzLs_frz _ _ _
   ·exact .refl _
  ·exact .refl _
theorem frzSs_frz:(cs:List SK)→(xs:List A)→(σ:Sg)→Frz σ (frzSs cs xs σ)
 | [],_,σ=>by simp only[frzSs];exact .refl _
 | _::_,[],σ=>by simp only[frzSs];exact .refl _
 | c::cs,x::xs,σ=>by simp only[frzSs];exact(frzS_frz c x σ).trans (frzSs_frz cs xs _)
theorem takeSs_some (cs:List SK) {xs:List A} {k:SKs.den cs→Sg→Option ρ} {r:ρ} {vs:List Value} (h:RelG E G σ a w) (hk:takeSs σ cs xs k = some r) (hv:VAs (Imm E G σ w) σ.hp.length G w xs vs) :
  ∃σ1 y σ2 new bss,Frz σ σ1∧k y σ2=some r∧RelG E G σ1 a w∧Took G σ1 σ2 [] new bss∧SVs (Imm E G σ1 w) w cs y vs bss:=by
 unfold takeSs at hk;have f:=frzSs_frz cs xs σ;have h1:=f.rel h;obtain⟨y,σ2,new,bss,k1,k2,k3⟩:=decSs_some cs h1 (Gone.refl _) (by simp[Mine]) hk (hv.keep f.keep _)
 exact⟨_,y,σ2,new,bss,f,k1,h1,k2,k3⟩
end
open Go
set_option linter.all false
def CurV (I:Nat→Prop)(w:World)(e:TypeId)(y:LKs.den curKs)(v:Value)(bs:List Nat):Prop :=
 ∃(b:Nat) (arr:Array Value),v=.pointer (some ⟨b,0,none⟩)∧w.heap[b]? = some (.cells arr e (0,0))∧LVs I w curKs y arr.toList [[],[],[]]∧bs=[b]
def ArgV (I:Nat→Prop)(w:World):(p:PM)→p.den→Value→List Nat→Prop
 | .d nn t,y,v,bs=>RdV I w t y v∧(nn=true→nnP t y v)∧bs=[]
 | .f f,_,v,bs=>v=.func (.func f) #[] #[]∧bs=[]
 | .mv dp e t,y,v,bs=>OwnV I w dp e t y v bs
 | .io dp e t,y,v,bs=>OwnV I w dp e t y v bs
 | .cur e,y,v,bs=>CurV I w e y v bs
def ArgsV (I:Nat→Prop)(w:World):(ps:List PM)→PMs.den ps→List Value→List (List Nat)→Prop
 | [],_,[],bss=>bss=[]
 | [p],y,[v],bss=>∃bs,bss=[bs]∧ArgV I w p y v bs
 | p::p'::r,y,v::vs,bss=>∃bs rest,bss=bs::rest∧ArgV I w p y.1 v bs∧ArgsV I w (p'::r) y.2 vs rest
 | _,_,_,_=>False
def IoV (I:Nat→Prop)(w:World):(ps:List PM)→PMo.den ps→List Value→List (List Nat)→Prop
 | [],_,[],bss=>bss=[]
 | .io dp e t::r,y,v::vs,bss=>∃bs rest,bss=bs::rest∧OwnV I w dp e t y.1 v bs∧IoV I w r y.2 vs rest
 | .cur e::r,y,v::vs,bss=>∃bs rest,bss=bs::rest∧CurV I w e y.1 v bs∧IoV I w r y.2 vs rest
 | .d _ _::r,y,_::vs,bss=>IoV I w r y vs bss
 | .f _::r,y,_::vs,bss=>IoV I w r y vs bss
 | .mv _ _ _::r,y,_::vs,bss=>IoV I w r y vs bss
 | _,_,_,_=>False
structure CallIn (I:Nat→Prop) (w:World) (bss:List (List Nat)):Prop where
 gl:Gl w
 gx:∀b∈bss.flatten,glN≤b
 nodup:bss.flatten.Nodup
 range:∀b∈bss.flatten,b<w.heap.size
 acc:∀b,I b→b<w.heap.size
 head:∀bs∈bss,∀b,bs.head? = some b→¬I b
structure CallOut (D:Prop) (I:Nat→Prop) (w w':World) (bss rbss:List (List Nat)) (I':Nat→Prop):Prop where
 os:w'.os=w.os
 tape:w'.tape=w.tape
 output:Out D w' w
 size:w.heap.size≤w'.heap.size
 frame:∀b,b<w.heap.size→(∀bs∈bss,bs.head?≠some b)→w'.heap[b]? = w.heap[b]?
 imm:∀b,I' b→b<w'.heap.size∧(b<w.heap.size→I b∨b∈bss.flatten)
 nodup:rbss.flatten.Nodup
 range:∀b∈rbss.flatten,b<w'.heap.size∧(b<w.heap.size→b∈bss.flatten)
 head:∀bs∈rbss,∀b,bs.head? = some b→¬I' b∧(b<w.heap.size→∃q∈bss,q.head? = some b)
def retV (vs:List Value):Value :=
 match vs with
 | [v]=>v
 | vs=>.tuple vs.toArray
def Ctr (D:Prop)(P:Program)(e:CallE):Prop :=
 ∀x r,e.F x=some r→∀(I:Nat→Prop) (w:World) (vs:List Value) (bss:List (List Nat)),CallIn I w bss→ArgsV I w e.ps x vs bss →
  Calls P e.f vs.toArray w fun ex w'=>∃(I':Nat→Prop) (rvs:List Value) (rbss ibss:List (List Nat)),ex=.returned (retV rvs)∧CallOut D I w w' bss (ibss++rbss) I' ∧
   SVs I' w' e.rs (resB (hasIo e.ps) r).1 rvs rbss∧((resB (hasIo e.ps) r).2=none→ibss=[])∧∀o,(resB (hasIo e.ps) r).2=some o→IoV I' w' e.ps o vs ibss
structure InOk (D:Prop) (P:Program) (e:InE):Prop where
 kp:e.dr=true→∀(xs:List A) (σ σ':Sg) (x:A),e.K (A×Sg) xs σ (fun v s=>some (v,s))=some (x,σ')→Kp σ σ'
 nat:∀(ρ:Type) (xs:List A) (σ:Sg) (k:A→Sg→Option ρ),e.K ρ xs σ k=(e.K (A×Sg) xs σ fun v s=>some (v,s)).bind fun p=>k p.1 p.2
 ok:∀{E:En} {G:Gh} {σ σ':Sg} {a:Act} {w:World} {xs:List A} {vs:List Value} {x:A},E.d=D→RelG E G σ a w→VAs (Imm E G σ w) σ.hp.length G w xs vs→e.K (A×Sg) xs σ (fun v s=>some (v,s))=some (x,σ') →
  Kp σ σ'∧Calls P e.f vs.toArray w fun ex w'=>∃val,ex=.returned val∧∃G',RelG E G' σ' a w'∧GA E σ σ' G G' w w'∧VA (Imm E G' σ' w') σ'.hp.length G' w' x val
section
variable {ρ:Type}{C:Ctx}{E:En}{G:Gh}{σ σ':Sg}{a:Act}{w:World}{ids:List Nat}
theorem freezeAs_frz:(ps:List PM)→(xs:List A)→(σ:Sg)→Frz σ (freezeAs σ ps xs)
 | [],xs,σ=>by cases xs<;>simp only[freezeAs]<;>exact .refl _
 | .d nn t::ps,x::r,σ=>by simp only[freezeAs];exact(Frz.foldl _ (.refl _)).trans (freezeAs_frz ps r _)
 | .f _::ps,x::r,σ=>by simp only[freezeAs];exact freezeAs_frz ps r _
 | .mv _ _ _::ps,x::r,σ=>by simp only[freezeAs];exact freezeAs_frz ps r _
 | .io _ _ _::ps,x::r,σ=>by simp only[freezeAs];exact freezeAs_frz ps r _
 | .cur _::ps,x::r,σ=>by simp only[freezeAs];exact freezeAs_frz ps r _
 | .cur _::ps,[],σ=>by simp only[freezeAs];exact .refl _
 | .d nn t::ps,[],σ=>by simp only[freezeAs];exact .refl _
 | .f _::ps,[],σ=>by simp only[freezeAs];exact .refl _
 | .mv _ _ _::ps,[],σ=>by simp only[freezeAs];exact .refl _
 | .io _ _ _::ps,[],σ=>by simp only[freezeAs];exact .refl _
def Sb (E:En)(G:Gh)(σ:Sg)(w:World)(al:Bool)(ids:List Nat)(b:Nat):Prop:=if al then Imm E G σ w b else Rdb E G w ids b
theorem Imm.sb (hm:Mine σ ids){al:Bool}{b:Nat}(h:Imm E G σ w b):Sb E G σ w al ids b:=by
 unfold Sb;split
 ·exact h
 ·exact h.rdb hm
theorem OwnV.imp {I I':Nat→Prop}{dp:Bool}{e:TypeId}{t:Ty}{x:List t.den}{v:Value}{bs:List Nat}(h:OwnV I w dp e t x v bs)(hI:∀b,I b→I' b):OwnV I' w dp e t x v bs :=
 h.keep (fun b hb=>⟨hI b hb,rfl⟩) fun _ _=>rfl
theorem argD_some {al nn:Bool} {t:Ty} {x:A} {k:t.den→Option ρ} {r:ρ} {v:Value} (h:RelG E G σ a w) (hg:Gone σ σ' ids) (hm:Mine σ ids)
  (hk:(match !al||okA σ' x with
   | true=>rdA σ' t x fun y=>nnA nn t x y (k y)
   | false=>none)=some r) (hv:VA (Imm E G σ w) σ.hp.length G w x v) :
  ∃y,k y=some r∧RdV (Sb E G σ w al ids) w t y v∧(nn=true→nnP t y v):=by
 split at hk
 ·rename_i hok;obtain⟨y,h1,h2,h3,h4⟩:=rdA_gone h hg hm hk hv;have hs:RdV (Sb E G σ w al ids) w t y v:=by
   unfold Sb;cases al with
   | true=>simp only[if_true];exact h3 (by simpa using hok)
   | false=>simp only[Bool.false_eq_true,if_false];exact h2
  obtain⟨h5,h6⟩:=nnA_some h1 h4;exact⟨y,h5,hs,h6⟩
 ·simp at hk
theorem LVs_cur {I:Nat→Prop}{w:World}{y:LKs.den curKs}{vs:List Value}{bss:List (List Nat)}(h:LVs I w curKs y vs bss):bss=[[],[],[]]∧∃v0 v1 v2,vs=[v0,v1,v2]∧RdV I w (.list (.int .u8)) y.1 v0∧v0.oneCell'=true∧v1=.int .i64 y.2.1∧v2=.int .i64 y.2.2:=by
 match vs,bss,h with
 | [v0,v1,v2],bss,h =>
  obtain⟨b0,r0,rfl,⟨h0,h1⟩,b1,r1,rfl,⟨h2,h3⟩,b2,rfl,h4,h5⟩:=h;obtain⟨g1,_,rfl⟩:=h0;obtain⟨g2,_,rfl⟩:=h2;obtain⟨g3,_,rfl⟩:=h4;exact⟨rfl,v0,v1,v2,rfl,g1,h1,RdV_int.1 g2,RdV_int.1 g3⟩
 | [],bss,h=>exact h.elim
 | [_],bss,h=>obtain⟨_,_,_,_,h⟩:=h;exact h.elim
 | [_,_],bss,h=>obtain⟨_,_,_,_,_,_,_,_,h⟩:=h;exact h.elim
 | _::_::_::_::_,bss,h=>obtain⟨_,_,_,_,_,_,_,_,h⟩:=h;exact h.elim
theorem LVs_cur' {I:Nat→Prop}{w:World}{y:LKs.den curKs}{v0:Value}(h:RdV I w (.list (.int .u8)) y.1 v0)(h1:v0.oneCell'=true):LVs I w curKs y [v0,.int .i64 y.2.1,.int .i64 y.2.2] [[],[],[]] :=
 ⟨[],_,rfl,⟨⟨h,(fun hf=>by cases hf),rfl⟩,h1⟩,[],_,rfl,⟨⟨RdV_int.2 rfl,(fun hf=>by cases hf),rfl⟩,rfl⟩,[],rfl,⟨RdV_int.2 rfl,(fun hf=>by cases hf),rfl⟩,rfl⟩
theorem CurV.of {I:Nat→Prop}{w:World}{e:TypeId}{y:LKs.den curKs}{v:Value}{bss:List (List Nat)}(h:SV I w (.b e curKs) y v bss):∃b,bss=[[],[],[],[b]]∧CurV I w e y v [b]:=by
 obtain⟨b,arr,rest,h1,h2,h3,rfl⟩:=h;obtain⟨rfl,_⟩:=LVs_cur h3;exact⟨b,rfl,b,arr,h1,h2,h3,rfl⟩
theorem CurV.imp {I I':Nat→Prop}{w:World}{e:TypeId}{y:LKs.den curKs}{v:Value}{bs:List Nat}(h:CurV I w e y v bs)(hI:∀b,I b→I' b):CurV I' w e y v bs:=by
 obtain⟨b,arr,h1,h2,h3,h4⟩:=h;obtain⟨_,v0,v1,v2,e1,g1,g2,rfl,rfl⟩:=LVs_cur h3;refine⟨b,arr,h1,h2,?_,h4⟩;rw[e1];exact LVs_cur' (g1.mono hI fun _ _=>rfl) g2
theorem CurV.box {I:Nat→Prop} {N:Nat} {G:Gh} {w:World} {id:Nat} {e:TypeId} {y:LKs.den curKs} {v:Value} {bs:List Nat} (h:CurV I w e y v bs) (hG:G id = (v,bs)) :
  OR I N G w id (.box false e [.dat false (.list (.int .u8)) y.1,.dat false (.int .i64) y.2.1,.dat false (.int .i64) y.2.2]):=by
 obtain⟨b,arr,h1,h2,h3,h4⟩:=h;obtain⟨_,v0,v1,v2,e1,g1,g2,rfl,rfl⟩:=LVs_cur h3;simp only[OR,hG,Bool.false_eq_true,if_false];refine⟨b,arr,h1,h2,?_,h4⟩;rw[e1];exact⟨⟨⟨g1,fun hf=>by cases hf⟩,g2⟩,⟨⟨RdV_int.2 rfl,fun hf=>by cases hf⟩,rfl⟩,⟨⟨RdV_int.2 rfl,fun hf=>by cases hf⟩,rfl⟩,trivial⟩
theorem Took.cur {ids new:List Nat}{b:Nat}(h:Took G σ σ' ids new [[],[],[],[b]]):Took G σ σ' ids new [[b]] :=
 ⟨h.gone,h.mine,h.fresh,h.nodup,by simp,fun q hq=>h.cls.mem q (by simp at hq;subst hq;simp),fun q hq=>h.cls.head q (by simp at hq;subst hq;simp)⟩
theorem argK_some {β:Type} {al:Bool} {p:PM} {x:A} {rest:Sg→(β→Sg→Option ρ)→Option ρ} {k:p.den→β→Sg→Option ρ} {r:ρ} {v:Value} {Q:List Nat→β→List (List Nat)→Prop}
  (h:RelG E G σ a w) (hg:Gone σ σ' ids) (hm:Mine σ ids) (hk:argK al p x σ' rest k=some r) (hv:VA (Imm E G σ w) σ.hp.length G w x v)
  (hr:∀(ids:List Nat) (σ':Sg) (k:β→Sg→Option ρ),Gone σ σ' ids→Mine σ ids→rest σ' k=some r→∃ys σ2 new bss,k ys σ2=some r∧Took G σ σ2 ids new bss∧Q (ids++new) ys bss) :
  ∃y ys σ2 new bs bss,k y ys σ2=some r∧Took G σ σ2 ids new (bs::bss)∧ArgV (Sb E G σ w al (ids++new)) w p y v bs∧Q (ids++new) ys bss:=by
 unfold argK at hk;split at hk
 ·obtain⟨ys,σ2,new,bss,h1,h2,h3⟩:=hr ids σ' _ hg hm hk;obtain⟨y,h4,h5,h6⟩:=argD_some h h2.gone (hm.append h2.mine) h1 hv;exact⟨y,ys,σ2,new,[],bss,h4,⟨h2.gone,h2.mine,h2.fresh,h2.nodup,by simpa using h2.cls.nodup,fun q hq=>by
   rcases List.mem_cons.1 hq with rfl | hq
   ·simp
   ·exact h2.cls.mem q hq,fun q hq=>by
   rcases List.mem_cons.1 hq with rfl | hq
   ·simp
   ·exact h2.cls.head q hq⟩,⟨h5,h6,rfl⟩,h3⟩
 ·split at hk
  ·split at hk
   ·rename_i hf;subst hf;obtain⟨ys,σ2,new,bss,h1,h2,h3⟩:=hr ids σ' _ hg hm hk;refine⟨(),ys,σ2,new,[],bss,h1,⟨h2.gone,h2.mine,h2.fresh,h2.nodup,by simpa using h2.cls.nodup,fun q hq=>?_,fun q hq=>?_⟩,⟨hv,rfl⟩,h3⟩
    ·rcases List.mem_cons.1 hq with rfl | hq
     ·simp
     ·exact h2.cls.mem q hq
    ·rcases List.mem_cons.1 hq with rfl | hq
     ·simp
     ·exact h2.cls.head q hq
   ·simp at hk
  ·simp at hk
 ·split at hk
  ·obtain⟨y,σ1,n1,bs,h1,h2,h3⟩:=tkO_some h hg hk hv;obtain⟨ys,σ2,n2,bss,h4,h5,h6⟩:=hr _ σ1 _ h2.gone (hm.append h2.mine) h1;have ht:=Took.trans h h2 h5;rw[List.append_assoc]at h6;exact⟨y,ys,σ2,n1++n2,bs,bss,h4,ht,h3.imp fun b hb=>hb.sb (hm.append ht.mine),h6⟩
  ·simp at hk
 ·split at hk
  ·rename_i id;split at hk
   ·rename_i dp' e' t' y ho;split at hk
    ·rename_i hc;obtain⟨rfl,rfl⟩:=hc;generalize hca:castT (.list t') _ y=q at hk;cases q with
     | none=>simp at hk
     | some z =>
      simp only[Option.bind_some]at hk;obtain⟨e0,rfl⟩:=castT_some hca;simp only[Ty.list.injEq]at e0;subst e0;obtain⟨hni,ho'⟩:=hg.sub ho;obtain⟨_,rfl,_⟩:=hv;have hor:=h.obs id _ ho';simp only[OR]at hor;have hmine:Mine σ [id]:=fun i hi=>by simp only[List.mem_singleton]at hi;subst hi;exact⟨_,ho',rfl⟩
      have t1:Took G σ (setHp σ' id none) ids [id] [(G id).2]:=⟨hg.step ho,hmine,fun i hi=>by simp only[List.mem_singleton]at hi;subst hi;exact hni,by simp,by simpa using h.nodup id _ ho' rfl,
       fun q hq b hb=>by simp only[List.mem_singleton]at hq;subst hq;exact⟨id,by simp,hb⟩,
       fun q hq b hb=>by simp only[List.mem_singleton]at hq;subst hq;exact⟨id,by simp,hb⟩⟩
      obtain⟨ys,σ2,n2,bss,h4,h5,h6⟩:=hr _ _ _ t1.gone (hm.append hmine) hk;have ht:=Took.trans h t1 h5;rw[List.append_assoc]at h6;exact⟨_,ys,σ2,[id]++n2,_,bss,h4,ht,hor.imp fun b hb=>hb.sb (hm.append ht.mine),h6⟩
    ·simp at hk
   ·simp at hk
  ·simp at hk
 ·rename_i e;obtain⟨y,σ1,n1,b1,h1,h2,h3⟩:=decS_some h hg hm hk hv;obtain⟨b,rfl,h3c⟩:=CurV.of h3;obtain⟨ys,σ2,n2,bss,h4,h5,h6⟩:=hr _ σ1 _ h2.gone (hm.append h2.mine) h1;have ht:=Took.trans h h2.cur h5;rw[List.append_assoc]at h6;exact⟨y,ys,σ2,n1++n2,[b],bss,h4,ht,CurV.imp h3c fun b hb=>hb.sb (hm.append ht.mine),h6⟩
theorem argsK_some {al:Bool}:(ps:List PM)→{ids:List Nat}→{σ':Sg}→{xs:List A}→{k:PMs.den ps→Sg→Option ρ}→{r:ρ}→{vs:List Value}→(h:RelG E G σ a w)→(hg:Gone σ σ' ids)→(hm:Mine σ ids) →
  (hk:argsK al ps xs σ' k=some r)→(hv:VAs (Imm E G σ w) σ.hp.length G w xs vs)→∃y σ2 new bss,k y σ2=some r∧Took G σ σ2 ids new bss∧ArgsV (Sb E G σ w al (ids++new)) w ps y vs bss
 | [],ids,σ',[],k,r,[],h,hg,hm,hk,hv=>⟨(),σ',[],[],hk,Took.none hg,rfl⟩
 | [p],ids,σ',[x],k,r,[v],h,hg,hm,hk,hv=>by
  simp only[argsK]at hk;obtain⟨y,_,σ2,new,bs,bss,h1,h2,h3,h4⟩:=argK_some (Q:=fun _ _ bss=>bss=[]) h hg hm hk hv.1 fun ids σ' k hg hm hk=>⟨(),σ',[],[],hk,Took.none hg,rfl⟩;subst h4;exact⟨y,σ2,new,[bs],h1,h2,bs,rfl,h3⟩
 | p::p'::r',ids,σ',x::xs,k,r,v::vs,h,hg,hm,hk,hv=>by
  simp only[argsK]at hk;obtain⟨y,ys,σ2,new,bs,bss,h1,h2,h3,h4⟩:=argK_some (Q:=fun ids ys bss=>ArgsV (Sb E G σ w al ids) w (p'::r') ys vs bss) h hg hm hk hv.1
   fun ids σ' k hg hm hk=>argsK_some (p'::r') h hg hm hk hv.2
  exact⟨(y,ys),σ2,new,bs::bss,h1,h2,bs,bss,rfl,h3,h4⟩
 | [],_,_,_::_,_,_,_,_,_,_,hk,_=>by simp[argsK]at hk
 | [_],_,_,[],_,_,_,_,_,_,hk,_=>by simp[argsK]at hk
 | [_],_,_,_::_::_,_,_,_,_,_,_,hk,_=>by simp[argsK]at hk
 | _::_::_,_,_,[],_,_,_,_,_,_,hk,_=>by simp[argsK]at hk
 | [],_,_,[],_,_,_::_,_,_,_,_,hv=>hv.elim
 | [_],_,_,[_],_,_,[],_,_,_,_,hv=>hv.elim
 | [_],_,_,[_],_,_,_::_::_,_,_,_,_,hv=>hv.2.elim
 | _::_::_,_,_,_::_,_,_,[],_,_,_,_,hv=>hv.elim
end
open Go
set_option linter.all false
section
variable {ρ:Type}{C:Ctx}{E:En}{G:Gh}{σ σ':Sg}{a:Act}{w:World}{ids:List Nat}{I I' U:Nat→Prop}
theorem OwnV.cast {dp:Bool}{e:TypeId}{t:Ty}{x:List t.den}{v:Value}{bs:List Nat}(hI:(!dp&&!t.flat)=true→∀b,I b→I' b)(h:OwnV I w dp e t x v bs):OwnV I' w dp e t x v bs:=by
 obtain⟨hl,cells,bss,ho,hbs,h1,h2,hchk⟩:=h.chk;refine OwnV.mk hl ho hbs h1 h2 (hchk.imp fun i y cs hi hy=>?_);cases dp with
 | true=>simpa using hy
 | false =>
  simp only[Bool.false_eq_true,if_false]at hy ⊢;cases hf:t.flat with
  | true=>exact flat_RdC t hf hy
  | false=>exact hy.mono (hI (by simp[hf])) (fun _ _=>rfl) t
theorem LV.cast:(c:LK)→{y:c.den}→{v:Value}→{bs:List Nat}→(hI:c.alias=true→∀b,I b→I' b)→LV I w c y v bs→LV I' w c y v bs
 | .d nn t,y,v,bs,hI,h=>by
  refine⟨?_,h.2⟩;cases hf:t.flat with
  | true=>obtain⟨cs,h1,h2⟩:=h.1;exact⟨cs,flat_RdC t hf h1,h2⟩
  | false=>exact h.1.mono (hI (by simp[LK.alias,hf])) fun _ _=>rfl
 | .o dp e t,y,v,bs,hI,h=>OwnV.cast hI h
 | .m n,y,v,bs,hI,h=>h
theorem LVs.cast:(cs:List LK)→{y:LKs.den cs}→{vs:List Value}→{bss:List (List Nat)}→(hI:cs.any LK.alias=true→∀b,I b→I' b)→LVs I w cs y vs bss→LVs I' w cs y vs bss
 | [],_,[],_,_,h=>h
 | [c],_,[v],_,hI,⟨bs,h1,h2,h3⟩=>⟨bs,h1,LV.cast c (fun hc=>hI (by simp[hc])) h2,h3⟩
 | c::c'::r,_,v::vs,_,hI,⟨bs,rest,h1,⟨h2,h3⟩,h4⟩=>⟨bs,rest,h1,⟨LV.cast c (fun hc=>hI (by simp[hc])) h2,h3⟩,LVs.cast (c'::r) (fun hc=>hI (by rw[List.any_cons,hc,Bool.or_true])) h4⟩
 | [],_,_::_,_,_,h=>h.elim
 | [_],_,[],_,_,h=>h.elim
 | [_],_,_::_::_,_,_,h=>h.elim
 | _::_::_,_,[],_,_,h=>h.elim
theorem SV.cast:(c:SK)→{y:c.den}→{v:Value}→{bss:List (List Nat)}→(hI:c.alias=true→∀b,I b→I' b)→SV I w c y v bss→SV I' w c y v bss
 | .l c,_,_,_,hI,⟨bs,h1,h2⟩=>⟨bs,h1,LV.cast c hI h2⟩
 | .a cs,_,_,_,hI,⟨vs,h1,h2⟩=>⟨vs,h1,LVs.cast cs hI h2⟩
 | .b e cs,_,_,_,hI,⟨b,arr,rest,h1,h2,h3,h4⟩=>⟨b,arr,rest,h1,h2,LVs.cast cs (fun _=>hI rfl) h3,h4⟩
theorem SVs.cast:(cs:List SK)→{y:SKs.den cs}→{vs:List Value}→{bss:List (List Nat)}→(hI:cs.any SK.alias=true→∀b,I b→I' b)→SVs I w cs y vs bss→SVs I' w cs y vs bss
 | [],_,[],_,_,h=>h
 | [c],_,[v],_,hI,h=>SV.cast c (fun hc=>hI (by simp[hc])) h
 | c::c'::r,_,v::vs,_,hI,⟨b1,b2,h1,h2,h3⟩=>⟨b1,b2,h1,SV.cast c (fun hc=>hI (by simp[hc])) h2,SVs.cast (c'::r) (fun hc=>hI (by rw[List.any_cons,hc,Bool.or_true])) h3⟩
 | [],_,_::_,_,_,h=>h.elim
 | [_],_,[],_,_,h=>h.elim
 | [_],_,_::_::_,_,_,h=>h.elim
 | _::_::_,_,[],_,_,h=>h.elim
theorem IoV.cast:(ps:List PM)→{y:PMo.den ps}→{vs:List Value}→{bss:List (List Nat)}→(hI:ps.any PM.alias=true→∀b,I b→I' b)→IoV I w ps y vs bss→IoV I' w ps y vs bss
 | [],_,[],_,_,h=>h
 | .io dp e t::r,_,v::vs,_,hI,⟨bs,rest,h1,h2,h3⟩=>⟨bs,rest,h1,OwnV.cast (fun hc=>hI (by rw[List.any_cons];simp[PM.alias,hc])) h2,IoV.cast r (fun hc=>hI (by rw[List.any_cons,hc,Bool.or_true])) h3⟩
 | .cur e::r,_,v::vs,_,hI,⟨bs,rest,h1,h2,h3⟩=>⟨bs,rest,h1,h2.imp (hI (by rw[List.any_cons];simp[PM.alias])),IoV.cast r (fun hc=>hI (by rw[List.any_cons,hc,Bool.or_true])) h3⟩
 | .cur _::_,_,[],_,_,h=>h.elim
 | .d _ _::r,_,v::vs,_,hI,h=>IoV.cast r (fun hc=>hI (by rw[List.any_cons,hc,Bool.or_true])) h
 | .f _::r,_,v::vs,_,hI,h=>IoV.cast r (fun hc=>hI (by rw[List.any_cons,hc,Bool.or_true])) h
 | .mv _ _ _::r,_,v::vs,_,hI,h=>IoV.cast r (fun hc=>hI (by rw[List.any_cons,hc,Bool.or_true])) h
 | [],_,_::_,_,_,h=>h.elim
 | .io _ _ _::_,_,[],_,_,h=>h.elim
 | .d _ _::_,_,[],_,_,h=>h.elim
 | .f _::_,_,[],_,_,h=>h.elim
 | .mv _ _ _::_,_,[],_,_,h=>h.elim
theorem encL_shape (σ:Sg):(c:LK)→(y:c.den)→∃l σ',Kp σ σ'∧∀(ρ:Type) (k:L→Sg→Option ρ),encL σ c y k=k l σ'
 | .d nn t,y=>⟨_,_,Kp.refl _,fun _ _=>rfl⟩
 | .o dp e t,y=>⟨_,_,Kp.add _ _,fun _ _=>rfl⟩
 | .m n,y=>⟨_,_,Kp.add _ _,fun _ _=>rfl⟩
theorem encLs_shape:(cs:List LK)→(σ:Sg)→(y:LKs.den cs)→∃ls σ',Kp σ σ'∧∀(ρ:Type) (k:List L→Sg→Option ρ),encLs σ cs y k=k ls σ'
 | [],σ,y=>⟨_,_,Kp.refl _,fun _ _=>rfl⟩
 | [c],σ,y=>by obtain⟨l,σ',hk,h⟩:=encL_shape σ c y;exact⟨[l],σ',hk,fun ρ k=>by simp only[encLs];exact h ρ _⟩
 | c::c'::r,σ,y=>by
  obtain⟨l,σ',hk,h⟩:=encL_shape σ c y.1;obtain⟨ls,σ2,hk2,h2⟩:=encLs_shape (c'::r) σ' y.2;exact⟨l::ls,σ2,hk.trans hk2,fun ρ k=>by simp only[encLs];rw[h,h2]⟩
theorem encS_shape (σ:Sg):(c:SK)→(y:c.den)→∃x σ',noT x=true∧Kp σ σ'∧∀(ρ:Type) (k:A→Sg→Option ρ),encS σ c y k=k x σ'
 | .l c,y=>by obtain⟨l,σ',hk,h⟩:=encL_shape σ c y;exact⟨.l l,σ',rfl,hk,fun ρ k=>by simp only[encS];exact h ρ _⟩
 | .a cs,y=>by obtain⟨l,σ',hk,h⟩:=encLs_shape cs σ y;exact⟨.a l,σ',rfl,hk,fun ρ k=>by simp only[encS];exact h ρ _⟩
 | .b e cs,y=>by obtain⟨l,σ',hk,h⟩:=encLs_shape cs σ y;exact⟨_,_,rfl,hk.trans (Kp.add _ _),fun ρ k=>by simp only[encS];exact h ρ _⟩
theorem encSs_shape:(cs:List SK)→(σ:Sg)→(y:SKs.den cs)→∃xs σ',(∀x∈xs,noT x=true)∧Kp σ σ'∧∀(ρ:Type) (k:List A→Sg→Option ρ),encSs σ cs y k=k xs σ'
 | [],σ,y=>⟨[],_,by simp,Kp.refl _,fun _ _=>rfl⟩
 | [c],σ,y=>by obtain⟨l,σ',hn,hk,h⟩:=encS_shape σ c y;exact⟨[l],σ',by simpa using hn,hk,fun ρ k=>by simp only[encSs];exact h ρ _⟩
 | c::c'::r,σ,y=>by
  obtain⟨l,σ',hn,hk,h⟩:=encS_shape σ c y.1;obtain⟨ls,σ2,hn2,hk2,h2⟩:=encSs_shape (c'::r) σ' y.2;exact⟨l::ls,σ2,by simpa using ⟨hn,hn2⟩,hk.trans hk2,fun ρ k=>by simp only[encSs];rw[h,h2]⟩
theorem backK_some:(ps:List PM)→{σ:Sg}→{xs:List A}→{y:PMo.den ps}→{k:Sg→Option ρ}→{r:ρ}→backK ps xs y σ k = some r →
  ∃σ2,k σ2=some r∧σ2.env=σ.env∧σ2.hp.length=σ.hp.length∧(∀id o,σ.ob id=some o→σ2.ob id=some o) ∧
   ∀{E:En} {I U I0:Nat→Prop} {G:Gh} {a:Act} {w w0:World} {vs:List Value} {bss:List (List Nat)},Pre E I U G σ a w→VAs I0 σ.hp.length G w0 xs vs→IoV I w ps y vs bss→Adm E I U w bss →
    ∃G2,Pre E I (fun b=>U b∨b∈bss.flatten) G2 σ2 a w∧∀i,i<σ.hp.length→(G2 i).1=(G i).1
 | [],σ,xs,y,k,r,hk=>by
  simp only[backK]at hk;exact⟨σ,hk,rfl,rfl,fun _ _ h=>h,fun hp _ _ _=>⟨_,hp.wide fun _ hb=>.inl hb,fun _ _=>rfl⟩⟩
 | .io dp e t::rr,σ,x::xs,y,k,r,hk=>by
  simp only[backK]at hk;split at hk
  ·rename_i id;split at hk
   ·rename_i hno;obtain⟨σ2,h1,h2,h3,h4,h5⟩:=backK_some rr hk;refine⟨σ2,h1,h2,by simpa using h3,fun i o ho=>h4 i o ?_,fun{E I U I0 G a w w0 vs bss} hp hv hio ha=>?_⟩
    ·rw[ob_setHp,if_neg]
     ·exact ho
     ·rintro⟨rfl,_⟩;rw[hno]at ho;simp at ho
    ·cases vs with
     | nil=>exact hio.elim
     | cons v vs =>
      obtain⟨bs,rest,rfl,hov,hio⟩:=hio;obtain⟨hid,hvG,_⟩:=hv.1;obtain⟨G1,k1,k2,k3,k4⟩:=hp.put (σ':=setHp σ id (some (.own false dp e t y.1))) id (.own false dp e t y.1) v bs rfl ha.single (.inr ⟨hid,hno,hvG.symm⟩) rfl (by simp)
       (fun i=>by rw[ob_setHp];by_cases hi:i=id<;>simp[hi,hid]) (fun G' _ hn=>by simp only[OR,hn];exact hov)
      obtain⟨G2,k5,k6⟩:=h5 k1 (by simpa using hv.2.keep ⟨fun _ hb=>hb,fun _ _=>rfl,Nat.le_refl _,k4⟩ xs) hio ha.tail
      refine⟨G2,k5.wide fun b hb=>?_,fun i hi=>(k6 i (by simpa using hi)).trans (k4 i hi)⟩
      rw[List.flatten_cons,List.mem_append];rcases hb with(hb | hb) | hb
      ·exact .inl hb
      ·exact .inr (.inl hb)
      ·exact .inr (.inr hb)
   ·simp at hk
  ·simp at hk
 | .cur e::rr,σ,x::xs,y,k,r,hk=>by
  simp only[backK]at hk;split at hk
  ·rename_i id;split at hk
   ·rename_i hno;obtain⟨σ2,h1,h2,h3,h4,h5⟩:=backK_some rr hk;refine⟨σ2,h1,h2,by simpa using h3,fun i o ho=>h4 i o ?_,fun{E I U I0 G a w w0 vs bss} hp hv hio ha=>?_⟩
    ·rw[ob_setHp,if_neg]
     ·exact ho
     ·rintro⟨rfl,_⟩;rw[hno]at ho;simp at ho
    ·cases vs with
     | nil=>exact hio.elim
     | cons v vs =>
      obtain⟨bs,rest,rfl,hov,hio⟩:=hio;obtain⟨hid,b0,hvG,hvv⟩:=hv.1;have hvG:(G id).1=v:=by rw[hvG,hvv]
      obtain⟨G1,k1,k2,k3,k4⟩:=hp.put (σ':=setHp σ id (some (.box false e [.dat false (.list (.int .u8)) y.1.1,.dat false (.int .i64) y.1.2.1,.dat false (.int .i64) y.1.2.2]))) id (.box false e [.dat false (.list (.int .u8)) y.1.1,.dat false (.int .i64) y.1.2.1,.dat false (.int .i64) y.1.2.2]) v bs rfl ha.single (.inr ⟨hid,hno,hvG⟩) rfl (by simp)
       (fun i=>by rw[ob_setHp];by_cases hi:i=id<;>simp[hi,hid]) (fun G' _ hn=>hov.box hn)
      obtain⟨G2,k5,k6⟩:=h5 k1 (by simpa using hv.2.keep ⟨fun _ hb=>hb,fun _ _=>rfl,Nat.le_refl _,k4⟩ xs) hio ha.tail
      refine⟨G2,k5.wide fun b hb=>?_,fun i hi=>(k6 i (by simpa using hi)).trans (k4 i hi)⟩
      rw[List.flatten_cons,List.mem_append];rcases hb with(hb | hb) | hb
      ·exact .inl hb
      ·exact .inr (.inl hb)
      ·exact .inr (.inr hb)
   ·simp at hk
  ·simp at hk
 | .cur _::_,σ,[],y,k,r,hk=>by simp[backK]at hk
 | .d _ _::rr,σ,x::xs,y,k,r,hk=>by
  simp only[backK]at hk;obtain⟨σ2,h1,h2,h3,h4,h5⟩:=backK_some rr hk;exact⟨σ2,h1,h2,h3,h4,fun{E I U I0 G a w w0 vs bss} hp hv hio ha=>by
   cases vs with
   | nil=>exact hio.elim
   | cons v vs=>exact h5 hp hv.2 hio ha⟩
 | .f _::rr,σ,x::xs,y,k,r,hk=>by
  simp only[backK]at hk;obtain⟨σ2,h1,h2,h3,h4,h5⟩:=backK_some rr hk;exact⟨σ2,h1,h2,h3,h4,fun{E I U I0 G a w w0 vs bss} hp hv hio ha=>by
   cases vs with
   | nil=>exact hio.elim
   | cons v vs=>exact h5 hp hv.2 hio ha⟩
 | .mv _ _ _::rr,σ,x::xs,y,k,r,hk=>by
  simp only[backK]at hk;obtain⟨σ2,h1,h2,h3,h4,h5⟩:=backK_some rr hk;exact⟨σ2,h1,h2,h3,h4,fun{E I U I0 G a w w0 vs bss} hp hv hio ha=>by
   cases vs with
   | nil=>exact hio.elim
   | cons v vs=>exact h5 hp hv.2 hio ha⟩
 | .io _ _ _::_,σ,[],y,k,r,hk=>by simp[backK]at hk
 | .d _ _::_,σ,[],y,k,r,hk=>by simp[backK]at hk
 | .f _::_,σ,[],y,k,r,hk=>by simp[backK]at hk
 | .mv _ _ _::_,σ,[],y,k,r,hk=>by simp[backK]at hk
theorem findE_some {f:FuncId}{e:CallE}:{l:List CallE}→findE f l=some e→e∈l∧e.f=f
 | [],h=>by simp[findE]at h
 | x::r,h=>by
  simp only[findE]at h;split at h
  ·rename_i hx;obtain rfl:=Option.some.inj h;exact⟨by simp,hx⟩
  ·have:=findE_some h;exact⟨List.mem_cons_of_mem _ this.1,this.2⟩
theorem findI_some {f:FuncId}{e:InE}:{l:List InE}→findI f l=some e→e∈l∧e.f=f
 | [],h=>by simp[findI]at h
 | x::r,h=>by
  simp only[findI]at h;split at h
  ·rename_i hx;obtain rfl:=Option.some.inj h;exact⟨by simp,hx⟩
  ·have:=findI_some h;exact⟨List.mem_cons_of_mem _ this.1,this.2⟩
theorem retA_VA {N:Nat}:(xs:List A)→{vs:List Value}→(∀x∈xs,noT x=true)→VAs I N G w xs vs→VA I N G w (retA xs) (retV vs):=by
 intro xs vs hn hv;have tup:∀(xs:List A) (vs:List Value),(∀x∈xs,noT x=true)→VAs I N G w xs vs→VPs I N G w (xs.map fun
  | .l l=>(false,[l])
  | .a ls=>(true,ls)
  | .t _=>(true,[])) vs:=by
  intro xs;induction xs with
  | nil=>intro vs _ hv;cases vs with
   | nil=>trivial
   | cons _ _=>exact hv.elim
  | cons x xs ih =>
   intro vs hn hv;cases vs with
   | nil=>exact hv.elim
   | cons v vs =>
    refine⟨?_,ih vs (fun x hx=>hn x (List.mem_cons_of_mem _ hx)) hv.2⟩;have hx:=hn x (by simp)
    have:=hv.1;cases x with
    | l l=>exact⟨l,rfl,this⟩
    | a ls=>exact this
    | t _=>simp[noT]at hx
 match xs,vs,hv with
 | [],[],_=>exact⟨[],rfl,trivial⟩
 | [x],[v],hv=>exact hv.1
 | x::x'::xs,v::v'::vs,hv=>exact⟨v::v'::vs,rfl,tup _ _ hn hv⟩
 | [x],v::v'::vs,hv=>exact hv.2.elim
 | x::x'::xs,[v],hv=>exact hv.2.elim
theorem RelG.called (h:RelG E G σ a w) {σ1:Sg} {new:List Nat} {bss rb:List (List Nat)} {al:Bool} {w':World} (tk:Took G σ σ1 [] new bss) (co:CallOut E.d (Sb E G σ w al new) w w' bss rb I') :
  Pre E (fun b=>Imm E G σ w b∨(al=true∧I' b)) (fun b=>∃id o,σ1.ob id=some o∧o.ro=false∧b∈(G id).2) G σ1 a w' ∧
   Adm E (fun b=>Imm E G σ w b∨(al=true∧I' b)) (fun b=>∃id o,σ1.ob id=some o∧o.ro=false∧b∈(G id).2) w' rb ∧
   ∀b,Imm E G σ w b→w'.heap[b]? = w.heap[b]?:=by
 have hg:=tk.gone;rw[List.nil_append]at hg;have hsame:∀b,b<w.heap.size→(∀i∈new,(G i).2.head?≠some b)→w'.heap[b]? = w.heap[b]?:=fun b hb hn=>co.frame b hb fun bs hbs hh=>by
  obtain⟨i,hi,hx⟩:=tk.cls.head bs hbs b hh;exact hn i hi hx
 have himm:∀b,Imm E G σ w b→w'.heap[b]? = w.heap[b]?:=fun b hb=>hsame b hb.1 (hb.rdb tk.mine).2;have hcl:∀b∈bss.flatten,∃i∈new,b∈(G i).2:=fun b hb=>by
  obtain⟨q,hq,hbq⟩:=List.mem_flatten.1 hb;exact tk.cls.mem q hq b hbq
 have hsub:∀id o,σ1.ob id=some o→id∉new∧σ.ob id=some o:=fun id o ho=>hg.sub ho;have hleft:∀id o,σ1.ob id=some o→o.ro=false→∀b∈(G id).2,b∉bss.flatten:=fun id o ho hr b hb hm=>by
  obtain⟨i,hi,hbi⟩:=hcl b hm;obtain⟨hni,ho'⟩:=hsub id o ho;obtain⟨oi,hoi,hri⟩:=tk.mine i hi;exact h.disj id i o oi ho' hr hoi hri (fun e=>hni (e▸hi)) b hb hbi
 have hold:∀b,al=true→I' b→b<w.heap.size→Imm E G σ w b∨b∈bss.flatten:=fun b hal hb hlt=>by
  have:=(co.imm b hb).2 hlt;rcases this with this | this
  ·left;unfold Sb at this;rw[hal]at this;simpa using this
  ·exact .inr this
 have hkeep:Keep (Imm E G σ w) (fun b=>Imm E G σ w b∨(al=true∧I' b)) σ.hp.length σ1.hp.length G G w w':=⟨fun b hb=>.inl hb,himm,by rw[hg.len];exact Nat.le_refl _,fun _ _=>rfl⟩
 refine ⟨{ defers := h.defers
           len:=by rw[hg.env];exact h.len
           env:=fun t x hx=>by rw[hg.env]at hx;exact(h.env t x hx).keep hkeep x
           obs:=fun id o ho=>?_
           nodup:=fun id o ho hr=>h.nodup id o (hsub id o ho).2 hr
           range:=fun id o ho hr b hb=>?_
           hrange:=fun id o ho hr b hb=>?_
           disj:=fun id id' o o' ho hr ho' hr'=>h.disj id id' o o' (hsub id o ho).2 hr (hsub id' o' ho').2 hr'
           os:=co.os.trans h.os
           tape:=co.tape.trans h.tape
           output:=co.output.trans h.output
           size:=Nat.le_trans h.size co.size
           frame:=fun b hb hH=>(hsame b (Nat.lt_of_lt_of_le hb h.size) fun i hi hh=>?_).trans (h.frame b hb hH)
           xa:=h.xa
           fixd:=h.fixd
           acc:=fun b hb=>?_ },⟨co.nodup,fun b hb=>?_,fun bs hbs b hb=>?_⟩,himm⟩
 ·obtain⟨hni,ho'⟩:=hsub id o ho;refine(h.obs id o ho').keep hkeep (Sg.ob_lt ho') rfl o fun hr b hb=>hsame b (h.range id o ho' hr b hb).1 fun i hi hh=>?_;obtain⟨oi,hoi,hri⟩:=tk.mine i hi;exact h.disj id i o oi ho' hr hoi hri (fun e=>hni (e▸hi)) b hb (List.mem_of_mem_head? hh)
 ·have:=h.range id o (hsub id o ho).2 hr b hb;exact⟨Nat.lt_of_lt_of_le this.1 co.size,this.2,id,o,ho,hr,hb⟩
 ·obtain⟨hni,ho'⟩:=hsub id o ho;refine⟨h.hrange id o ho' hr b hb,fun hI=>?_⟩;have hmem:=List.mem_of_mem_head? hb;have himp:¬Imm E G σ w b:=fun hi=>hi.2.2 id o ho' hr hb;rcases hI with hI | ⟨hal,hI⟩
  ·exact himp hI
  ·rcases hold b hal hI (h.range id o ho' hr b hmem).1 with hI | hI
   ·exact himp hI
   ·exact hleft id o ho hr b hmem hI
 ·obtain⟨oi,hoi,hri⟩:=tk.mine i hi;exact hH (h.hrange i oi hoi hri b hh hb)
 ·rcases hb with hb | ⟨hal,hb⟩
  ·exact⟨Nat.lt_of_lt_of_le hb.1 co.size,hb.2.1⟩
  ·refine⟨(co.imm b hb).1,fun hB=>?_⟩;rcases hold b hal hb (Nat.lt_of_lt_of_le hB h.size)with hI | hI
   ·exact hI.2.1 hB
   ·obtain⟨i,hi,hbi⟩:=hcl b hI;obtain⟨oi,hoi,hri⟩:=tk.mine i hi;exact h.xa.a b ((h.range i oi hoi hri b hbi).2 hB)
 ·obtain⟨h1,h2⟩:=co.range b hb;refine⟨h1,fun hB=>?_,fun hU=>?_⟩
  ·obtain⟨i,hi,hbi⟩:=hcl b (h2 (Nat.lt_of_lt_of_le hB h.size));obtain⟨oi,hoi,hri⟩:=tk.mine i hi;exact(h.range i oi hoi hri b hbi).2 hB
  ·obtain⟨id,o,ho,hr,hbo⟩:=hU;exact hleft id o ho hr b hbo (h2 (h.range id o (hsub id o ho).2 hr b hbo).1)
 ·obtain⟨h1,h2⟩:=co.head bs hbs b hb;refine⟨fun hB=>?_,fun hI=>?_⟩
  ·obtain⟨q,hq,hqb⟩:=h2 (Nat.lt_of_lt_of_le hB h.size);obtain⟨i,hi,hx⟩:=tk.cls.head q hq b hqb;obtain⟨oi,hoi,hri⟩:=tk.mine i hi;exact h.hrange i oi hoi hri b hx hB
  ·rcases hI with hI | ⟨_,hI⟩
   ·obtain⟨q,hq,hqb⟩:=h2 hI.1;obtain⟨i,hi,hx⟩:=tk.cls.head q hq b hqb;obtain⟨oi,hoi,hri⟩:=tk.mine i hi;exact hI.2.2 i oi hoi hri hx
   ·exact h1 hI
theorem Took.kp {σ1:Sg}{new:List Nat}{bss:List (List Nat)}(tk:Took G σ σ1 [] new bss):Kp σ σ1:=by
 have hg:=tk.gone;rw[List.nil_append]at hg;refine⟨hg.env,by rw[hg.len];exact Nat.le_refl _,fun id o ho hr=>?_⟩
 rw[hg.ob id,if_neg,ho];intro hi;obtain⟨o',ho',hr'⟩:=tk.mine id hi;rw[ho]at ho';obtain rfl:=Option.some.inj ho';rw[hr]at hr';simp at hr'
theorem callK_some {f:FuncId} {xs:List A} {k:A→Sg→Option ρ} {r:ρ} {vs:List Value} (hC:∀ e∈C.O,Ctr E.d C.P e) (hI:∀ e∈C.I,InOk E.d C.P e) (h:RelG E G σ a w) (hk:callK C σ f xs k = some r)
  (hv:VAs (Imm E G σ w) σ.hp.length G w xs vs):OpOut C E G σ a w k r (.ok (.enter f vs.toArray) w):=by
 unfold callK at hk;split at hk
 ·rename_i e hfe;obtain⟨hmem,rfl⟩:=findE_some hfe;simp only at hk;split at hk
  ·generalize hal:(e.rs.any SK.alias||e.ps.any PM.alias)=al at hk;have hf:Frz σ (frzArgs al σ e.ps xs):=by
    unfold frzArgs;cases al
    ·exact .refl _
    ·exact freezeAs_frz _ _ _
   generalize frzArgs al σ e.ps xs=σ0 at hk hf;have h0:=hf.rel h;have hv0:=hv.keep (hf.keep (E:=E) (G:=G) (w:=w)) xs;obtain⟨y,σ1,new,bss,hk,tk,hargs⟩:=argsK_some e.ps h0 (Gone.refl _) (by simp[Mine]) hk hv0
   rw[List.nil_append]at hargs;cases hF:e.F y with
   | none=>simp[hF]at hk
   | some res =>
    simp only[hF,Option.bind_some]at hk;have hin:CallIn (Sb E G σ0 w al new) w bss:=by
     refine⟨h0.gl,fun b hb=>?_,tk.cls.nodup,fun b hb=>?_,fun b hb=>?_,fun bs hbs b hb hS=>?_⟩
     ·obtain⟨q,hq,hbq⟩:=List.mem_flatten.1 hb;obtain⟨i,hi,hbi⟩:=tk.cls.mem q hq b hbq;obtain⟨o,ho,hr⟩:=tk.mine i hi;exact h0.gb ho hr b hbi
     ·obtain⟨q,hq,hbq⟩:=List.mem_flatten.1 hb;obtain⟨i,hi,hbi⟩:=tk.cls.mem q hq b hbq;obtain⟨o,ho,hr⟩:=tk.mine i hi;exact(h0.range i o ho hr b hbi).1
     ·unfold Sb at hb;split at hb
      ·exact hb.1
      ·exact hb.1.1
     ·obtain⟨i,hi,hx⟩:=tk.cls.head bs hbs b hb;obtain⟨o,ho,hr⟩:=tk.mine i hi;unfold Sb at hS;split at hS
      ·exact hS.2.2 i o ho hr hx
      ·exact hS.2 i hi hx
    have hcall:=hC e hmem y res hF _ w vs bss hin hargs;cases hres:resB (hasIo e.ps) res with
    | mk rv ro =>
     rw[hres]at hk;have hcast1:∀{I':Nat→Prop},e.rs.any SK.alias=true→∀b,I' b→(Imm E G σ0 w b∨(al=true∧I' b)):=fun hc b hb=>.inr ⟨by rw[←hal,hc];rfl,hb⟩
     have hcast2:∀{I':Nat→Prop},e.ps.any PM.alias=true→∀b,I' b→(Imm E G σ0 w b∨(al=true∧I' b)):=fun hc b hb=>.inr ⟨by rw[←hal,hc,Bool.or_true],hb⟩
     cases ro with
     | some o =>
      simp only at hk;obtain⟨σ2,hk,hb1,hb2,hb3,hb4⟩:=backK_some e.ps hk;obtain⟨xs3,σ3,hn3,hkp3,hs3⟩:=encSs_shape e.rs σ2 rv;rw[hs3]at hk;have kp2:Kp σ1 σ2:=⟨hb1,by rw[hb2];exact Nat.le_refl _,fun id o ho _=>hb3 id o ho⟩
      refine⟨_,σ3,hk,?_,?_⟩
      ·refine(hf.kp.trans tk.kp).trans (kp2.trans ?_);exact hkp3
      ·refine Calls.mono hcall fun ex w' hpost=>?_;obtain⟨I',rvs,rbss,ibss,hex,co,hsv,_,hio⟩:=hpost;rw[hres]at hsv hio;obtain⟨hp,ha,hsm⟩:=h0.called tk co;obtain⟨G2,hp2,hg2⟩:=hb4 hp (by rw[tk.gone.len];exact hv0) (IoV.cast e.ps hcast2 (hio o rfl)) ha.left
       obtain⟨xs4,σ4,G3,hs4,hp3,hva,hgr⟩:=encSs_some e.rs hp2 (SVs.cast e.rs hcast1 hsv) ha.right;have:=hs3 (List A×Sg) fun x s=>some (x,s);rw[hs4]at this;simp only[Option.some.injEq,Prod.mk.injEq]at this;obtain⟨rfl,rfl⟩:=this;refine⟨_,hex,G3,hp3.rel,⟨fun b hb=>hp3.imm b (.inl (hf.keep.imm b hb)),fun b hb=>hsm b (hf.keep.imm b hb),?_,fun id hi=>?_⟩,(retA_VA xs4 hn3 hva).keep hp3.keep _⟩
       ·refine Nat.le_trans ?_ hkp3.n;rw[hb2,tk.gone.len,hf.len];exact Nat.le_refl _
       ·have hi1:id<σ1.hp.length:=by rw[tk.gone.len,hf.len];exact hi
        rw[hgr.g id (by rw[hb2];exact hi1)];exact hg2 id hi1
     | none =>
      simp only at hk;obtain⟨xs3,σ3,hn3,hkp3,hs3⟩:=encSs_shape e.rs σ1 rv;rw[hs3]at hk;refine⟨_,σ3,hk,?_,?_⟩
      ·exact(hf.kp.trans tk.kp).trans hkp3
      ·refine Calls.mono hcall fun ex w' hpost=>?_;obtain⟨I',rvs,rbss,ibss,hex,co,hsv,hib,_⟩:=hpost;rw[hres]at hsv hib;have:=hib rfl;subst this;obtain⟨hp,ha,hsm⟩:=h0.called tk co;obtain⟨xs4,σ4,G3,hs4,hp3,hva,hgr⟩:=encSs_some e.rs hp (SVs.cast e.rs hcast1 hsv) ha;have:=hs3 (List A×Sg) fun x s=>some (x,s);rw[hs4]at this;simp only[Option.some.injEq,Prod.mk.injEq]at this;obtain⟨rfl,rfl⟩:=this;refine⟨_,hex,G3,hp3.rel,⟨fun b hb=>hp3.imm b (.inl (hf.keep.imm b hb)),fun b hb=>hsm b (hf.keep.imm b hb),?_,fun id hi=>?_⟩,(retA_VA xs4 hn3 hva).keep hp3.keep _⟩
       ·refine Nat.le_trans ?_ hkp3.n;rw[tk.gone.len,hf.len];exact Nat.le_refl _
       ·have hi1:id<σ1.hp.length:=by rw[tk.gone.len,hf.len];exact hi
        rw[hgr.g id hi1]
  ·simp at hk
 ·split at hk
  ·rename_i e hfe;obtain⟨hmem,rfl⟩:=findI_some hfe;have io:=hI e hmem;rw[io.nat]at hk;obtain⟨⟨x,σ'⟩,hp,hk⟩:=Option.bind_eq_some_iff.1 hk;obtain⟨kp,hc⟩:=io.ok rfl h hv hp;exact⟨x,σ',hk,kp,hc⟩
  ·simp at hk
end
open Go
set_option linter.all false
def FnOk (P:Program)(f:FuncId):Prop:=∃fn c,P.funcs[f]? = some fn∧(fn.name == "runtime.NumGoroutine")=false∧fn.body=some c
structure Ctrs (D:Prop) (C:Ctx):Prop where
 mixed:C.P.follows .mixedOrders=true
 ok:∀e∈C.O,FnOk C.P e.f∧Ctr D C.P e
 inl:∀e∈C.I,FnOk C.P e.f∧InOk D C.P e
section
variable {ρ:Type}{C:Ctx}{E:En}{G:Gh}{σ:Sg}{a:Act}{w:World}
theorem run_callFunc {P:Program}{f:FuncId}(h:FnOk P f)(args:Array Value)(w:World):(callFunc f args).run P w=.ok (.enter f args) w:=by
 obtain⟨fn,c,hf,hn,hb⟩:=h;have h1:fn.name ≠ "runtime.NumGoroutine":=by simpa using hn
 simp[callFunc,hf,h1,hb]
theorem mapL {α β:Type}(f:α→β)(xs:Array α):xs.map f=(xs.toList.map f).toArray:=by
 cases xs;simp
theorem OpOut.of {k:A→Sg→Option ρ}{r:ρ}{x y:Result Next}(h:OpOut C E G σ a w k r x)(e:y=x):OpOut C E G σ a w k r y:=e▸h
theorem VAs.map (h:RelG E G σ a w):(l:List Operand)→VAs (Imm E G σ w) σ.hp.length G w (l.map (getA σ)) (l.map a.eval)
 | []=>trivial
 | x::l=>⟨h.get x,VAs.map h l⟩
theorem clearK_some {t:TypeId} {x:A} {k:Sg→Option ρ} {r:ρ} {v:Value} (h:RelG E G σ a w) (hk:clearK C σ t x k = some r) (hv:VA (Imm E G σ w) σ.hp.length G w x v) :
  ∃w' σ',(∀ty,(Builtin.clear_ #[t] ty #[v]).run C.P w=.ok (.tuple #[]) w')∧k σ'=some r∧Kp σ σ'∧∃G',RelG E G' σ' a w'∧GA E σ σ' G G' w w':=by
 unfold clearK at hk;split at hk
 ·rename_i id wid l m;split at hk
  ·rename_i e e' ty xs he ho;split at hk
   ·rename_i hc;obtain⟨hs,rfl,hz⟩:=hc;obtain⟨_,hcl,hk⟩:=Option.bind_eq_some_iff.1 hk;obtain⟨hl,rfl⟩:l≤xs.length∧m=xs.length:=by
     unfold clrD at hcl;split at hcl
     ·assumption
     ·cases hcl
    clear hcl;obtain⟨i,hi,hisz⟩:=szT_some hs;obtain⟨z,hiz,hzo,hzs⟩:∃z,i.zero=some z∧(zeroOk ty z.cells.toList).1=true∧z.cells.size=ty.wid:=by
     simp only[hi,Option.bind_some]at hz;cases hzz:i.zero with
     | none=>simp[hzz]at hz
     | some z=>simp[hzz]at hz;exact⟨z,rfl,hz.1,hz.2⟩
    obtain⟨hid,p,n,c,hG,rfl,hmn,hnc,hp⟩:=hv;have hor:=h.obs id _ ho;simp only[OR]at hor;obtain⟨hlim,cells,bss,how,hbs,hd1,hd2,hchk⟩:=hor.chk;simp only[Bool.false_eq_true,if_false]at hchk;have hb0:bss=[]:=hd2 rfl;subst hb0;have ht:=elT_some he;rcases Nat.eq_or_lt_of_le hl with hlx | hlx
    ·
     refine⟨w,_,fun tyy=>?_,hk,Kp.set _ ho rfl,?_⟩
     ·rw[show xs.length-l=0 from by omega]
      generalize (if c=l then p else p.map (·.add (l*ty.wid)))=q;cases q<;>simp[Builtin.clear_,run_underlying ht]
     ·have hx:xs.take l++List.replicate (xs.length-l) ty.dflt=xs:=by
       rw[show xs.length-l=0 from by omega,hlx];simp
      rw[hx];have e1:setHp σ id (some (.own false false e' ty xs))=σ:=by
       unfold setHp;have hlt:=Sg.ob_lt ho;have hg:σ.hp[id]? = some (some (.own false false e' ty xs)):=by
        unfold Sg.ob at ho;cases hq:σ.hp[id]? with
        | none=>rw[hq]at ho;cases ho
        | some y=>rw[hq]at ho;exact congrArg some ho
       have:σ.hp.set id (some (.own false false e' ty xs))=σ.hp:=by
        apply List.ext_getElem?
        intro j;rw[List.getElem?_set];split
        ·rename_i hj;subst hj;exact hg.symm
        ·rfl
       rw[this]
      rw[e1];exact⟨G,h,GA.refl _ _ _ _⟩
    ·have hnx:n=xs.length∧∃g cap cur,(G id).1=.slice (some ⟨g,0,none⟩) xs.length cap∧w.heap[g]? = some (.cells cur e' (0,0))∧xs.length≤cap∧cap≤maxLen∧cur.size=cap*ty.wid∧cur.toList.take (xs.length*ty.wid)=cells:=by
      rcases how.2 with⟨hn,hx0⟩ | ⟨g,cap,cur,hgv,_,hh,r1,r2,r3,r4⟩
      ·omega
      ·refine⟨?_,g,cap,cur,hgv,hh,r1,r2,r3,r4⟩;rw[hG]at hgv;simp only[Value.slice.injEq]at hgv;exact hgv.2.1
     obtain⟨rfl,g,cap,cur,hgv,hh,hcap,hcm,hcs,htake⟩:=hnx;rw[hG]at hgv;simp only[Value.slice.injEq,true_and]at hgv;obtain⟨rfl,rfl⟩:=hgv;have hcl:¬c=l:=by omega
     have hg2:(G id).2=[g]:=by rw[hbs,hG];rfl
     have hlenc:cells.length=xs.length*ty.wid:=hchk.1;have hle:xs.length*ty.wid≤cur.size:=by rw[hcs];exact Nat.mul_le_mul_right _ hcap
     let zs:List Value:=(madeCells z.cells ((xs.length-l)*ty.wid)).toList
     have hzl:zs.length=(xs.length-l)*ty.wid:=by simp[zs,size_madeCells]
     have hsum:l*ty.wid+(xs.length-l)*ty.wid=xs.length*ty.wid:=by rw[←Nat.add_mul];congr 1;omega
     have hone:∀u∈zs,u.oneCell'=true:=by
      intro u hu;have hr:=zeroOk_full (I:=fun _=>True) (w:=w) hzo (by rw[Array.length_toList];exact hzs)
      have hon:∀u∈z.cells.toList,u.oneCell'=true:=fun u hu=>RdC.one ty hr u hu;simp only[zs,madeCells,Array.toList_map,List.mem_map]at hu;obtain⟨j,_,rfl⟩:=hu;have hw:=ty.wid_pos;have hlt:j % z.cells.size<z.cells.size:=Nat.mod_lt _ (by omega)
      rw[getElem!_pos z.cells _ hlt];exact hon _ (by simp)
     have hst:=run_storeCells_at C.P g (l*ty.wid) e' zs 0 cur w hh (by rw[hzl];omega) hone
     simp only[Nat.add_zero]at hst;have hzc:(Builtin.zeroCells z.cells (xs.length-l)).toList=zs:=by
      simp only[Builtin.zeroCells,zs,madeCells,hzs]
     have hrun:∀tyy,(Builtin.clear_ #[t] tyy #[.slice (if c=l then some ⟨g,0,none⟩else(some (⟨g,0,none⟩:Addr)).map (·.add (l*ty.wid))) (xs.length-l) (c-l)]).run C.P w=.ok (.tuple #[]) (w.setRow g (cur.toList.take (l*ty.wid)++zs++cur.toList.drop (l*ty.wid+zs.length)).toArray):=fun tyy=>by
      obtain⟨q,hq⟩:∃q,xs.length-l=q+1:=⟨xs.length-l-1,by omega⟩
      have hzc':=hzc;rw[if_neg hcl];simp only[Option.map_some,add_none,Nat.zero_add];rw[hq]at hzc' ⊢;simp[Builtin.clear_,run_underlying ht,zeroValue,typeInfo,hi,hiz,hzc',hst]
     have hrg:=h.range id _ ho rfl g (by rw[hg2];simp)
     obtain⟨G',hrel,_,hke⟩:=h.chg (σ':=setHp σ id (some (.own false false e' ty (xs.take l++List.replicate (xs.length-l) ty.dflt)))) [id] id (.own false false e' ty (xs.take l++List.replicate (xs.length-l) ty.dflt)) (G id).1 [g]
      (w':=w.setRow g (cur.toList.take (l*ty.wid)++zs++cur.toList.drop (l*ty.wid+zs.length)).toArray)
      (fun i=>by rw[ob_setHp];by_cases hi:i=id<;>simp[hi,hid]) rfl (by simp) (.inr ⟨by simp,rfl⟩) rfl rfl rfl ⟨rfl,fun _=>Nat.le_refl _⟩ (by simp)
      (fun x hx hd=>setRow_other w g x _ fun he=>hd id (by simp) _ ho rfl (by rw[hg2,he];rfl)) (by simp)
      (fun x hx=>by simp at hx;subst hx;exact .inr ⟨hrg.1,id,by simp,_,ho,rfl,by rw[hg2];simp⟩)
      (fun x hx=>by simp at hx;subst hx;exact .inr ⟨id,by simp,_,ho,rfl,by rw[hg2];rfl⟩)
      (fun I G' kk hG'=>by
       simp only[OR,hG'];have hlen2:(xs.take l++List.replicate (xs.length-l) ty.dflt).length=xs.length:=by simp;omega
       have hct:(cells.take (l*ty.wid)).length=l*ty.wid:=by rw[List.length_take,hlenc];omega
       refine OwnV.mk (cells:=cells.take (l*ty.wid)++zs) (bss:=[]) (by rw[hlen2];exact hlim) ?_ (by rw[hG];simp[Value.ownBlock]) (fun hf=>by cases hf) (fun _=>rfl) ?_
       ·refine⟨by rw[hlen2,List.length_append,hct,hzl,hsum],.inr ⟨g,c,_,by rw[hlen2];exact hG,Nat.zero_le _,setRow_heap w g cur _ e' _ hh,by rw[hlen2];exact hcap,hcm,?_,?_⟩⟩
        ·rw[List.size_toArray,List.length_append,List.length_append,List.length_take,List.length_drop,Array.length_toList,hzl,←hcs];omega
        ·rw[hlen2,List.toList_toArray,←hsum];have e3:(cur.toList.take (l*ty.wid)++zs).length=l*ty.wid+(xs.length-l)*ty.wid:=by rw[List.length_append,List.length_take,Array.length_toList,hzl];omega
         rw[←e3,List.take_left];rw[←htake,List.take_take,Nat.min_eq_left (by omega)]
       ·simp only[Bool.false_eq_true,if_false];have hz2:=zeroOk_full (I:=I) (w:=w.setRow g (cur.toList.take (l*ty.wid)++zs++cur.toList.drop (l*ty.wid+zs.length)).toArray) hzo (by rw[Array.length_toList];exact hzs)
        refine Chk.append ⟨by rw[hct,List.length_take,Nat.min_eq_left hl],fun i y hi=>?_⟩ (made_chk (xs.length-l) hzs hz2) (fun i y cs _ hy=>hy) (fun i y cs _ hy=>hy)
        rw[List.getElem?_take]at hi;split at hi
        ·rename_i hil;obtain⟨ys,y1,y2,y3⟩:=hchk.2 i y hi;refine⟨ys,y1,fun j hj=>?_,y3.mono kk.imm kk.heap ty⟩;rw[←y2 j hj,List.getElem?_take,if_pos (chunk_lt hil hj)]
        ·cases hi)
     exact⟨_,_,hrun,hk,Kp.set _ ho rfl,G',hrel,hke⟩
   ·cases hk
  ·cases hk
 ·cases hk
theorem ptrK_some {x:A}{k:A→Option ρ}{r:ρ}{v:Value}{I:Nat→Prop}{N:Nat}(hk:ptrK x k=some r)(hv:VA I N G w x v):k x=some r∧∃b j,v=.pointer (some ⟨b,j,none⟩):=by
 unfold ptrK at hk;split at hk
 ·obtain⟨_,b,_,hv⟩:=hv;exact⟨hk,b,_,hv⟩
 ·cases hk
theorem opK_some {o:Oper}{k:A→Sg→Option ρ}{r:ρ}(hC:Ctrs E.d C)(h:RelG E G σ a w)(hk:opK C σ o.op k=some r):OpOut C E G σ a w k r ((execOp a.eval o).run C.P w):=by
 obtain⟨dst,op,type,pos,after,guard⟩:=o;simp only at hk;have val:∀{s:Sem Value} {z:A} {u:Value},k z σ=some r→s.run C.P w=.ok u w→VA (Imm E G σ w) σ.hp.length G w z u→OpOut C E G σ a w k r ((do let x ←s;pure (Next.value x):Sem Next).run C.P w):=fun hk hr hv =>
  (OpOut.val h hk hv).of (by simp[hr])
 have val2:∀{s:Sem Value} {u:Value} {w':World},s.run C.P w=.ok u w'→OpOut C E G σ a w k r (.ok (.value u) w')→OpOut C E G σ a w k r ((do let x ←s;pure (Next.value x):Sem Next).run C.P w):=fun hr ho =>
  ho.of (by simp[hr])
 unfold opK at hk;split at hk
 ·exact(OpOut.val h hk (h.get _)).of (by simp[execOp])
 ·exact(OpOut.val h hk (h.get _)).of (by simp[execOp])
 ·rename_i x;obtain⟨h1,b,j,h2⟩:=ptrK_some hk (h.get x);exact(OpOut.val h h1 (h.get x)).of (by simp[execOp,h2])
 ·rename_i c x y;split at hk
  ·rename_i nn cb hc;have hv:=h.get c;rw[hc]at hv;have hv:=datBool hv;cases cb with
   | true=>exact(OpOut.val h hk (h.get x)).of (by simp[execOp,hv,asBool])
   | false=>exact(OpOut.val h hk (h.get y)).of (by simp[execOp,hv,asBool])
  ·simp at hk
 ·obtain⟨z,u,h1,h2,h3⟩:=unK_some (C:=C) hk (h.get _);exact val h1 h2 h3
 ·rename_i bo t x y q;obtain⟨z,u,h1,h2,h3,h4⟩:=binK_some h hk (h.get _) (h.get _);refine val h1 ?_ h4;simp[h2,h3]
 ·obtain⟨z,u,h1,h2,h3⟩:=loadK_some h hk (h.get _);exact val h1 h2 h3
 ·rename_i t x y;obtain⟨w',σ',h1,h2,h3,G',h4,hga⟩:=storeK_some h hk (h.get x) (h.get y);refine OpOut.of (x:=.ok .skip w') ⟨_,σ',h2,h3,rfl,G',h4,hga⟩ ?_;simp[execOp,h1]
 ·obtain⟨z,u,h1,h2,h3⟩:=fieldAddrK_some (C:=C) hk (h.get _);exact val h1 h2 h3
 ·obtain⟨z,u,h1,h2,h3⟩:=indexAddrK_some h hk (h.get _) (h.get _);exact val h1 h2 h3
 ·split at hk
  ·rename_i zs hz;obtain⟨v,w',h1,h2⟩:=alloc_some (k:=k) (r:=r) h hz hk;exact val2 h1 h2
  ·simp at hk
 ·simp only at hk;split at hk
  ·simp at hk
  ·rename_i hne;obtain⟨v,w',h1,h2⟩:=box_some (k:=k) (r:=r) h (h.get _) (by intro h0;rw[h0]at hne;simp at hne) hk
   exact val2 h1 h2
 ·obtain⟨z,u,h1,h2,h3⟩:=build_some h hk;exact val h1 h2 h3
 ·obtain⟨u,w',h1,h2⟩:=buildSliceK_some h hk;exact val2 h1 h2
 ·obtain⟨u,w',h1,h2⟩:=makeSliceK_some h hk;exact val2 h1 h2
 ·obtain⟨u,w',h1,h2⟩:=makeMapK_some h hk;exact val2 h1 h2
 ·rename_i t m y z;obtain⟨w',σ',h1,h2,h3,G',h4,hga⟩:=mapUpdateK_some (z:=a.eval z) h hk (h.get m) (h.get y);refine OpOut.of (x:=.ok .skip w') ⟨_,σ',h2,h3,rfl,G',h4,hga⟩ ?_;simp[execOp,h1]
 ·obtain⟨u,h1,h2⟩:=sliceK_some h hk (h.get _);exact val2 h1 h2
 ·obtain⟨z,u,h1,h2,h3⟩:=slice3K_some h hk (h.get _);exact val h1 h2 h3
 ·obtain⟨z,u,h1,h2,h3⟩:=extractK_some (C:=C) hk (h.get _);exact val h1 h2 h3
 ·obtain⟨z,u,h1,h2,h3⟩:=convertK_some h hk (h.get _);exact val h1 h2 h3
 ·obtain⟨z,u,h1,h2,h3⟩:=indexK_some (C:=C) hk (h.get _) (h.get _);exact val h1 h2 h3
 ·rename_i f first captured
  have hcap:∀(l:List Operand) (ids:List Nat),capIds (l.map (getA σ))=some ids→l.map a.eval=ids.map (fun id=>(G id).1)∧∀id∈ids,id<σ.hp.length∧∃b,(G id).1=.pointer (some ⟨b,0,none⟩):=by
   intro l;induction l with
   | nil=>intro ids hi;simp only[List.map_nil,capIds,Option.some.injEq]at hi;subst hi;simp
   | cons x l ih =>
    intro ids hi;simp only[List.map_cons]at hi;have hx:=h.get x;generalize getA σ x=y at hi hx;unfold capIds at hi;split at hi
    ·rename_i he;simp at he
    ·rename_i id r he;obtain⟨rfl,rfl⟩:=List.cons.inj he;obtain⟨ids',h1,rfl⟩:=Option.map_eq_some_iff.1 hi;obtain⟨h2,h3⟩:=ih ids' h1;obtain⟨hl,b,hb,hv⟩:=hx;refine⟨by simp only[List.map_cons,h2,hv,hb],fun id' hi'=>?_⟩
     rcases List.mem_cons.1 hi' with rfl | hi'
     ·exact⟨hl,b,hb⟩
     ·exact h3 id' hi'
    ·simp at hi
  have mk:∀l:List Operand,l=captured.toList→captured.map a.eval=(l.map a.eval).toArray:=fun l hl=>by subst hl;simp[mapL]
  split at hk
  ·rename_i hf hc;obtain⟨h1,h2⟩:=hcap _ _ hc;refine(OpOut.val (v:=.l (.fn f)) (val:=.func (.func f) #[] #[]) h hk rfl).of ?_;have e1:first=#[]:=by simpa using hf
   have e2:=mk _ rfl;rw[h1]at e2;simp[execOp,Instr.makeFunc,e1,e2]
  ·rename_i id ids hf hc;obtain⟨h1,h2⟩:=hcap _ _ hc;refine(OpOut.val (v:=.l (.clo f (id::ids))) (val:=.func (.func f) #[] ((id::ids).map fun id=>(G id).1).toArray) h hk ⟨rfl,h2⟩).of ?_;have e1:first=#[]:=by simpa using hf
   have e2:=mk _ rfl;rw[h1]at e2;simp[execOp,Instr.makeFunc,e1,e2]
  ·simp at hk
 ·rename_i c;obtain⟨callee,args,argTypes⟩:=c;simp only at hk;split at hk
  ·rename_i b;have hex:∀ {v:Sem Value},(∀ cs,builtin b argTypes type cs (args.map a.eval) = (do let x ← v; pure (.value x))) →
     (execOp a.eval ⟨dst,.call ⟨.builtin b,args,argTypes⟩,type,pos,after,guard⟩).run C.P w=(do let x ←v;pure (Next.value x):Sem Next).run C.P w:=fun hb=>by
    simp only[execOp,resolve,Sem.run_bind,Sem.run_pure,Result.andThen_ok,invoke,hb]
   unfold builtinK at hk;have hlist:∀{xs:List Value},args.toList.map a.eval=xs→args.map a.eval=xs.toArray:=fun hx=>by rw[mapL,hx]
   split at hk
   ·rename_i x hargs;split at hk
    ·rename_i t hts;obtain⟨tl⟩:=argTypes;simp only at hts;subst hts;cases hal:args.toList with
     | nil=>rw[hal]at hargs;simp at hargs
     | cons p q =>
      cases q with
      | cons _ _=>rw[hal]at hargs;simp at hargs
      | nil =>
       rw[hal]at hargs;simp only[List.map_cons,List.map_nil,List.cons.injEq,and_true]at hargs;subst hargs;obtain⟨z,u,h1,h2,h3⟩:=lenK_some h hk (h.get p);have:=hlist (xs:=[a.eval p]) (by rw[hal];rfl)
       refine OpOut.of (val h1 (h2 type) h3) (hex ?_);intro cs;simp only[builtin,this]
    ·simp at hk
   ·rename_i x y hargs;cases hal:args.toList with
    | nil=>rw[hal]at hargs;simp at hargs
    | cons p q =>
     cases q with
     | nil=>rw[hal]at hargs;simp at hargs
     | cons p2 q =>
      cases q with
      | cons _ _=>rw[hal]at hargs;simp at hargs
      | nil =>
       rw[hal]at hargs;simp only[List.map_cons,List.map_nil,List.cons.injEq,and_true]at hargs;obtain⟨rfl,rfl⟩:=hargs;obtain⟨u,w',h1,h2⟩:=appendK_some h hk (h.get p) (h.get p2);have:=hlist (xs:=[a.eval p,a.eval p2]) (by rw[hal];rfl)
       refine OpOut.of (val2 (h1 type) h2) (hex ?_);intro cs;simp only[builtin,this]
   ·rename_i x y hargs;cases hal:args.toList with
    | nil=>rw[hal]at hargs;simp at hargs
    | cons p q =>
     cases q with
     | nil=>rw[hal]at hargs;simp at hargs
     | cons p2 q =>
      cases q with
      | cons _ _=>rw[hal]at hargs;simp at hargs
      | nil =>
       rw[hal]at hargs;simp only[List.map_cons,List.map_nil,List.cons.injEq,and_true]at hargs;obtain⟨rfl,rfl⟩:=hargs;obtain⟨z,u,h1,h2,h3⟩:=max2K_some (C:=C) hk (h.get p) (h.get p2);have:=hlist (xs:=[a.eval p,a.eval p2]) (by rw[hal];rfl)
       refine OpOut.of (val h1 (h2 argTypes type) h3) (hex ?_);intro cs;simp only[builtin,this,if_true]
   ·rename_i x y hargs;cases hal:args.toList with
    | nil=>rw[hal]at hargs;simp at hargs
    | cons p q =>
     cases q with
     | nil=>rw[hal]at hargs;simp at hargs
     | cons p2 q =>
      cases q with
      | cons _ _=>rw[hal]at hargs;simp at hargs
      | nil =>
       rw[hal]at hargs;simp only[List.map_cons,List.map_nil,List.cons.injEq,and_true]at hargs;obtain⟨rfl,rfl⟩:=hargs;obtain⟨z,u,h1,h2,h3⟩:=max2K_some (C:=C) hk (h.get p) (h.get p2);have:=hlist (xs:=[a.eval p,a.eval p2]) (by rw[hal];rfl)
       refine OpOut.of (val h1 (h2 argTypes type) h3) (hex ?_);intro cs;simp only[builtin,this,Bool.false_eq_true,if_false]
   ·rename_i x hargs;split at hk
    ·rename_i t hts;obtain⟨tl⟩:=argTypes;simp only at hts;subst hts;cases hal:args.toList with
     | nil=>rw[hal]at hargs;simp at hargs
     | cons p q =>
      cases q with
      | cons _ _=>rw[hal]at hargs;simp at hargs
      | nil =>
       rw[hal]at hargs;simp only[List.map_cons,List.map_nil,List.cons.injEq,and_true]at hargs;subst hargs;obtain⟨w',σ',h1,h2,h3,G',h4,hga⟩:=clearK_some h hk (h.get p);have:=hlist (xs:=[a.eval p]) (by rw[hal];rfl)
       refine OpOut.of (val2 (h1 type) ⟨_,σ',h2,h3,G',h4,hga,trivial⟩) (hex ?_);intro cs;simp only[builtin,this]
    ·simp at hk
   ·simp at hk
  ·rename_i fo;split at hk
   ·rename_i f hf;have hfv:=h.get fo;rw[hf]at hfv;simp only[VA,VL]at hfv;have hok:FnOk C.P f:=by
     clear hfv hf;unfold callK at hk;split at hk
     ·rename_i e hfe;obtain⟨hm,rfl⟩:=findE_some hfe;exact(hC.ok e hm).1
     ·split at hk
      ·rename_i e hfe;obtain⟨hm,rfl⟩:=findI_some hfe;exact(hC.inl e hm).1
      ·simp at hk
    have:=callK_some (fun e he=>(hC.ok e he).2) (fun e he=>(hC.inl e he).2) h hk (VAs.map h args.toList);refine OpOut.of this ?_;simp[execOp,resolve,hfv,Deferred.ofValue,invoke,run_callFunc hok,mapL]
   ·rename_i f ids hf;have hfv:=h.get fo;rw[hf]at hfv;obtain⟨hfv,hids⟩:=hfv;have hok:FnOk C.P f:=by
     clear hfv hf;unfold callK at hk;split at hk
     ·rename_i e hfe;obtain⟨hm,rfl⟩:=findE_some hfe;exact(hC.ok e hm).1
     ·split at hk
      ·rename_i e hfe;obtain⟨hm,rfl⟩:=findI_some hfe;exact(hC.inl e hm).1
      ·simp at hk
    have happ:∀(xs:List A) (vs:List Value),VAs (Imm E G σ w) σ.hp.length G w xs vs→VAs (Imm E G σ w) σ.hp.length G w (xs++ids.map fun id=>.l (.bptr id 0)) (vs++ids.map fun id=>(G id).1):=by
     have hb:∀ids:List Nat,(∀id∈ids,id<σ.hp.length∧∃b,(G id).1=.pointer (some ⟨b,0,none⟩))→VAs (Imm E G σ w) σ.hp.length G w (ids.map fun id=>.l (.bptr id 0)) (ids.map fun id=>(G id).1):=by
      intro ids;induction ids with
      | nil=>intro _;trivial
      | cons id ids ih =>
       intro hi;obtain⟨h1,b,h2⟩:=hi id (by simp)
       exact⟨⟨h1,b,h2,h2⟩,ih fun id' hi'=>hi id' (List.mem_cons_of_mem _ hi')⟩
     intro xs;induction xs with
     | nil=>intro vs hv;cases vs with
      | nil=>exact hb ids hids
      | cons _ _=>exact hv.elim
     | cons x xs ih=>intro vs hv;cases vs with
      | nil=>exact hv.elim
      | cons v vs=>exact⟨hv.1,ih vs hv.2⟩
    have:=callK_some (fun e he=>(hC.ok e he).2) (fun e he=>(hC.inl e he).2) h hk (happ _ _ (VAs.map h args.toList));refine OpOut.of this ?_;simp[execOp,resolve,hfv,Deferred.ofValue,invoke,run_callFunc hok,mapL]
   ·simp at hk
  ·simp at hk
 ·simp at hk
end
open Go
set_option linter.all false
structure Kc (ws:List Nat) (σ σ':Sg):Prop where
 n:σ.hp.length≤σ'.hp.length
 len:σ'.env.length=σ.env.length
 env:∀t,t∉ws→σ'.env[t]? = σ.env[t]?
 ob:∀id o,σ.ob id=some o→o.ro=true→σ'.ob id=some o
theorem Kc.refl (ws:List Nat)(σ:Sg):Kc ws σ σ:=⟨Nat.le_refl _,rfl,fun _ _=>rfl,fun _ _ h _=>h⟩
theorem Kc.trans {ws:List Nat}{a b c:Sg}(h:Kc ws a b)(k:Kc ws b c):Kc ws a c :=
 ⟨Nat.le_trans h.n k.n,k.len.trans h.len,fun t ht=>(k.env t ht).trans (h.env t ht),fun id o ho hr=>k.ob id o (h.ob id o ho hr) hr⟩
theorem Kc.mono {ws ws':List Nat}{a b:Sg}(h:Kc ws a b)(hs:∀t∈ws,t∈ws'):Kc ws' a b :=
 ⟨h.n,h.len,fun t ht=>h.env t fun hm=>ht (hs t hm),h.ob⟩
theorem Kp.kc {ws:List Nat}{a b:Sg}(h:Kp a b):Kc ws a b:=⟨h.n,by rw[h.env],fun t _=>by rw[h.env],h.ob⟩
section
variable {ρ:Type}{C:Ctx}{E:En}{G:Gh}{σ:Sg}{a:Act}{w:World}
theorem Kc.set (σ:Sg)(d:Nat)(x:A){ws:List Nat}(hd:d∈ws):Kc ws σ { σ with env:=σ.env.set d x } :=
 ⟨Nat.le_refl _,by simp,fun t ht=>by
  simp only[List.getElem?_set];rw[if_neg];intro e;subst e;exact ht hd,fun _ _ h _=>h⟩
theorem putK_some {d:Option Tmp} {x:A} {k:Sg→Option ρ} {r:ρ} {v:Value} {ws:List Nat} (h:RelG E G σ a w) (hk:putK σ d x k = some r) (hv:VA (Imm E G σ w) σ.hp.length G w x v) (hd:∀ t,d = some t→t∈ws∧¬ E.F t) :
  ∃σ',k σ'=some r∧RelG E G σ' (a.put d v) w∧Kc ws σ σ'∧GA E σ σ' G G w w:=by
 cases d with
 | none=>exact⟨σ,hk,h,Kc.refl _ _,GA.refl _ _ _ _⟩
 | some d =>
  simp only[putK,setK_eq]at hk;exact⟨_,hk,h.put d hv (hd d rfl).2,Kc.set σ d x (hd d rfl).1,GA.refl E σ G w⟩
theorem RelG.refine (h:RelG E G σ a w)(d:Nat){x:A}(hv:VA (Imm E G σ w) σ.hp.length G w x (a.tmps.getD d undef)):RelG E G { σ with env:=σ.env.set d x } a w:=by
 refine{ h with len:=by simp[h.len],env:=fun t y hy=>?_ }
 show VA (Imm E G σ w) σ.hp.length G w y _;simp only[List.getElem?_set]at hy;by_cases ht:d=t
 ·subst ht;simp only[if_true]at hy;split at hy
  ·obtain rfl:=Option.some.inj hy;exact hv
  ·simp at hy
 ·simp only[ht,if_false]at hy;exact h.env t y hy
def StepOk (C:Ctx)(E:En)(G:Gh)(σ:Sg)(ws:List Nat)(k:Sg→Option ρ)(r:ρ)(ops:Array Oper)(o:Oper)(a:Act)(w:World):Prop :=
 ∀(next:Act→World→Prop) (Q:Exit→Act→World→Prop),
  (∀σ' a' w' G',k σ'=some r→RelG E G' σ' a' w'→Kc ws σ σ'→GA E σ σ' G G' w w'→next a' w') →
  if Region.wanted o (yielded ops a.tmps)then o.wp C.P a w next Q else next (a.put o.dst undef) w
theorem opStep {ws:List Nat} {k:Sg→Option ρ} {r:ρ} {o:Oper} (hC:Ctrs E.d C) (h:RelG E G σ a w) (hk:(opK C σ o.op fun v σ=>putK σ o.dst v k) = some r) (hd:∀ t,o.dst = some t→t∈ws∧¬ E.F t)
  (next:Act→World→Prop) (Q:Exit→Act→World→Prop) (hn:∀σ' a' w' G',k σ'=some r→RelG E G' σ' a' w'→Kc ws σ σ'→GA E σ σ' G G' w w'→next a' w'):o.wp C.P a w next Q:=by
 have hop:=opK_some (a:=a) (w:=w) hC h hk;obtain⟨v,σ',hk',kp,hx⟩:=hop;unfold Oper.wp;generalize (execOp a.eval o).run C.P w=x at hx;have fin:∀{G':Gh} {w':World} {val:Value},RelG E G' σ' a w'→GA E σ σ' G G' w w'→VA (Imm E G' σ' w') σ'.hp.length G' w' v val→next (a.put o.dst val) w':=fun h1 hg h2=>by
  obtain⟨σ2,h3,h4,h5,h6⟩:=putK_some h1 hk' h2 hd;exact hn σ2 _ _ _ h3 h4 (kp.kc.trans h5) (hg.trans h6)
 cases x with
 | ok n w' =>
  cases n<;>simp only at hx<;>first | exact hx.elim | skip
  ·obtain⟨G',h1,hg,h2⟩:=hx;exact fin h1 hg h2
  ·obtain⟨rfl,G',h1,hg⟩:=hx;exact fin h1 hg trivial
  ·rename_i f args;show Calls C.P f args w' _;refine Calls.mono hx fun e w'' he=>?_;obtain⟨val,rfl,G',h1,hg,h2⟩:=he;exact fin h1 hg h2
 | halt e w'=>exact hx.elim
theorem operK_some {ws:List Nat} {ops:Array Oper} {k:Sg→Option ρ} {r:ρ} {o:Oper} (hC:Ctrs E.d C) (h:RelG E G σ a w) (hk:operK C ops σ o k = some r) (hd:∀ t,o.dst = some t→t∈ws∧¬ E.F t)
  (hg:∀j b t,o.guard=some (j,b)→(ops[j]?).bind (·.dst)=some t→t∈ws):StepOk C E G σ ws k r ops o a w:=by
 intro next Q hn;unfold operK at hk;split at hk
 ·rename_i hgd;have:Region.wanted o (yielded ops a.tmps)=true:=by simp[Region.wanted,hgd]
  rw[if_pos this];exact opStep hC h hk hd next Q hn
 ·rename_i j want hgd;split at hk
  ·rename_i d hdj;split at hk
   ·rename_i nn b hget;have hv:=h.get (.tmp d);rw[hget]at hv;have hb:=datBool hv;simp only[Act.eval]at hb;have hy:yielded ops a.tmps j=some b:=by
     unfold yielded;rw[hdj];simp only[Option.bind_some];cases ht:a.tmps[d]? with
     | none=>rw[Array.getD_eq_getD_getElem?,ht]at hb;simp[undef]at hb
     | some u =>
      rw[Array.getD_eq_getD_getElem?,ht]at hb;simp only[Option.getD_some]at hb;subst hb;rfl
    have hw:Region.wanted o (yielded ops a.tmps)=(b==want):=by
     simp only[Region.wanted,hgd,hy];cases b<;>cases want<;>rfl
    have hdw:d∈ws:=hg j want d hgd hdj;have ref:RelG E G { σ with env:=σ.env.set d (boolA b) } a w:=h.refine d (by
     show VA _ _ _ _ (boolA b) _;rw[hb];exact boolVA)
    have kset:Kc ws σ { σ with env:=σ.env.set d (boolA b) }:=Kc.set σ d _ hdw;have go:∀k':Sg→Option ρ,putK σ (some d) (boolA b) k'=k' { σ with env:=σ.env.set d (boolA b) }:=fun k'=>by simp only[putK,setK_eq]
    have run:(opK C { σ with env:=σ.env.set d (boolA b) } o.op fun v σ=>putK σ o.dst v k)=some r→o.wp C.P a w next Q:=fun hk =>
     opStep hC ref hk hd next Q fun σ' a' w' G' h1 h2 h3 h4=>hn σ' a' w' G' h1 h2 (kset.trans h3) h4
    have skip:putK { σ with env:=σ.env.set d (boolA b) } o.dst (.l .und) k=some r→next (a.put o.dst undef) w:=fun hk=>by
     obtain⟨σ2,h1,h2,h3,h4⟩:=putK_some (v:=undef) ref hk rfl hd;exact hn σ2 _ _ _ h1 h2 (kset.trans h3) h4
    rw[hw];cases b with
    | true =>
     simp only[cond_true]at hk;rw[go]at hk;cases want with
     | true=>exact run hk
     | false=>exact skip hk
    | false =>
     simp only[cond_false]at hk;rw[go]at hk;cases want with
     | true=>exact skip hk
     | false=>exact run hk
   ·rename_i hget;have hv:=h.get (.tmp d);rw[hget]at hv;have hv:a.tmps.getD d undef=undef:=hv;have hy:yielded ops a.tmps j=none:=by
     unfold yielded;rw[hdj];simp only[Option.bind_some];cases ht:a.tmps[d]? with
     | none=>rfl
     | some u =>
      rw[Array.getD_eq_getD_getElem?,ht]at hv;simp only[Option.getD_some]at hv;subst hv;rfl
    have hw:Region.wanted o (yielded ops a.tmps)=false:=by
     simp only[Region.wanted,hgd,hy];cases want<;>rfl
    obtain⟨σ2,h1,h2,h3,h4⟩:=putK_some (v:=undef) h hk rfl hd;rw[hw];exact hn σ2 _ _ _ h1 h2 h3 h4
   ·simp at hk
  ·simp at hk
theorem opersK_some {ws:List Nat} {ops:Array Oper} {r:ρ} (hC:Ctrs E.d C):(os:List Oper)→(i:Nat)→{σ:Sg}→{G:Gh}→{a:Act}→{w:World}→{k:Sg→Option ρ}→(∀ j o,os[j]? = some o→ops[i + j]? = some o) →
  (∀o∈os,(∀t,o.dst=some t→t∈ws∧¬E.F t)∧∀j b t,o.guard=some (j,b)→(ops[j]?).bind (·.dst)=some t→t∈ws)→RelG E G σ a w→opersK C ops σ os k=some r →
  (Q:Exit→Act→World→Prop)→(∀σ' a' w' G',k σ'=some r→RelG E G' σ' a' w'→Kc ws σ σ'→GA E σ σ' G G' w w'→Q .normal a' w')→wpOps C.P ops Q (List.range' i os.length) a w
 | [],i,σ,G,a,w,k,ho,hws,h,hk,Q,hQ=>by
  simp only[opersK]at hk;simp only[List.length_nil,List.range'_zero,wpOps];exact hQ σ a w G hk h (Kc.refl _ _) (GA.refl _ _ _ _)
 | o::os,i,σ,G,a,w,k,ho,hws,h,hk,Q,hQ=>by
  simp only[opersK]at hk;simp only[List.length_cons,List.range'_succ,wpOps];have hoi:ops[i]? = some o:=by have:=ho 0 o rfl;simpa using this
  rw[hoi];simp only;have hst:=operK_some (a:=a) (w:=w) hC h hk (hws o (by simp)).1 (hws o (by simp)).2 (wpOps C.P ops Q (List.range' (i+1) os.length)) Q fun σ' a' w' G' h1 h2 h3 h4 =>
   opersK_some hC os (i+1) (fun j o' hj=>by have:=ho (j+1) o' (by simpa using hj);rwa [show i+(j+1)=i+1+j from by omega]at this) (fun o' ho'=>hws o' (List.mem_cons_of_mem _ ho')) h2 h1 Q
    fun σ2 a2 w2 G2 k1 k2 k3 k4=>hQ σ2 a2 w2 G2 k1 k2 (h3.trans k3) (h4.trans k4)
  split at hst
  ·rename_i hw;rw[if_pos hw];exact .inl hst
  ·rename_i hw;rw[if_neg hw];exact hst
end
open Go
set_option linter.all false
def L.bd (N:Nat):L→Prop
 | .ref id=>id<N
 | .optr id _ _=>id<N
 | .bptr id _=>id<N
 | .clo _ ids=>∀id∈ids,id<N
 | .sub id _ _ _=>id<N
 | _=>True
def A.bd (N:Nat):A→Prop
 | .l y=>y.bd N
 | .a ys=>∀y∈ys,y.bd N
 | .t ps=>∀p∈ps,∀y∈p.2,y.bd N
def Ob.bd (N:Nat):Ob→Prop
 | .own _ _ _ _ _=>True
 | .box _ _ cs=>∀l∈cs,l.bd N
 | .mp _ _ _=>True
section
variable {ρ:Type}{C:Ctx}{E:En}{G G':Gh}{σ σF:Sg}{a:Act}{w:World}{I:Nat→Prop}{N N':Nat}
theorem VL.bd:(l:L)→{v:Value}→VL I N G w l v→l.bd N
 | .unk,_,_=>trivial
 | .nils,_,_=>trivial
 | .dat _ _ _,_,_=>trivial
 | .cptr _ _,_,_=>trivial
 | .ref id,_,h=>h.1
 | .optr id _ _,_,h=>h.1
 | .bptr id _,_,h=>h.1
 | .fn _,_,_=>trivial
 | .clo _ ids,_,h=>fun id hi=>(h.2 id hi).1
 | .und,_,_=>trivial
 | .sub _ _ _ _,_,h=>h.1
 | .full _ _,_,_=>trivial
theorem VL.lower:(l:L)→{v:Value}→VL I N G w l v→l.bd N'→VL I N' G w l v
 | .unk,_,_,_=>trivial
 | .nils,_,h,_=>h
 | .dat _ _ _,_,h,_=>h
 | .cptr _ _,_,h,_=>h
 | .ref id,_,h,b=>⟨b,h.2⟩
 | .optr id _ _,_,h,b=>⟨b,h.2⟩
 | .bptr id _,_,h,b=>⟨b,h.2⟩
 | .fn _,_,h,_=>h
 | .clo _ ids,_,h,b=>⟨h.1,fun id hi=>⟨b id hi,(h.2 id hi).2⟩⟩
 | .und,_,h,_=>h
 | .sub _ _ _ _,_,h,b=>⟨b,h.2⟩
 | .full _ _,_,h,_=>h
theorem VLs.bd:(ls:List L)→{vs:List Value}→VLs I N G w ls vs→∀l∈ls,l.bd N
 | [],_,_,l,hl=>by simp at hl
 | x::ls,[],h,_,_=>h.elim
 | x::ls,v::vs,h,l,hl=>by
  rcases List.mem_cons.1 hl with rfl | hl
  ·exact h.1.1.bd _
  ·exact VLs.bd ls h.2 l hl
theorem VLs.lower:(ls:List L)→{vs:List Value}→VLs I N G w ls vs→(∀l∈ls,l.bd N')→VLs I N' G w ls vs
 | [],[],_,_=>trivial
 | [],_::_,h,_=>h.elim
 | x::ls,[],h,_=>h.elim
 | x::ls,v::vs,h,b=>⟨⟨h.1.1.lower x (b x (by simp)),h.1.2⟩,VLs.lower ls h.2 fun l hl=>b l (List.mem_cons_of_mem _ hl)⟩
theorem VPs.bd:(ps:List (Bool×List L))→{vs:List Value}→VPs I N G w ps vs→∀p∈ps,∀l∈p.2,l.bd N
 | [],_,_,p,hp=>by simp at hp
 | x::ls,[],h,_,_=>h.elim
 | x::ls,v::vs,h,p,hp=>by
  rcases List.mem_cons.1 hp with rfl | hp
  ·obtain⟨b,ls⟩:=p;cases b with
   | true=>obtain⟨vs,_,h⟩:=h.1;exact h.bd _
   | false=>obtain⟨l,h1,h2⟩:=h.1;subst h1;intro l' hl;simp only[List.mem_singleton]at hl;subst hl;exact VL.bd _ h2
  ·exact VPs.bd ls h.2 p hp
theorem VPs.lower:(ps:List (Bool×List L))→{vs:List Value}→VPs I N G w ps vs→(∀p∈ps,∀l∈p.2,l.bd N')→VPs I N' G w ps vs
 | [],[],_,_=>trivial
 | [],_::_,h,_=>h.elim
 | x::ls,[],h,_=>h.elim
 | (true,xs)::ls,v::vs,h,b=>by
  refine⟨?_,VPs.lower ls h.2 fun p hp=>b p (List.mem_cons_of_mem _ hp)⟩;obtain⟨us,h1,h2⟩:=h.1;exact⟨us,h1,h2.lower _ (b (true,xs) (by simp))⟩
 | (false,xs)::ls,v::vs,h,b=>by
  refine⟨?_,VPs.lower ls h.2 fun p hp=>b p (List.mem_cons_of_mem _ hp)⟩;obtain⟨l,rfl,h2⟩:=h.1;exact⟨l,rfl,h2.lower _ (b (false,[l]) (by simp) l (by simp))⟩
theorem VA.bd:(x:A)→{v:Value}→VA I N G w x v→x.bd N
 | .l l,_,h=>VL.bd l h
 | .a ls,_,⟨vs,_,h⟩=>VLs.bd ls h
 | .t ps,_,⟨vs,_,h⟩=>VPs.bd ps h
theorem VA.lower:(x:A)→{v:Value}→VA I N G w x v→x.bd N'→VA I N' G w x v
 | .l l,_,h,b=>VL.lower l h b
 | .a ls,_,⟨vs,e,h⟩,b=>⟨vs,e,h.lower _ b⟩
 | .t ps,_,⟨vs,e,h⟩,b=>⟨vs,e,h.lower _ b⟩
theorem OR.bd:(o:Ob)→{id:Nat}→OR I N G w id o→o.bd N
 | .own _ _ _ _ _,_,_=>trivial
 | .box ro e cs,_,h=>by obtain⟨b,arr,_,_,h,_⟩:=h;exact h.bd _
 | .mp _ _ _,_,_=>trivial
theorem OR.lower:(o:Ob)→{id:Nat}→OR I N G w id o→o.bd N'→OR I N' G w id o
 | .own true _ _ _ _,_,h,_=>h
 | .own false _ _ _ _,_,h,_=>h
 | .box ro e cs,_,⟨b,arr,h1,h2,h3,h4⟩,hb=>⟨b,arr,h1,h2,h3.lower _ hb,h4⟩
 | .mp true _ _,_,h,_=>h
 | .mp false _ _,_,h,_=>h
structure Base (σF σ:Sg):Prop where
 len:σF.env.length=σ.env.length
 env:∀(t:Nat) (x:A),σF.env[t]? = some x→x=.l .unk∨(σ.env[t]? = some x∧x.bd σF.hp.length)
 ob:∀id o,σF.ob id=some o→o.ro=true∧σ.ob id=some o∧o.bd σF.hp.length
theorem Base.frz {σ1:Sg}(hb:Base σF σ)(f:Frz σ σ1):Base σF σ1 :=
 ⟨by rw[f.kp.env];exact hb.len,fun t x hx=>by rw[f.kp.env];exact hb.env t x hx,fun id o ho=>by
  obtain⟨h1,h2,h3⟩:=hb.ob id o ho;exact⟨h1,f.kp.ob id o h2 h1,h3⟩⟩
theorem Base.pre (hb:Base σF σ)(h:RelG E G σ a w):Pre E (Imm E G σ w) (fun _=>False) G σF a w :=
 {h with
  len:=h.len.trans hb.len.symm
  env:=fun t x hx=>by
   rcases hb.env t x hx with rfl | ⟨h1,h2⟩
   ·trivial
   ·exact(h.env t x h1).lower x h2
  obs:=fun id o ho=>by
   obtain⟨_,h1,h2⟩:=hb.ob id o ho;exact(h.obs id o h1).lower o h2
  nodup:=fun id o ho hr=>by have:=(hb.ob id o ho).1;rw[hr]at this;simp at this
  range:=fun id o ho hr=>by have:=(hb.ob id o ho).1;rw[hr]at this;simp at this
  hrange:=fun id o ho hr=>by have:=(hb.ob id o ho).1;rw[hr]at this;simp at this
  disj:=fun id id' o o' ho hr=>by have:=(hb.ob id o ho).1;rw[hr]at this;simp at this
  acc:=fun b hi=>⟨hi.1,hi.2.1⟩ }
theorem putsK_some:(ps:List (Nat × SK))→{σ:Sg}→(xs:List A)→xs.length = ps.length→∃ env,(∀ (ρ:Type) (k:Sg→Option ρ),putsK σ ps xs k = k { σ with env:=env })∧env.length = σ.env.length ∧
  (∀t,t∉ps.map (·.1)→env[t]? = σ.env[t]?)∧∀{E:En} {G:Gh} {a:Act} {w:World},RelG E G σ a w→VAs (Imm E G σ w) σ.hp.length G w xs (ps.map fun p=>a.tmps.getD p.1 undef)→RelG E G { σ with env:=env } a w
 | [],σ,[],_=>⟨σ.env,fun _ _=>rfl,rfl,fun _ _=>rfl,fun h _=>h⟩
 | (p,c)::ps,σ,x::xs,hl=>by
  obtain⟨env,h1,h2,h3,h4⟩:=putsK_some ps (σ:={ σ with env:=σ.env.set p x }) xs (by simpa using hl)
  refine⟨env,fun ρ k=>by simp only[putsK,putK,setK_eq];exact h1 ρ k,by simpa using h2,fun t ht=>?_,fun h hv=>h4 (h.refine p hv.1) hv.2⟩
  simp only[List.map_cons,List.mem_cons,not_or]at ht;rw[h3 t ht.2];simp only[List.getElem?_set];rw[if_neg (fun e=>ht.1 e.symm)]
 | [],_,_::_,hl=>by simp at hl
 | _::_,_,[],hl=>by simp at hl
theorem VAs.length' {xs:List A}{vs:List Value}(h:VAs I N G w xs vs):xs.length=vs.length:=VAs.length xs h
structure Lay (slots:List Nat) (σF σL:Sg):Prop where
 n:σF.hp.length≤σL.hp.length
 len:σL.env.length=σF.env.length
 env:∀t,t∉slots→σL.env[t]? = σF.env[t]?
 ob:∀id,id<σF.hp.length→σL.ob id=σF.ob id
theorem relay_core {ps:List (Nat × SK)} {y:SKs.den (ps.map (·.2))} {ids:List Nat} {bss:List (List Nat)} (h:RelG E G σ a w) (hb:Base σF σ) (hm:Mine σ ids) (hc:Cls G ids bss)
  (hs:SVs (Imm E G σ w) w (ps.map (·.2)) y (ps.map fun p=>a.tmps.getD p.1 undef) bss) :
  ∃σL G',(∀(ρ:Type) (k:Sg→Option ρ),layK σF ps y k=k σL)∧RelG E G' σL a w∧Lay (ps.map (·.1)) σF σL∧Keep (Imm E G σ w) (Imm E G' σL w) σF.hp.length σL.hp.length G G' w w:=by
 have hpre:=hb.pre h;have hadm:=hc.adm h hm (U:=fun _=>False) (fun _ _ _ _ hf=>hf);obtain⟨xs,σ1,G1,h1,h2,h3,h4⟩:=encSs_some _ hpre hs hadm;have hlen:xs.length=ps.length:=by rw[h3.length'];simp
 obtain⟨env,k1,k2,k3,k4⟩:=putsK_some ps (σ:=σ1) xs hlen;refine⟨_,G1,fun ρ k=>by unfold layK;rw[h1];exact k1 ρ k,k4 h2.rel (h3.keep h2.keep xs),⟨h4.n,?_,fun t ht=>?_,fun id hi=>h4.ob id hi⟩,⟨h2.imm,fun _ _=>rfl,h4.n,fun id hi=>by rw[h4.g id hi]⟩⟩
 ·show env.length=_;rw[k2,h4.env]
 ·show env[t]? = _;rw[k3 t ht,h4.env]
theorem getsA_VAs (h:RelG E G σ a w):(ps:List (Nat×SK))→VAs (Imm E G σ w) σ.hp.length G w (getsA σ ps) (ps.map fun p=>a.tmps.getD p.1 undef)
 | []=>trivial
 | p::ps=>⟨h.get (.tmp p.1),getsA_VAs h ps⟩
theorem relay {ps:List (Nat × SK)} {K:SKs.den (ps.map (·.2))→Sg→Option ρ} {r:ρ} (h:RelG E G σ a w) (hb:Base σF σ) (hk:takeSs σ (ps.map (·.2)) (getsA σ ps) K = some r) :
  ∃y σ2,K y σ2=some r∧∃σL G',(∀(ρ:Type) (k:Sg→Option ρ),layK σF ps y k=k σL)∧RelG E G' σL a w∧Lay (ps.map (·.1)) σF σL∧Keep (Imm E G σ w) (Imm E G' σL w) σF.hp.length σL.hp.length G G' w w:=by
 obtain⟨σ1,y,σ2,new,bss,f,hk,h1,tk,hs⟩:=takeSs_some _ h hk (getsA_VAs h ps);obtain⟨σL,G',q1,q2,q3,q4⟩:=relay_core h1 (hb.frz f) tk.mine tk.cls hs;exact⟨y,σ2,hk,σL,G',q1,q2,q3,⟨fun b hb=>q4.imm b (f.keep.imm b hb),fun _ _=>rfl,q4.n,q4.g⟩⟩
def erl (ws:List Nat):Nat→List A→List A
 | _,[]=>[]
 | n,a::r=>(if ws.contains n then .l .unk else a)::erl ws (n+1) r
theorem eraseK_eq (ws:List Nat):(l:List A)→(n:Nat)→(k:List A→Option ρ)→eraseK ws n l k=k (erl ws n l)
 | [],_,_=>rfl
 | a::r,n,k=>by simp only[eraseK,erl];rw[eraseK_eq ws r]
theorem erl_get (ws:List Nat):(l:List A)→(n t:Nat)→(erl ws n l)[t]? = (l[t]?).map fun x=>if ws.contains (n+t)then .l .unk else x
 | [],n,t=>by simp[erl]
 | a::r,n,0=>by simp[erl]
 | a::r,n,t+1=>by
  simp only[erl,List.getElem?_cons_succ];rw[erl_get ws r (n+1) t,show n+1+t=n+(t+1)from by omega]
theorem erl_len (ws:List Nat):(l:List A)→(n:Nat)→(erl ws n l).length=l.length
 | [],_=>rfl
 | a::r,n=>by simp only[erl,List.length_cons];rw[erl_len ws r]
def frameS (ws:List Nat)(σ:Sg):Sg:={ env:=erl ws 0 σ.env,hp:=σ.hp.map (Option.map Ob.freeze) }
theorem frameK_eq (ws:List Nat)(σ:Sg)(k:Sg→Option ρ):frameK ws σ k=k (frameS ws σ):=by
 simp only[frameK,eraseK_eq,frameS]
theorem frameS_ob (ws:List Nat)(σ:Sg)(id:Nat):(frameS ws σ).ob id=(σ.ob id).map Ob.freeze:=by
 simp only[frameS,Sg.ob,List.getElem?_map];cases σ.hp[id]?<;>rfl
theorem frameS_env (ws:List Nat)(σ:Sg){t:Nat}(ht:t∉ws):(frameS ws σ).env[t]? = σ.env[t]?:=by
 simp only[frameS,erl_get,Nat.zero_add];have:ws.contains t=false:=by simpa using ht
 rw[this];cases σ.env[t]?<;>simp
theorem freeze_ro (o:Ob):o.freeze.ro=true:=by cases o<;>rfl
theorem freeze_same {o:Ob}(h:o.ro=true):o.freeze=o:=by
 cases o with
 | own ro _ _ _ _=>simp only[Ob.ro]at h;subst h;rfl
 | box ro _ _=>simp only[Ob.ro]at h;subst h;rfl
 | mp ro _ _=>simp only[Ob.ro]at h;subst h;rfl
theorem frzAll (σ:Sg)(ids:List Nat):(n:Nat)→∃σ',Frz σ σ'∧∀id,σ'.ob id=if id<n∧id∉ids then(σ.ob id).map Ob.freeze else σ.ob id
 | 0=>⟨σ,.refl _,fun id=>by simp⟩
 | n+1=>by
  obtain⟨σ',f,h⟩:=frzAll σ ids n;by_cases hn:n∈ids
  ·refine⟨σ',f,fun id=>?_⟩;rw[h id];by_cases hid:id=n
   ·subst hid;simp[hn]
   ·have:(id<n+1∧id∉ids)↔(id<n∧id∉ids):=by constructor<;>(rintro⟨h1,h2⟩;exact⟨by omega,h2⟩)
    simp only[this]
  ·refine⟨freezeL σ' (.ref n),.step _ f,fun id=>?_⟩;have hn':σ'.ob n=σ.ob n:=by rw[h n];simp
   have key:∀id,(freezeL σ' (.ref n)).ob id=if id=n then(σ.ob n).map Ob.freeze else σ'.ob id:=fun id=>by
    simp only[freezeL,hn'];cases ho:σ.ob n with
    | none =>
     simp only;by_cases hid:id=n
     ·subst hid;rw[hn',ho];simp
     ·simp[hid]
    | some o =>
     simp only;rw[ob_setHp];have:=Sg.ob_lt (hn'.trans ho);by_cases hid:id=n<;>simp[hid,this]
   rw[key id];by_cases hid:id=n
   ·subst hid;simp[hn]
   ·rw[if_neg hid,h id];have:(id<n+1∧id∉ids)↔(id<n∧id∉ids):=by constructor<;>(rintro⟨h1,h2⟩;exact⟨by omega,h2⟩)
    simp only[this]
theorem enter_loop {ps:List (Nat × SK)} {K:SKs.den (ps.map (·.2))→Sg→Sg→Option ρ} {r:ρ} (ws:List Nat) (h:RelG E G σ a w) (hk:(takeSs σ (ps.map (·.2)) (getsA σ ps) fun s σ=>frameK ws σ (K s σ)) = some r) :
  ∃y σ1 σ2 σ3 new bss,K y σ2 (frameS ws σ2)=some r∧Frz σ σ1∧Frz σ1 σ3∧RelG E G σ1 a w∧Took G σ1 σ2 [] new bss∧Mine σ3 new∧SVs (Imm E G σ3 w) w (ps.map (·.2)) y (ps.map fun p=>a.tmps.getD p.1 undef) bss∧Base (frameS ws σ2) σ3 ∧
   (∀id o,σ3.ob id=some o→o.ro=false→id∈new)∧(∀σF,σF=frameS ws σ2→σF.hp.length=σ.hp.length∧σF.env.length=σ.env.length∧(∀t,t∈ws→∀x:A,σF.env[t]? = some x→x=.l .unk)∧(∀t,t∉ws→σF.env[t]? = σ.env[t]?) ∧
   (∀(t:Nat) (x:A),σF.env[t]? = some x→x.bd σF.hp.length)∧(∀id o,σF.ob id=some o→o.ro=true∧o.bd σF.hp.length)∧(∀id o,σ.ob id=some o→o.ro=true→σF.ob id=some o)):=by
 obtain⟨σ1,y,σ2,new,bss,f,hk,h1,tk,hs⟩:=takeSs_some _ h hk (getsA_VAs h ps);rw[frameK_eq]at hk;have hg:=tk.gone;rw[List.nil_append]at hg;obtain⟨σ3,f3,h3⟩:=frzAll σ1 new σ1.hp.length;have hr3:=f3.rel h1;have hlen:(frameS ws σ2).hp.length=σ1.hp.length:=by simp[frameS,hg.len]
 have hob:∀id o,(frameS ws σ2).ob id=some o→o.ro=true∧σ3.ob id=some o:=fun id o ho=>by
  rw[frameS_ob]at ho;cases h2:σ2.ob id with
  | none=>rw[h2]at ho;simp at ho
  | some o2 =>
   rw[h2]at ho;simp only[Option.map_some,Option.some.injEq]at ho;subst ho;obtain⟨hni,ho1⟩:=hg.sub h2;refine⟨freeze_ro _,?_⟩;rw[h3 id,if_pos ⟨Sg.ob_lt ho1,hni⟩,ho1];rfl
 have henv:∀t,t∉ws→(frameS ws σ2).env[t]? = σ.env[t]?:=fun t ht=>by rw[frameS_env ws σ2 ht,hg.env,f.kp.env]
 have herase:∀t,t∈ws→∀x:A,(frameS ws σ2).env[t]? = some x→x=.l .unk:=fun t ht x hx=>by
  simp only[frameS,erl_get,Nat.zero_add]at hx;have hc:ws.contains t=true:=by simpa using ht
  rw[hc]at hx;cases hq:σ2.env[t]? with
  | none=>rw[hq]at hx;simp at hx
  | some q=>rw[hq]at hx;simpa using hx.symm
 have hlenF:σ1.hp.length=σ.hp.length:=f.len;have hbd:∀(t:Nat) (x:A),(frameS ws σ2).env[t]? = some x→x.bd (frameS ws σ2).hp.length:=fun t x hx=>by
  by_cases ht:t∈ws
  ·rw[herase t ht x hx];trivial
  ·rw[henv t ht]at hx;rw[hlen,hlenF];exact(h.env t x hx).bd x
 have hbase:Base (frameS ws σ2) σ3:=by
  refine⟨by rw[f3.kp.env,f.kp.env];simp only[frameS,erl_len];rw[hg.env,f.kp.env],fun t x hx=>?_,fun id o ho=>?_⟩
  ·by_cases ht:t∈ws
   ·exact .inl (herase t ht x hx)
   ·refine .inr ⟨?_,hbd t x hx⟩;rw[henv t ht]at hx;rw[f3.kp.env,f.kp.env];exact hx
  ·obtain⟨k1,k2⟩:=hob id o ho;refine⟨k1,k2,?_⟩;rw[hlen,←f3.len];exact(hr3.obs id o k2).bd o
 have hm3:Mine σ3 new:=fun i hi=>by
  obtain⟨o,ho,hr⟩:=tk.mine i hi;refine⟨o,?_,hr⟩;rw[h3 i,if_neg (fun hc=>hc.2 hi)];exact ho
 have hs3:=SVs.cast (I':=Imm E G σ3 w) _ (fun _ b hb=>(f3.keep (E:=E) (G:=G) (w:=w)).imm b hb) hs;refine⟨y,σ1,σ2,σ3,new,bss,hk,f,f3,h1,tk,hm3,hs3,hbase,fun id o ho hr=>?_,fun σF hσF=>?_⟩
 ·by_cases hi:id∈new
  ·exact hi
  ·have:=h3 id;rw[ho]at this;by_cases hlt:id<σ1.hp.length
   ·rw[if_pos ⟨hlt,hi⟩]at this;obtain⟨q,_,hq⟩:=Option.map_eq_some_iff.1 this.symm;rw[←hq,freeze_ro]at hr;cases hr
   ·rw[if_neg fun hc=>hlt hc.1]at this;exact absurd (Sg.ob_lt this.symm) hlt
 ·subst hσF;refine⟨by rw[hlen,hlenF],?_,herase,henv,hbd,fun id o ho=>⟨(hob id o ho).1,(hbase.ob id o ho).2.2⟩,fun id o ho hr=>?_⟩
  ·simp only[frameS,erl_len];rw[hg.env,f.kp.env]
  ·rw[frameS_ob,tk.kp.ob id o (f.kp.ob id o ho hr) hr];simp[freeze_same hr]
def L.fr (N:Nat):L→Prop
 | .dat _ t _=>t.flat=true
 | .ref id=>N≤id
 | _=>False
def A.fr (N:Nat):A→Prop
 | .l x=>x.fr N
 | .a xs=>∀x∈xs,x.fr N
 | .t _=>False
def Ob.fr:Option Ob→Prop
 | some (.own false dp _ t _)=>dp=true∨t.flat=true
 | some (.mp false _ _)=>True
 | _=>False
theorem VL.fr {G2:Gh}{I':Nat→Prop}{w w':World}{N0 N:Nat}(hg:∀id,N0≤id→(G2 id).1=(G id).1):(l:L)→{v:Value}→l.fr N0→VL I N G w l v→VL I' N G2 w' l v
 | .dat nn t x,v,hf,⟨⟨cs,h1,h2⟩,h3⟩=>⟨⟨cs,flat_RdC t hf h1,h2⟩,h3⟩
 | .ref id,v,hf,h=>⟨h.1,by rw[hg id hf];exact h.2⟩
 | .unk,_,h,_=>h.elim
 | .nils,_,h,_=>h.elim
 | .cptr _ _,_,h,_=>h.elim
 | .optr _ _ _,_,h,_=>h.elim
 | .bptr _ _,_,h,_=>h.elim
 | .fn _,_,h,_=>h.elim
 | .clo _ _,_,h,_=>h.elim
 | .und,_,h,_=>h.elim
 | .sub _ _ _ _,_,h,_=>h.elim
 | .full _ _,_,h,_=>h.elim
theorem VLs.fr {G2:Gh}{I':Nat→Prop}{w w':World}{N0 N:Nat}(hg:∀id,N0≤id→(G2 id).1=(G id).1):(ls:List L)→{vs:List Value}→(∀l∈ls,l.fr N0)→VLs I N G w ls vs→VLs I' N G2 w' ls vs
 | [],[],_,_=>trivial
 | l::ls,v::vs,hf,h=>⟨⟨VL.fr hg l (hf l (by simp)) h.1.1,h.1.2⟩,VLs.fr hg ls (fun x hx=>hf x (List.mem_cons_of_mem _ hx)) h.2⟩
 | [],_::_,_,h=>h.elim
 | _::_,[],_,h=>h.elim
theorem VA.fr {G2:Gh}{I':Nat→Prop}{w w':World}{N0 N:Nat}(hg:∀id,N0≤id→(G2 id).1=(G id).1):(x:A)→{v:Value}→x.fr N0→VA I N G w x v→VA I' N G2 w' x v
 | .l l,_,hf,h=>VL.fr hg l hf h
 | .a ls,_,hf,⟨vs,h1,h2⟩=>⟨vs,h1,VLs.fr hg ls hf h2⟩
 | .t _,_,hf,_=>hf.elim
theorem encL_free (c:LK)(hc:c.alias=false)(x:c.den)(N:Nat):∃l news,(∀σ:Sg,σ.hp.length=N→∀(ρ:Type) (k:L→Sg→Option ρ),encL σ c x k=k l { env:=σ.env,hp:=σ.hp++news })∧l.fr N∧∀o∈news,Ob.fr o:=by
 cases c with
 | d nn t =>
  refine⟨.dat nn t x,[],fun σ _ ρ k=>by simp only[encL,List.append_nil],?_,by simp⟩
  show t.flat=true;simpa[LK.alias]using hc
 | o dp e t =>
  refine⟨.ref N,[some (.own false dp e t x)],fun σ hσ ρ k=>by simp only[encL,addHp,hσ],Nat.le_refl _,fun o ho=>?_⟩
  simp only[List.mem_singleton]at ho;subst ho;simp only[LK.alias,Bool.and_eq_false_iff,Bool.not_eq_false']at hc;exact hc
 | m n =>
  refine⟨.ref N,[some (.mp false n x)],fun σ hσ ρ k=>by simp only[encL,addHp,hσ],Nat.le_refl _,fun o ho=>?_⟩
  simp only[List.mem_singleton]at ho;subst ho;exact trivial
theorem L.fr.mono {N N':Nat}(hn:N≤N'):(l:L)→l.fr N'→l.fr N
 | .dat _ _ _,h=>h
 | .ref id,h=>Nat.le_trans hn h
 | .unk,h=>h.elim
 | .nils,h=>h.elim
 | .cptr _ _,h=>h.elim
 | .optr _ _ _,h=>h.elim
 | .bptr _ _,h=>h.elim
 | .fn _,h=>h.elim
 | .clo _ _,h=>h.elim
 | .und,h=>h.elim
 | .sub _ _ _ _,h=>h.elim
 | .full _ _,h=>h.elim
theorem A.fr.mono {N N':Nat}(hn:N≤N'):(x:A)→x.fr N'→x.fr N
 | .l q,h=>L.fr.mono hn q h
 | .a _,h=>fun q hq=>L.fr.mono hn q (h q hq)
 | .t _,h=>h.elim
theorem encLs_free:(cs:List LK)→(cs.all fun c=>!c.alias)=true→(x:LKs.den cs)→(N:Nat)→∃ls news,(∀σ:Sg,σ.hp.length=N→∀(ρ:Type) (k:List L→Sg→Option ρ),encLs σ cs x k=k ls { env:=σ.env,hp:=σ.hp++news })∧(∀l∈ls,l.fr N)∧∀o∈news,Ob.fr o
 | [],_,x,N=>⟨[],[],fun σ _ ρ k=>by simp only[encLs,List.append_nil],by simp,by simp⟩
 | [c],hc,x,N=>by
  simp only[List.all_cons,List.all_nil,Bool.and_true,Bool.not_eq_true']at hc;obtain⟨l,news,h1,h2,h3⟩:=encL_free c hc x N;exact⟨[l],news,fun σ hσ ρ k=>by simp only[encLs];rw[h1 σ hσ],by simpa using h2,h3⟩
 | c::c'::r,hc,x,N=>by
  simp only[List.all_cons,Bool.and_eq_true,Bool.not_eq_true']at hc;obtain⟨l,news,h1,h2,h3⟩:=encL_free c hc.1 x.1 N;obtain⟨ls,news2,k1,k2,k3⟩:=encLs_free (c'::r) (by simp only[List.all_cons,Bool.and_eq_true,Bool.not_eq_true'];exact hc.2) x.2 (N+news.length)
  refine⟨l::ls,news++news2,fun σ hσ ρ k=>?_,fun y hy=>?_,fun o ho=>?_⟩
  ·simp only[encLs];rw[h1 σ hσ,k1 _ (by simp[hσ])]
   simp only[List.append_assoc]
  ·rcases List.mem_cons.1 hy with rfl | hy
   ·exact h2
   ·exact L.fr.mono (Nat.le_add_right _ _) _ (k2 y hy)
  ·rcases List.mem_append.1 ho with ho | ho
   ·exact h3 o ho
   ·exact k3 o ho
theorem encS_free (c:SK)(hc:c.free=true)(x:c.den)(N:Nat):∃y news,(∀σ:Sg,σ.hp.length=N→∀(ρ:Type) (k:A→Sg→Option ρ),encS σ c x k=k y { env:=σ.env,hp:=σ.hp++news })∧y.fr N∧∀o∈news,Ob.fr o:=by
 cases c with
 | l c =>
  simp only[SK.free,Bool.not_eq_true']at hc;obtain⟨l,news,h1,h2,h3⟩:=encL_free c hc x N;exact⟨.l l,news,fun σ hσ ρ k=>by simp only[encS];rw[h1 σ hσ],h2,h3⟩
 | a cs =>
  obtain⟨ls,news,h1,h2,h3⟩:=encLs_free cs hc x N;exact⟨.a ls,news,fun σ hσ ρ k=>by simp only[encS];rw[h1 σ hσ],h2,h3⟩
 | b e cs=>simp[SK.free]at hc
theorem encSs_free:(cs:List SK)→(cs.all SK.free)=true→(x:SKs.den cs)→(N:Nat)→∃ys news,(∀σ:Sg,σ.hp.length=N→∀(ρ:Type) (k:List A→Sg→Option ρ),encSs σ cs x k=k ys { env:=σ.env,hp:=σ.hp++news })∧ys.length=cs.length∧(∀y∈ys,y.fr N)∧∀o∈news,Ob.fr o
 | [],_,x,N=>⟨[],[],fun σ _ ρ k=>by simp only[encSs,List.append_nil],rfl,by simp,by simp⟩
 | [c],hc,x,N=>by
  simp only[List.all_cons,List.all_nil,Bool.and_true]at hc;obtain⟨l,news,h1,h2,h3⟩:=encS_free c hc x N;exact⟨[l],news,fun σ hσ ρ k=>by simp only[encSs];rw[h1 σ hσ],rfl,by simpa using h2,h3⟩
 | c::c'::r,hc,x,N=>by
  simp only[List.all_cons,Bool.and_eq_true]at hc;obtain⟨l,news,h1,h2,h3⟩:=encS_free c hc.1 x.1 N;obtain⟨ls,news2,k1,k0,k2,k3⟩:=encSs_free (c'::r) (by simp only[List.all_cons,Bool.and_eq_true];exact hc.2) x.2 (N+news.length)
  refine⟨l::ls,news++news2,fun σ hσ ρ k=>?_,by simp[k0],fun y hy=>?_,fun o ho=>?_⟩
  ·simp only[encSs];rw[h1 σ hσ,k1 _ (by simp[hσ])]
   simp only[List.append_assoc]
  ·rcases List.mem_cons.1 hy with rfl | hy
   ·exact h2
   ·exact A.fr.mono (Nat.le_add_right _ _) _ (k2 y hy)
  ·rcases List.mem_append.1 ho with ho | ho
   ·exact h3 o ho
   ·exact k3 o ho
theorem putsK_same:(ps:List (Nat × SK))→(xs:List A)→xs.length = ps.length→(env0:List A)→∃ env,(∀ (hp:List (Option Ob)) (ρ:Type) (k:Sg→Option ρ),putsK { env:=env0,hp:=hp } ps xs k = k { env:=env,hp:=hp })∧env.length = env0.length ∧
  (∀t,t∉ps.map (·.1)→env[t]? = env0[t]?)∧∀(P:A→Prop),(∀x∈xs,P x)→∀t,t∈ps.map (·.1)→∀x,env[t]? = some x→P x
 | [],[],_,env0=>⟨env0,fun _ _ _=>rfl,rfl,fun _ _=>rfl,fun P hP t ht=>by simp at ht⟩
 | (p,c)::ps,x::xs,hl,env0=>by
  obtain⟨env,h1,h2,h3,h4⟩:=putsK_same ps xs (by simpa using hl) (env0.set p x)
  refine⟨env,fun hp ρ k=>by simp only[putsK,putK,setK_eq];exact h1 hp ρ k,by simpa using h2,fun t ht=>?_,fun P hP t ht y hy=>?_⟩
  ·simp only[List.map_cons,List.mem_cons,not_or]at ht;rw[h3 t ht.2,List.getElem?_set,if_neg (fun e=>ht.1 e.symm)]
  ·by_cases hm:t∈ps.map (·.1)
   ·exact h4 P (fun z hz=>hP z (List.mem_cons_of_mem _ hz)) t hm y hy
   ·simp only[List.map_cons,List.mem_cons]at ht;rcases ht with rfl | ht
    ·rw[h3 _ hm,List.getElem?_set,if_pos rfl]at hy;split at hy
     ·obtain rfl:=Option.some.inj hy;exact hP _ (by simp)
     ·cases hy
    ·exact absurd ht hm
 | [],_::_,hl,_=>by simp at hl
 | _::_,[],hl,_=>by simp at hl
theorem layK_free (ps:List (Nat × SK)) (hf:(ps.all fun p=>p.2.free) = true) (y:SKs.den (ps.map (·.2))) (env0:List A) (N:Nat):∃ env news,(∀ hp:List (Option Ob),hp.length = N→∀ (ρ:Type) (k:Sg→Option ρ),layK { env:=env0,hp:=hp } ps y k = k { env:=env,hp:=hp ++ news }) ∧
  env.length=env0.length∧(∀t,t∉ps.map (·.1)→env[t]? = env0[t]?)∧(∀t,t∈ps.map (·.1)→∀x,env[t]? = some x→x.fr N)∧∀o∈news,Ob.fr o:=by
 have hf':((ps.map (·.2)).all SK.free)=true:=by rw[List.all_map];exact hf
 obtain⟨ys,news,h1,h0,h2,h3⟩:=encSs_free (ps.map (·.2)) hf' y N;obtain⟨env,k1,k2,k3,k4⟩:=putsK_same ps ys (by simpa using h0) env0
 refine⟨env,news,fun hp hl ρ k=>?_,k2,k3,fun t ht x hx=>k4 (fun x=>x.fr N) h2 t ht x hx,h3⟩;unfold layK;rw[h1 { env:=env0,hp:=hp } hl];exact k1 _ ρ k
def Rb (E:En)(G:Gh)(σ:Sg)(a:Act)(w:World)(F:Nat→Prop):En :=
 ⟨w,fun b=>Imm E G σ w b∨∃id o,σ.ob id=some o∧o.ro=false∧b∈(G id).2,fun b=>∃id o,σ.ob id=some o∧o.ro=false∧b∈(G id).2,fun b=>∃id o,σ.ob id=some o∧o.ro=false∧(G id).2.head? = some b,
  fun t=>E.F t∨F t,fun t=>a.tmps.getD t undef,E.d⟩
theorem RelG.rebase (h:RelG E G σ a w)(F:Nat→Prop):RelG (Rb E G σ a w F) G σ a w:=by
 have k:Keep (Imm E G σ w) (Imm (Rb E G σ a w F) G σ w) σ.hp.length σ.hp.length G G w w:=⟨fun b hb=>⟨hb.1,fun _=>.inl hb,hb.2.2⟩,fun _ _=>rfl,Nat.le_refl _,fun _ _=>rfl⟩;exact
 {defers:=h.defers
  len:=h.len
  env:=fun t x hx=>(h.env t x hx).keep k x
  obs:=fun id o ho=>(h.obs id o ho).keep k (Sg.ob_lt ho) rfl o fun _ _ _=>rfl
  nodup:=h.nodup
  range:=fun id o ho hr b hb=>⟨(h.range id o ho hr b hb).1,fun _=>⟨id,o,ho,hr,hb⟩⟩
  hrange:=fun id o ho hr b hb _=>⟨id,o,ho,hr,hb⟩
  disj:=h.disj
  os:=rfl
  tape:=rfl
  output:=.refl _
  size:=Nat.le_refl _
  frame:=fun _ _ _=>rfl
  xa:=⟨fun b hb=>.inr hb,h.gl,fun b ⟨id,o,ho,hr,hb⟩=>h.gb ho hr b hb,fun b ⟨id,o,ho,hr,hb⟩=>h.gb ho hr b (List.mem_of_mem_head? hb)⟩
  fixd:=fun _ _=>rfl }
theorem loose_join {σ1 σ2 σ3:Sg} {ws:List Nat} {F:Nat→Prop} {new:List Nat} {bss:List (List Nat)} {a':Act} {w':World} {ps:List (Nat × SK)} {y:SKs.den (ps.map (·.2))} {GL:Gh} {σL:Sg}
  (h1:RelG E G σ1 a w) (tk:Took G σ1 σ2 [] new bss) (h3:RelG E G σ3 a w) (h13:Frz σ1 σ3) (hmine:∀id o,σ3.ob id=some o→o.ro=false→id∈new)
  (hFw:∀t,t∉ws→E.F t∨F t) (hbw:∀t∈ps.map (·.1),t∈ws) (hf:(ps.all fun p=>p.2.free)=true)
  (hl:∀(ρ:Type) (k:Sg→Option ρ),layK (frameS ws σ2) ps y k=k σL) (hr:RelG (Rb E G σ3 a w F) GL σL a' w')
  (hkp:Keep (Imm (Rb E G σ3 a w F) G σ3 w) (Imm (Rb E G σ3 a w F) GL σL w') (frameS ws σ2).hp.length σL.hp.length G GL w w') :
  ∃σB G2,(∀(ρ:Type) (k:Sg→Option ρ),layK { env:=(frameS ws σ2).env,hp:=σ2.hp } ps y k=k σB)∧RelG E G2 σB a' w'∧σ1.hp.length≤σB.hp.length∧σB.env.length=σ1.env.length∧(∀t,t∉ws→σB.env[t]? = σ1.env[t]?) ∧
   (∀id o,σ1.ob id=some o→o.ro=true→σB.ob id=some o)∧Keep (Imm E G σ1 w) (Imm E G2 σB w') σ1.hp.length σB.hp.length G G2 w w':=by
 have hg:=tk.gone;rw[List.nil_append]at hg;have hN:σ2.hp.length=σ1.hp.length:=hg.len;have hFN:(frameS ws σ2).hp.length=σ1.hp.length:=by simp[frameS,hN]
 obtain⟨env,news,q1,q2,q3,q4,q5⟩:=layK_free ps hf y (frameS ws σ2).env σ1.hp.length;have eL:σL={ env:=env,hp:=(frameS ws σ2).hp++news }:=by
  have e1:=hl Sg some;rw[q1 _ hFN]at e1;exact(Option.some.inj e1).symm
 let σB:Sg:={ env:=env,hp:=σ2.hp++news }
 have hBl:σB.hp.length=σL.hp.length:=by rw[eL];simp[σB,hFN,hN]
 have obB:∀id,σB.ob id=if id<σ1.hp.length then σ2.ob id else σL.ob id:=fun id=>by
  by_cases hi:id<σ1.hp.length
  ·rw[if_pos hi];show((σ2.hp++news)[id]?).join=_;rw[List.getElem?_append_left (by omega)];rfl
  ·rw[if_neg hi,eL];show((σ2.hp++news)[id]?).join=(((frameS ws σ2).hp++news)[id]?).join;rw[List.getElem?_append_right (by omega),List.getElem?_append_right (by omega),hN,hFN]
 have obL:∀id o,¬id<σ1.hp.length→σL.ob id=some o→Ob.fr (some o):=fun id o hi ho=>by
  rw[eL]at ho;have ho:(((frameS ws σ2).hp++news)[id]?).join=some o:=ho;rw[List.getElem?_append_right (by omega)]at ho
  cases hx:news[id-(frameS ws σ2).hp.length]? with
  | none=>rw[hx]at ho;cases ho
  | some z =>
   rw[hx]at ho;have:z=some o:=ho;subst this;exact q5 _ (List.mem_of_getElem? hx)
 let G2:Gh:=fun id=>if id<σ1.hp.length then G id else GL id
 have g2o:∀id,id<σ1.hp.length→G2 id=G id:=fun id hi=>by simp only[G2,if_pos hi]
 have g2n:∀id,¬id<σ1.hp.length→G2 id=GL id:=fun id hi=>by simp only[G2,if_neg hi]
 have imm3:∀b,Imm E G σ1 w b→Imm E G σ3 w b:=fun b hb=>h13.keep.imm b hb;have toR:∀b,Imm E G σ3 w b→Imm (Rb E G σ3 a w F) G σ3 w b:=fun b hb=>⟨hb.1,fun _=>.inl hb,hb.2.2⟩;have same:∀b,Imm E G σ3 w b→w'.heap[b]? = w.heap[b]?:=fun b hb=>hkp.heap b (toR b hb);have own3:∀id o,σ2.ob id=some o→o.ro=false→∀b∈(G id).2,Imm E G σ3 w b:=fun id o ho hro b hb=>by
  obtain⟨hni,ho1⟩:=hg.sub ho;refine⟨(h1.range id o ho1 hro b hb).1,fun hB=>h1.xa.a b ((h1.range id o ho1 hro b hb).2 hB),fun i q hq hqr hh=>?_⟩;have hin:=hmine i q hq hqr;obtain⟨oi,hoi,hri⟩:=tk.mine i hin;exact h1.disj id i o oi ho1 hro hoi hri (fun e=>hni (e▸hin)) b hb (List.mem_of_mem_head? hh)
 have rX:∀b,(Rb E G σ3 a w F).X b→∃i∈new,b∈(G i).2:=fun b ⟨id,o,k1,k2,k3⟩=>⟨id,hmine id o k1 k2,k3⟩;have rH:∀b,(Rb E G σ3 a w F).H b→∃i∈new,(G i).2.head? = some b:=fun b ⟨id,o,k1,k2,k3⟩=>⟨id,hmine id o k1 k2,k3⟩;have hsz:w.heap.size≤w'.heap.size:=hr.size;have himm:∀b,Imm E G σ1 w b→Imm E G2 σB w' b:=fun b hb=>by
  refine⟨Nat.lt_of_lt_of_le hb.1 hsz,hb.2.1,fun id o ho hro hh=>?_⟩;rw[obB]at ho;by_cases hi:id<σ1.hp.length
  ·rw[if_pos hi]at ho;rw[g2o id hi]at hh;exact hb.2.2 id o (hg.sub ho).2 hro hh
  ·rw[if_neg hi]at ho;rw[g2n id hi]at hh;obtain⟨i,hin,hx⟩:=rH b (hr.hrange id o ho hro b hh hb.1);obtain⟨oi,hoi,hri⟩:=tk.mine i hin;exact hb.2.2 i oi hoi hri hx
 have keep:Keep (Imm E G σ1 w) (Imm E G2 σB w') σ1.hp.length σB.hp.length G G2 w w' :=
  ⟨himm,fun b hb=>same b (imm3 b hb),by simp[σB,hN],fun id hi=>by rw[g2o id hi]⟩
 have envF:∀t,t∉ws→(frameS ws σ2).env[t]? = σ1.env[t]?:=fun t ht=>by rw[frameS_env ws σ2 ht,hg.env]
 refine⟨σB,G2,fun ρ k=>q1 σ2.hp hN ρ k,?_,by simp[σB,hN],?_,fun t ht=>?_,fun id o ho hro=>?_,keep⟩
 ·refine { defers := hr.defers, len := ?_, env := fun t x hx => ?_, obs := fun id o ho => ?_, nodup := fun id o ho hro => ?_, range := fun id o ho hro b hb => ?_, hrange := fun id o ho hro b hb hB => ?_,
           disj:=fun i j o1 o2 ho1 hr1 ho2 hr2 hij b hb hb2=>?_,os:=hr.os.trans h1.os,tape:=hr.tape.trans h1.tape,output:=hr.output.trans h1.output,size:=Nat.le_trans h1.size hr.size,
           frame:=fun b hb hH=>?_,xa:=h1.xa,fixd:=fun t ht=>?_ }
  ·have:=hr.len;rw[eL]at this;exact this
  ·have hx:env[t]? = some x:=hx;have hv:=hr.env t x (by rw[eL];exact hx)
   by_cases hm:t∈ps.map (·.1)
   ·have hfr:=q4 t hm x hx;rw[hBl];exact VA.fr (N0:=σ1.hp.length) (fun id hi=>by rw[g2n id (by omega)]) x hfr hv
   ·rw[q3 t hm]at hx;by_cases hw:t∈ws
    ·have:x=.l .unk:=by
      simp only[frameS,erl_get,Nat.zero_add]at hx;have hc:ws.contains t=true:=by simpa using hw
      rw[hc]at hx;cases hq:σ2.env[t]? with
      | none=>rw[hq]at hx;simp at hx
      | some q=>rw[hq]at hx;simpa using hx.symm
     subst this;trivial
    ·rw[envF t hw]at hx;have hfx:=hr.fixd t (hFw t hw);have hfx:a'.tmps.getD t undef=a.tmps.getD t undef:=hfx;rw[hfx];exact(h1.env t x hx).keep keep x
  ·rw[obB]at ho;by_cases hi:id<σ1.hp.length
   ·rw[if_pos hi]at ho;have ho1:=(hg.sub ho).2;exact(h1.obs id o ho1).keep keep hi (g2o id hi) o fun hro b hb=>same b (own3 id o ho hro b hb)
   ·rw[if_neg hi]at ho;have hfr:=obL id o hi ho;have hor:=hr.obs id o ho;cases o with
    | own ro dp e t x =>
     cases ro with
     | true=>exact hfr.elim
     | false =>
      simp only[OR]at hor ⊢;rw[g2n id hi];have hfr:dp=true∨t.flat=true:=hfr;obtain⟨hl',cells,bss',k1,k2,k3,k4,k5⟩:=hor;refine⟨hl',cells,bss',k1,k2,k3,k4,fun i y hi=>?_⟩;obtain⟨ys,y1,y2,y3⟩:=k5 i y hi;refine⟨ys,y1,y2,?_⟩;cases dp with
      | true=>simpa using y3
      | false =>
       rcases hfr with hfr | hfr
       ·cases hfr
       ·simp only[Bool.false_eq_true,if_false]at y3 ⊢;exact flat_RdC t hfr y3
    | box ro e cs=>exact hfr.elim
    | mp ro n xs =>
     cases ro with
     | true=>exact hfr.elim
     | false =>
      simp only[OR]at hor ⊢;rw[g2n id hi];exact hor
  ·rw[obB]at ho;by_cases hi:id<σ1.hp.length
   ·rw[if_pos hi]at ho;rw[g2o id hi];exact h1.nodup id o (hg.sub ho).2 hro
   ·rw[if_neg hi]at ho;rw[g2n id hi];exact hr.nodup id o ho hro
  ·rw[obB]at ho;by_cases hi:id<σ1.hp.length
   ·rw[if_pos hi]at ho;rw[g2o id hi]at hb;have:=h1.range id o (hg.sub ho).2 hro b hb;exact⟨Nat.lt_of_lt_of_le this.1 hsz,this.2⟩
   ·rw[if_neg hi]at ho;rw[g2n id hi]at hb;have:=hr.range id o ho hro b hb;refine⟨this.1,fun hB=>?_⟩;obtain⟨i,hin,hx⟩:=rX b (this.2 (Nat.lt_of_lt_of_le hB h1.size));obtain⟨oi,hoi,hri⟩:=tk.mine i hin;exact(h1.range i oi hoi hri b hx).2 hB
  ·rw[obB]at ho;by_cases hi:id<σ1.hp.length
   ·rw[if_pos hi]at ho;rw[g2o id hi]at hb;exact h1.hrange id o (hg.sub ho).2 hro b hb hB
   ·rw[if_neg hi]at ho;rw[g2n id hi]at hb;obtain⟨i,hin,hx⟩:=rH b (hr.hrange id o ho hro b hb (Nat.lt_of_lt_of_le hB h1.size));obtain⟨oi,hoi,hri⟩:=tk.mine i hin;exact h1.hrange i oi hoi hri b hx hB
  ·have cross:∀(i j:Nat) (o1 o2:Ob),σ2.ob i=some o1→o1.ro=false→σL.ob j=some o2→o2.ro=false→b∈(G i).2→b∈(GL j).2→False:=fun i j o1 o2 p1 p2 p3 p4 p5 p6=>by
    obtain⟨hni,p1'⟩:=hg.sub p1;have hlt:=(h1.range i o1 p1' p2 b p5).1;obtain⟨m,hin,hx⟩:=rX b ((hr.range j o2 p3 p4 b p6).2 hlt);obtain⟨om,hom,hrm⟩:=tk.mine m hin;exact h1.disj i m o1 om p1' p2 hom hrm (fun e=>hni (e▸hin)) b p5 hx
   rw[obB]at ho1 ho2;by_cases hi:i<σ1.hp.length<;>by_cases hj:j<σ1.hp.length
   ·rw[if_pos hi]at ho1;rw[if_pos hj]at ho2;rw[g2o i hi]at hb;rw[g2o j hj]at hb2;exact h1.disj i j o1 o2 (hg.sub ho1).2 hr1 (hg.sub ho2).2 hr2 hij b hb hb2
   ·rw[if_pos hi]at ho1;rw[if_neg hj]at ho2;rw[g2o i hi]at hb;rw[g2n j hj]at hb2;exact cross i j o1 o2 ho1 hr1 ho2 hr2 hb hb2
   ·rw[if_neg hi]at ho1;rw[if_pos hj]at ho2;rw[g2n i hi]at hb;rw[g2o j hj]at hb2;exact cross j i o2 o1 ho2 hr2 ho1 hr1 hb2 hb
   ·rw[if_neg hi]at ho1;rw[if_neg hj]at ho2;rw[g2n i hi]at hb;rw[g2n j hj]at hb2;exact hr.disj i j o1 o2 ho1 hr1 ho2 hr2 hij b hb hb2
  ·have hlt:b<w.heap.size:=Nat.lt_of_lt_of_le hb h1.size;have e1:=hr.frame b hlt fun hx=>by
    obtain⟨i,hin,hx⟩:=rH b hx;obtain⟨oi,hoi,hri⟩:=tk.mine i hin;exact hH (h1.hrange i oi hoi hri b hx hb)
   exact e1.trans (h1.frame b hb hH)
  ·have hfx:a'.tmps.getD t undef=a.tmps.getD t undef:=hr.fixd t (.inl ht);rw[hfx];exact h1.fixd t ht
 ·show env.length=_;rw[q2];simp only[frameS,erl_len];rw[hg.env]
 ·show env[t]? = _;rw[q3 t (fun hm=>ht (hbw t hm)),envF t ht]
 ·rw[obB,if_pos (Sg.ob_lt ho)];have:=tk.kp.ob id o ho hro;exact this
end
open Go
set_option linter.all false
section
variable {ρ:Type}{C:Ctx}{σ:Sg}
theorem rdL_nat {t:Ty}{x:L}(k:t.den→Option ρ):rdL σ t x k=(rdL σ t x some).bind k:=by
 cases x with
 | nils=>cases t<;>simp[rdL]
 | dat nn t' y=>simp[rdL]
 | ref id =>
  simp only[rdL];split
  ·simp
  ·rfl
 | _=>simp[rdL]
theorem rdLs_nat:(t:Ty)→(ls:List L)→(ρ:Type)→(k:t.den→List L→Option ρ)→rdLs σ t ls k=(rdLs σ t ls fun y r=>some (y,r)).bind fun p=>k p.1 p.2
 | .prod a b,ls,ρ,k=>by
  simp only[rdLs];rw[rdLs_nat a ls ρ,rdLs_nat a ls ((Ty.prod a b).den×List L)];rw[Option.bind_assoc];congr 1
  funext p
  rw[rdLs_nat b p.2 ρ,rdLs_nat b p.2 ((Ty.prod a b).den×List L),Option.bind_assoc];rfl
 | .int kd,x::r,ρ,k=>by simp only[rdLs];rw[rdL_nat (ρ:=ρ),rdL_nat (ρ:=(Ty.int kd).den×List L),Option.bind_assoc];rfl
 | .bool,x::r,ρ,k=>by simp only[rdLs];rw[rdL_nat (ρ:=ρ),rdL_nat (ρ:=Ty.bool.den×List L),Option.bind_assoc];rfl
 | .str,x::r,ρ,k=>by simp only[rdLs];rw[rdL_nat (ρ:=ρ),rdL_nat (ρ:=Ty.str.den×List L),Option.bind_assoc];rfl
 | .list t,x::r,ρ,k=>by simp only[rdLs];rw[rdL_nat (ρ:=ρ),rdL_nat (ρ:=(Ty.list t).den×List L),Option.bind_assoc];rfl
 | .int _,[],ρ,k=>by simp[rdLs]
 | .bool,[],ρ,k=>by simp[rdLs]
 | .str,[],ρ,k=>by simp[rdLs]
 | .list _,[],ρ,k=>by simp[rdLs]
theorem rdA_nat {t:Ty}{x:A}(k:t.den→Option ρ):rdA σ t x k=(rdA σ t x some).bind k:=by
 cases x with
 | l x=>exact rdL_nat k
 | a ls =>
  cases t with
  | prod p q =>
   simp only[rdA];rw[rdLs_nat _ _ ρ,rdLs_nat _ _ (Ty.prod p q).den,Option.bind_assoc];congr 1
   funext z
   split<;>rfl
  | _=>rfl
 | t _=>rfl
theorem nnL_nat {t:Ty}{x:L}{y:t.den}(k:Option ρ):nnL t x y k=(nnL t x y (some ())).bind fun _=>k:=by
 unfold nnL;repeat' split
 all_goals simp[Option.bind_assoc]
theorem nnA_nat {nn:Bool}{t:Ty}{x:A}{y:t.den}(k:Option ρ):nnA nn t x y k=(nnA nn t x y (some ())).bind fun _=>k:=by
 unfold nnA;split
 ·split
  ·exact nnL_nat k
  ·rfl
 ·rfl
theorem tkO_nat {dp:Bool}{e:TypeId}{t:Ty}{x:L}(k:List t.den→Sg→Option ρ):tkO σ dp e t x k=(tkO σ dp e t x fun y s=>some (y,s)).bind fun p=>k p.1 p.2:=by
 unfold tkO;repeat' split
 all_goals simp[Option.bind_assoc]
theorem intOpK_nat {op:BinOp}{kd:IntKind}{p q:Int}(k:A→Option ρ):intOpK op kd p q k=(intOpK op kd p q some).bind k:=by
 unfold intOpK;split<;>simp[Option.bind_assoc]
theorem nilK_nat {x:L}(k:Bool→Option ρ):nilK σ x k=(nilK σ x some).bind k:=by
 unfold nilK;repeat' split
 all_goals simp[Option.bind_assoc]
theorem binK_nat {op:BinOp}{t:TypeId}{x y:A}(k:A→Option ρ):binK C op t σ x y k=(binK C op t σ x y some).bind k:=by
 unfold binK;split
 ·split
  ·simp[Option.bind_assoc]
  ·simp[Option.bind_assoc]
  ·split
   ·exact intOpK_nat k
   ·rfl
 ·split<;>simp[Option.bind_assoc]
 ·split
  ·split<;>simp
  ·rfl
 ·split
  ·split
   ·rw[nilK_nat,nilK_nat (ρ:=A),Option.bind_assoc];rfl
   ·rw[nilK_nat,nilK_nat (ρ:=A),Option.bind_assoc];rfl
   ·rfl
  ·rfl
 ·rfl
theorem unK_nat {op:UnOp}{x:A}(k:A→Option ρ):unK op x k=(unK op x some).bind k:=by
 unfold unK;split<;>simp
theorem fieldK_nat:(n:Nat)→(t:Ty)→(x:t.den)→(i off:Nat)→(k:(t':Ty)→t'.den→Nat→Option ρ)→fieldK n t x i off k=(fieldK n t x i off fun t' y o=>some (⟨t',y,o⟩:(t':Ty)×t'.den×Nat)).bind fun p=>k p.1 p.2.1 p.2.2
 | 0,t,x,i,off,k=>by simp[fieldK]
 | 1,t,x,0,off,k=>by simp[fieldK]
 | 1,t,x,i+1,off,k=>by simp[fieldK]
 | n+2,.prod a b,x,0,off,k=>by simp[fieldK]
 | n+2,.prod a b,x,i+1,off,k=>by simp only[fieldK];exact fieldK_nat (n+1) b x.2 i (off+a.wid) k
 | n+2,.int _,x,i,off,k=>by simp[fieldK]
 | n+2,.bool,x,i,off,k=>by simp[fieldK]
 | n+2,.str,x,i,off,k=>by simp[fieldK]
 | n+2,.list _,x,i,off,k=>by simp[fieldK]
theorem fieldAddrK_nat {s:TypeId}{f:Nat}{x:A}(k:A→Option ρ):fieldAddrK C s f x k=(fieldAddrK C s f x some).bind k:=by
 unfold fieldAddrK;repeat' split
 all_goals first
  | rfl
  | (rw[fieldK_nat,fieldK_nat (ρ:=A),Option.bind_assoc];congr 1;funext p;split<;>rfl)
theorem indexAddrK_nat {t:TypeId}{x i:A}(k:A→Option ρ):indexAddrK C σ t x i k=(indexAddrK C σ t x i some).bind k:=by
 unfold indexAddrK;repeat' split
 all_goals simp[Option.bind_assoc]
theorem loadK_nat {t:TypeId}{x:A}(k:A→Option ρ):loadK C σ t x k=(loadK C σ t x some).bind k:=by
 unfold loadK;repeat' split
 all_goals simp[Option.bind_assoc]
theorem tkLs_nat (dp:Bool):(t:Ty)→(σ:Sg)→(ls:List L)→(ρ:Type)→(k:t.den→List L→Sg→Option ρ)→tkLs dp t σ ls k=(tkLs dp t σ ls fun y r s=>some (y,r,s)).bind fun p=>k p.1 p.2.1 p.2.2
 | .prod a b,σ,ls,ρ,k=>by
  simp only[tkLs];rw[tkLs_nat dp a σ ls ρ,tkLs_nat dp a σ ls ((Ty.prod a b).den×List L×Sg),Option.bind_assoc];congr 1
  funext p
  rw[tkLs_nat dp b _ _ ρ,tkLs_nat dp b _ _ ((Ty.prod a b).den×List L×Sg),Option.bind_assoc];rfl
 | .list t,σ,x::r,ρ,k=>by
  simp only[tkLs];split
  ·repeat' split
   all_goals simp[Option.bind_assoc]
  ·rw[rdL_nat (ρ:=ρ),rdL_nat (ρ:=(Ty.list t).den×List L×Sg),Option.bind_assoc];rfl
 | .int kd,σ,x::r,ρ,k=>by simp only[tkLs];rw[rdL_nat (ρ:=ρ),rdL_nat (ρ:=(Ty.int kd).den×List L×Sg),Option.bind_assoc];rfl
 | .bool,σ,x::r,ρ,k=>by simp only[tkLs];rw[rdL_nat (ρ:=ρ),rdL_nat (ρ:=Ty.bool.den×List L×Sg),Option.bind_assoc];rfl
 | .str,σ,x::r,ρ,k=>by simp only[tkLs];rw[rdL_nat (ρ:=ρ),rdL_nat (ρ:=Ty.str.den×List L×Sg),Option.bind_assoc];rfl
 | .int _,σ,[],ρ,k=>by simp[tkLs]
 | .bool,σ,[],ρ,k=>by simp[tkLs]
 | .str,σ,[],ρ,k=>by simp[tkLs]
 | .list _,σ,[],ρ,k=>by simp[tkLs]
theorem storeK_nat {t:TypeId}{x v:A}(k:Sg→Option ρ):storeK C σ t x v k=(storeK C σ t x v some).bind k:=by
 unfold storeK;split
 ·split
  ·simp only;split<;>simp
  ·rfl
 ·split
  ·split
   ·rw[tkLs_nat _ _ _ _ ρ,tkLs_nat _ _ _ _ Sg,Option.bind_assoc];congr 1
    funext p
    repeat' split
    all_goals simp[Option.bind_assoc]
   ·rfl
  ·rfl
 ·rfl
theorem buildK_nat {t:TypeId}{parts:Array (Nat×Operand)}(k:A→Option ρ):buildK C σ t parts k=(buildK C σ t parts some).bind k:=by
 unfold buildK;repeat' split
 all_goals simp
theorem elemsK_nat (dp:Bool)(ty:Ty):(xs:List A)→(σ:Sg)→(ρ:Type)→(k:List ty.den→Sg→Option ρ)→elemsK dp ty σ xs k=(elemsK dp ty σ xs fun y s=>some (y,s)).bind fun p=>k p.1 p.2
 | [],σ,ρ,k=>by simp[elemsK]
 | x::r,σ,ρ,k=>by
  simp only[elemsK];rw[tkLs_nat _ _ _ _ ρ,tkLs_nat _ _ _ _ (List ty.den×Sg),Option.bind_assoc];congr 1
  funext p
  split
  ·rw[elemsK_nat dp ty r _ ρ,elemsK_nat dp ty r _ (List ty.den×Sg) fun ys σ=>some (_::ys,σ),Option.bind_assoc];rfl
  ·rfl
theorem buildSliceK_nat {t:TypeId}{len:Nat}{parts:Array (Nat×Operand)}(k:A→Sg→Option ρ):buildSliceK C σ t len parts k=(buildSliceK C σ t len parts fun v s=>some (v,s)).bind fun p=>k p.1 p.2:=by
 unfold buildSliceK;split
 ·split
  ·simp only;split
   ·rw[elemsK_nat _ _ _ _ ρ,elemsK_nat _ _ _ _ (A×Sg),Option.bind_assoc];rfl
   ·rfl
  ·rfl
 ·rfl
theorem makeSliceK_nat {t:TypeId}{l c:Operand}(k:A→Sg→Option ρ):makeSliceK C σ t l c k=(makeSliceK C σ t l c fun v s=>some (v,s)).bind fun p=>k p.1 p.2:=by
 unfold makeSliceK;repeat' split
 all_goals simp[Option.bind_assoc]
theorem intOptK_nat {x:Option Operand}{d:Int}(k:Int→Option ρ):intOptK σ x d k=(intOptK σ x d some).bind k:=by
 unfold intOptK;repeat' split
 all_goals simp
theorem sliceK_nat {t:TypeId}{x:A}{lo hi:Option Operand}{vw:Bool}(k:A→Sg→Option ρ):sliceK C σ t x lo hi vw k=(sliceK C σ t x lo hi vw fun v s=>some (v,s)).bind fun p=>k p.1 p.2:=by
 unfold sliceK;repeat' split
 all_goals first
  | rfl
  | (rw [intOptK_nat (ρ:=ρ),intOptK_nat (ρ:=A × Sg),Option.bind_assoc]
     congr 1;funext l
     first
      | (rw [intOptK_nat (ρ:=ρ),intOptK_nat (ρ:=A × Sg),Option.bind_assoc]
         congr 1;funext m
         rw[Option.bind_assoc];rfl)
      | (rw[Option.bind_assoc];rfl))
theorem extractK_nat {x:A}{i:Nat}(k:A→Option ρ):extractK x i k=(extractK x i some).bind k:=by
 unfold extractK;repeat' split
 all_goals simp
theorem convertK_nat {src dst:TypeId}{x:A}(k:A→Option ρ):convertK C σ src dst x k=(convertK C σ src dst x some).bind k:=by
 unfold convertK;repeat' split
 all_goals first
  | rfl
  | (rw[rdL_nat (ρ:=ρ),rdL_nat (ρ:=A),Option.bind_assoc];rfl)
theorem indexK_nat {t:TypeId}{x i:A}(k:A→Option ρ):indexK C t x i k=(indexK C t x i some).bind k:=by
 unfold indexK;split
 ·simp[Option.bind_assoc]
 ·rfl
theorem lenK_nat {t:TypeId}{x:A}(k:A→Option ρ):lenK C σ t x k=(lenK C σ t x some).bind k:=by
 unfold lenK;repeat' split
 all_goals simp[Option.bind_assoc]
theorem srcK_nat {dp:Bool}{ty:Ty}{x:A}(k:Bool→List ty.den→Sg→Option ρ):srcK σ dp ty x k=(srcK σ dp ty x fun d y s=>some (d,y,s)).bind fun p=>k p.1 p.2.1 p.2.2:=by
 unfold srcK;repeat' split
 all_goals first
  | rfl
  | (rw[rdL_nat (ρ:=ρ),rdL_nat (ρ:=Bool×List ty.den×Sg),Option.bind_assoc];rfl)
  | simp[Option.bind_assoc]
theorem appendLK_nat {ts:Array TypeId}{s x:A}(k:A→Sg→Option ρ):appendLK C σ ts s x k=(appendLK C σ ts s x fun v s=>some (v,s)).bind fun p=>k p.1 p.2:=by
 unfold appendLK;repeat' split
 all_goals first
  | rfl
  | (rw[srcK_nat (ρ:=ρ),srcK_nat (ρ:=A×Sg),Option.bind_assoc];congr 1;funext p;rw[Option.bind_assoc];rfl)
  | (rw [Option.bind_assoc]; congr 1; funext z
     rw[srcK_nat (ρ:=ρ),srcK_nat (ρ:=A×Sg),Option.bind_assoc];congr 1;funext p;rw[Option.bind_assoc];rfl)
  | (rw [Option.bind_assoc]; congr 1; funext z
     rw[srcK_nat (ρ:=ρ),srcK_nat (ρ:=A×Sg),Option.bind_assoc];congr 1;funext p;rw[Option.bind_assoc];congr 1;funext u;rw[Option.bind_assoc];rfl)
theorem slice3K_nat {t:TypeId}{x:A}{hi mx:Operand}(k:A→Option ρ):slice3K C σ t x hi mx k=(slice3K C σ t x hi mx some).bind k:=by
 unfold slice3K;repeat' split
 all_goals first
  | rfl
  | (rw[Option.bind_assoc];rfl)
theorem clearK_nat {t:TypeId}{x:A}(k:Sg→Option ρ):clearK C σ t x k=(clearK C σ t x some).bind k:=by
 unfold clearK;repeat' split
 all_goals first
  | rfl
  | (rw[Option.bind_assoc];rfl)
theorem appendSK_nat {ts:Array TypeId}{s:A}{q:ByteArray}(k:A→Sg→Option ρ):appendSK C σ ts s q k=(appendSK C σ ts s q fun v s=>some (v,s)).bind fun p=>k p.1 p.2:=by
 unfold appendSK;repeat' split
 all_goals first
  | rfl
  | (rw[Option.bind_assoc];congr 1;funext z;rw[Option.bind_assoc];rfl)
  | (rw[Option.bind_assoc];rfl)
theorem appendK_nat {ts:Array TypeId}{s x:A}(k:A→Sg→Option ρ):appendK C σ ts s x k=(appendK C σ ts s x fun v s=>some (v,s)).bind fun p=>k p.1 p.2:=by
 unfold appendK;split
 ·exact appendSK_nat k
 ·exact appendLK_nat k
theorem max2K_nat {op:Bool}{x y:A}(k:A→Option ρ):max2K op x y k=(max2K op x y some).bind k:=by
 unfold max2K;split<;>simp
def Nat1 {β:Type}(f:{ρ:Type}→(β→Sg→Option ρ)→Option ρ):Prop:=∀(ρ:Type) (k:β→Sg→Option ρ),f k=(f fun y s=>some (y,s)).bind fun p=>k p.1 p.2
theorem nnK_nat {nn:Bool}{t:Ty}{x:L}{y:t.den}(k:Option ρ):nnK nn t x y k=(nnK nn t x y (some ())).bind fun _=>k:=by
 unfold nnK;split
 ·exact nnL_nat k
 ·rfl
theorem decL_nat {c:LK}{x:L}(k:c.den→Sg→Option ρ):decL σ c x k=(decL σ c x fun y s=>some (y,s)).bind fun p=>k p.1 p.2:=by
 cases c with
 | d nn t =>
  simp only[decL];split
  ·rw[rdL_nat (ρ:=ρ),rdL_nat (ρ:=LK.den (.d nn t)×Sg),Option.bind_assoc];congr 1;funext y
   rw[nnK_nat (ρ:=ρ),nnK_nat (ρ:=LK.den (.d nn t)×Sg),Option.bind_assoc];rfl
  ·rfl
 | o dp e t=>exact tkO_nat k
 | m n =>
  simp only[decL];unfold tkM;repeat' split
  all_goals rfl
theorem decLs_nat:(cs:List LK)→(ls:List L)→(σ:Sg)→(ρ:Type)→(k:LKs.den cs→Sg→Option ρ)→decLs cs ls σ k=(decLs cs ls σ fun y s=>some (y,s)).bind fun p=>k p.1 p.2
 | [],[],_,_,_=>rfl
 | [],_::_,_,_,_=>rfl
 | [c],[x],σ,ρ,k=>decL_nat k
 | [_],[],_,_,_=>rfl
 | [_],_::_::_,_,_,_=>rfl
 | c::c'::r,[],_,_,_=>rfl
 | c::c'::r,x::xs,σ,ρ,k=>by
  simp only[decLs];rw[decL_nat (ρ:=ρ),decL_nat (ρ:=LKs.den (c::c'::r)×Sg),Option.bind_assoc];congr 1;funext p
  rw[decLs_nat (c'::r) xs p.2 ρ,decLs_nat (c'::r) xs p.2 (LKs.den (c::c'::r)×Sg),Option.bind_assoc];rfl
theorem decS_nat {c:SK}{x:A}(k:c.den→Sg→Option ρ):decS c x σ k=(decS c x σ fun y s=>some (y,s)).bind fun p=>k p.1 p.2:=by
 cases c with
 | l c =>
  cases x with
  | l x=>exact decL_nat k
  | a ls =>
   cases c with
   | d nn t =>
    simp only[decS];split
    ·rw[rdA_nat (ρ:=ρ),rdA_nat (ρ:=SK.den (.l (.d nn t))×Sg),Option.bind_assoc];rfl
    ·rfl
   | o dp e t=>rfl
   | m n=>rfl
  | t ps=>rfl
 | a cs =>
  simp only[decS];split
  ·exact decLs_nat _ _ _ _ k
  ·exact decLs_nat _ _ _ _ k
  ·rfl
 | b e cs =>
  simp only[decS];split
  ·split
   ·split
    ·exact decLs_nat _ _ _ _ k
    ·rfl
   ·rfl
  ·rfl
theorem argK_nat {β:Type} {al:Bool} {p:PM} {x:A} {rest:{ρ:Type}→Sg→(β→Sg→Option ρ)→Option ρ} (hr:∀ s,Nat1 (fun {ρ}=>rest (ρ:=ρ) s)) (k:p.den→β→Sg→Option ρ) :
  argK al p x σ rest k=(argK al p x σ rest fun y ys s=>some (y,ys,s)).bind fun q=>k q.1 q.2.1 q.2.2:=by
 have hr:∀(s:Sg) (ρ:Type) (k:β→Sg→Option ρ),rest s k=(rest s fun y s=>some (y,s)).bind fun p=>k p.1 p.2:=fun s ρ k=>hr s ρ k;unfold argK;split
 ·rw[hr σ ρ,hr σ (_×β×Sg),Option.bind_assoc];congr 1;funext q
  split
  ·rw[rdA_nat (ρ:=ρ),rdA_nat (ρ:=_×β×Sg),Option.bind_assoc];congr 1;funext y
   rw[nnA_nat (ρ:=ρ),nnA_nat (ρ:=_×β×Sg),Option.bind_assoc];rfl
  ·rfl
 ·repeat' split
  all_goals first
   | rfl
   | (rw[hr σ ρ,hr σ (_×β×Sg),Option.bind_assoc];rfl)
 ·split
  ·rw[tkO_nat (ρ:=ρ),tkO_nat (ρ:=_×β×Sg),Option.bind_assoc];congr 1;funext q
   rw[hr _ ρ,hr _ (_×β×Sg),Option.bind_assoc];rfl
  ·rfl
 ·repeat' split
  all_goals first
   | rfl
   | (rw[Option.bind_assoc];congr 1;funext z;rw[hr _ ρ,hr _ (_×β×Sg),Option.bind_assoc];rfl)
 ·rw[decS_nat (ρ:=ρ),decS_nat (ρ:=_×β×Sg),Option.bind_assoc];congr 1;funext q
  rw[hr _ ρ,hr _ (_×β×Sg),Option.bind_assoc];rfl
theorem argsK_nat (al:Bool):(ps:List PM)→(xs:List A)→(σ:Sg)→Nat1 (β:=PMs.den ps) (fun{ρ}=>argsK (ρ:=ρ) al ps xs σ)
 | [],[],σ=>fun ρ k=>by simp[argsK]
 | [p],[x],σ=>fun ρ k=>by
  simp only[argsK];rw[argK_nat (rest:=fun{ρ} σ k=>k () σ) (fun s ρ k=>by simp),argK_nat (rest:=fun{ρ} σ k=>k () σ) (ρ:=PMs.den [p]×Sg) (fun s ρ k=>by simp),Option.bind_assoc]
  rfl
 | p::p'::r,x::xs,σ=>fun ρ k=>by
  simp only[argsK];rw[argK_nat (rest:=fun{ρ}=>argsK (ρ:=ρ) al (p'::r) xs) (fun s=>argsK_nat al (p'::r) xs s),
   argK_nat (rest:=fun{ρ}=>argsK (ρ:=ρ) al (p'::r) xs) (ρ:=PMs.den (p::p'::r)×Sg) (fun s=>argsK_nat al (p'::r) xs s),Option.bind_assoc]
  rfl
 | [],_::_,σ=>fun ρ k=>by simp[argsK]
 | [_],[],σ=>fun ρ k=>by simp[argsK]
 | [_],_::_::_,σ=>fun ρ k=>by simp[argsK]
 | _::_::_,[],σ=>fun ρ k=>by simp[argsK]
theorem argsK_nat' {al:Bool}{ps:List PM}{xs:List A}{σ:Sg}(k:PMs.den ps→Sg→Option ρ):argsK al ps xs σ k=(argsK al ps xs σ fun y s=>some (y,s)).bind fun p=>k p.1 p.2:=argsK_nat al ps xs σ ρ k
theorem backK_nat:(ps:List PM)→(xs:List A)→(y:PMo.den ps)→(σ:Sg)→(k:Sg→Option ρ)→backK ps xs y σ k=(backK ps xs y σ some).bind k
 | [],xs,y,σ,k=>by simp[backK]
 | .io dp e t::r,x::xs,y,σ,k=>by
  simp only[backK];split
  ·split
   ·exact backK_nat r xs y.2 _ k
   ·rfl
  ·rfl
 | .cur e::r,x::xs,y,σ,k=>by
  simp only[backK];split
  ·split
   ·exact backK_nat r xs y.2 _ k
   ·rfl
  ·rfl
 | .cur _::_,[],y,σ,k=>by simp[backK]
 | .d _ _::r,x::xs,y,σ,k=>by simp only[backK];exact backK_nat r xs y _ k
 | .f _::r,x::xs,y,σ,k=>by simp only[backK];exact backK_nat r xs y _ k
 | .mv _ _ _::r,x::xs,y,σ,k=>by simp only[backK];exact backK_nat r xs y _ k
 | .io _ _ _::_,[],y,σ,k=>by simp[backK]
 | .d _ _::_,[],y,σ,k=>by simp[backK]
 | .f _::_,[],y,σ,k=>by simp[backK]
 | .mv _ _ _::_,[],y,σ,k=>by simp[backK]
theorem encSs_nat (cs:List SK)(σ:Sg)(y:SKs.den cs)(k:List A→Sg→Option ρ):encSs σ cs y k=(encSs σ cs y fun v s=>some (v,s)).bind fun p=>k p.1 p.2:=by
 obtain⟨xs,σ',_,_,h⟩:=encSs_shape cs σ y;rw[h,h];rfl
def NatI (C:Ctx):Prop:=∀e∈C.I,∀(ρ:Type) (xs:List A) (σ:Sg) (k:A→Sg→Option ρ),e.K ρ xs σ k=(e.K (A×Sg) xs σ fun v s=>some (v,s)).bind fun p=>k p.1 p.2
theorem callK_nat {f:FuncId}{xs:List A}(hN:NatI C)(k:A→Sg→Option ρ):callK C σ f xs k=(callK C σ f xs fun v s=>some (v,s)).bind fun p=>k p.1 p.2:=by
 unfold callK;split
 ·simp only;split
  ·rw[argsK_nat' (ρ:=ρ),argsK_nat' (ρ:=A×Sg),Option.bind_assoc];congr 1;funext q
   rw[Option.bind_assoc];congr 1;funext r
   split
   ·rw[backK_nat (ρ:=ρ),backK_nat (ρ:=A×Sg),Option.bind_assoc];congr 1;funext s
    rw[encSs_nat (ρ:=ρ),encSs_nat (ρ:=A×Sg),Option.bind_assoc];rfl
   ·rw[encSs_nat (ρ:=ρ),encSs_nat (ρ:=A×Sg),Option.bind_assoc];rfl
  ·rfl
 ·split
  ·rename_i e he;exact hN e (findI_some he).1 _ _ _ _
  ·rfl
theorem opK_nat (hN:NatI C){op:Op}(k:A→Sg→Option ρ):opK C σ op k=(opK C σ op fun v s=>some (v,s)).bind fun p=>k p.1 p.2:=by
 have lift:∀{f:{ρ:Type}→(A→Option ρ)→Option ρ},(∀(ρ:Type) (k:A→Option ρ),f k=(f some).bind k)→(f fun v=>k v σ)=(f fun v=>some (v,σ)).bind fun p=>k p.1 p.2:=fun hf=>by
  rw[hf ρ,hf (A×Sg),Option.bind_assoc];rfl
 unfold opK;split
 ·rfl
 ·rfl
 ·unfold ptrK;split<;>rfl
 ·split
  ·rename_i cb _;cases cb<;>rfl
  ·rfl
 ·exact lift (f:=fun{ρ}=>unK (ρ:=ρ) _ _) fun ρ k=>unK_nat k
 ·exact lift (f:=fun{ρ}=>binK (ρ:=ρ) C _ _ σ _ _) fun ρ k=>binK_nat k
 ·exact lift (f:=fun{ρ}=>loadK (ρ:=ρ) C σ _ _) fun ρ k=>loadK_nat k
 ·rw[storeK_nat (ρ:=ρ),storeK_nat (ρ:=A×Sg),Option.bind_assoc];rfl
 ·exact lift (f:=fun{ρ}=>fieldAddrK (ρ:=ρ) C _ _ _) fun ρ k=>fieldAddrK_nat k
 ·exact lift (f:=fun{ρ}=>indexAddrK (ρ:=ρ) C σ _ _ _) fun ρ k=>indexAddrK_nat k
 ·split<;>rfl
 ·simp only;split<;>rfl
 ·exact lift (f:=fun{ρ}=>buildK (ρ:=ρ) C σ _ _) fun ρ k=>buildK_nat k
 ·exact buildSliceK_nat k
 ·exact makeSliceK_nat k
 ·unfold makeMapK;repeat' split
  all_goals rfl
 ·unfold mapUpdateK;repeat' split
  all_goals rfl
 ·exact sliceK_nat k
 ·exact lift (f:=fun{ρ}=>slice3K (ρ:=ρ) C σ _ _ _ _) fun ρ k=>slice3K_nat k
 ·exact lift (f:=fun{ρ}=>extractK (ρ:=ρ) _ _) fun ρ k=>extractK_nat k
 ·exact lift (f:=fun{ρ}=>convertK (ρ:=ρ) C σ _ _ _) fun ρ k=>convertK_nat k
 ·exact lift (f:=fun{ρ}=>indexK (ρ:=ρ) C _ _ _) fun ρ k=>indexK_nat k
 ·split<;>rfl
 ·split
  ·unfold builtinK;split
   ·split
    ·exact lift (f:=fun{ρ}=>lenK (ρ:=ρ) C σ _ _) fun ρ k=>lenK_nat k
    ·rfl
   ·exact appendK_nat k
   ·exact lift (f:=fun{ρ}=>max2K (ρ:=ρ) true _ _) fun ρ k=>max2K_nat k
   ·exact lift (f:=fun{ρ}=>max2K (ρ:=ρ) false _ _) fun ρ k=>max2K_nat k
   ·split
    ·rw[clearK_nat (ρ:=ρ),clearK_nat (ρ:=A×Sg),Option.bind_assoc];rfl
    ·rfl
   ·rfl
  ·split
   ·exact callK_nat hN k
   ·exact callK_nat hN k
   ·rfl
  ·rfl
 ·rfl
end
open Go
set_option linter.all false
section
variable {ρ:Type}{C:Ctx}{E:En}{G G' G2:Gh}{σ σo σo':Sg}{a:Act}{w w':World}{I:Nat→Prop}{N:Nat}
theorem VL.ghost:(l:L)→{v:Value}→(hg:∀id∈l.refs,(G2 id).1=(G id).1)→VL I N G w l v→VL I N G2 w l v
 | .unk,_,_,_=>trivial
 | .nils,_,_,h=>h
 | .dat _ _ _,_,_,h=>h
 | .cptr _ _,_,_,h=>h
 | .ref id,_,hg,h=>⟨h.1,by rw[hg id (by simp[L.refs])];exact h.2⟩
 | .optr id _ _,_,hg,h=>⟨h.1,by rw[hg id (by simp[L.refs])];exact h.2⟩
 | .bptr id _,_,hg,h=>⟨h.1,by rw[hg id (by simp[L.refs])];exact h.2⟩
 | .fn _,_,_,h=>h
 | .und,_,_,h=>h
 | .sub id _ _ _,_,hg,h=>⟨h.1,by rw[hg id (by simp[L.refs])];exact h.2⟩
 | .full _ _,_,_,h=>h
 | .clo f ids,_,hg,h=>by
  have e:(ids.map fun id=>(G2 id).1)=ids.map fun id=>(G id).1:=List.map_congr_left fun id hi=>hg id (by simpa[L.refs]using hi)
  refine⟨by rw[e];exact h.1,fun id hi=>⟨(h.2 id hi).1,?_⟩⟩
  rw[hg id (by simpa[L.refs]using hi)];exact(h.2 id hi).2
theorem VLs.ghost:(ls:List L)→{vs:List Value}→(hg:∀id∈ls.flatMap L.refs,(G2 id).1=(G id).1)→VLs I N G w ls vs→VLs I N G2 w ls vs
 | [],[],_,_=>trivial
 | [],_::_,_,h=>h.elim
 | _::_,[],_,h=>h.elim
 | l::ls,v::vs,hg,h=>⟨⟨VL.ghost l (fun id hi=>hg id (by rw[List.flatMap_cons];exact List.mem_append_left _ hi)) h.1.1,h.1.2⟩,VLs.ghost ls (fun id hi=>hg id (by rw[List.flatMap_cons];exact List.mem_append_right _ hi)) h.2⟩
theorem VPs.ghost:(ps:List (Bool×List L))→{vs:List Value}→(hg:∀id∈ps.flatMap (fun p=>p.2.flatMap L.refs),(G2 id).1=(G id).1)→VPs I N G w ps vs→VPs I N G2 w ps vs
 | [],[],_,_=>trivial
 | [],_::_,_,h=>h.elim
 | _::_,[],_,h=>h.elim
 | (true,ls)::ps,v::vs,hg,h=>by
  refine⟨?_,VPs.ghost ps (fun id hi=>hg id (by rw[List.flatMap_cons];exact List.mem_append_right _ hi)) h.2⟩
  obtain⟨us,e,h1⟩:=h.1;exact⟨us,e,VLs.ghost ls (fun id hi=>hg id (by rw[List.flatMap_cons];exact List.mem_append_left _ hi)) h1⟩
 | (false,ls)::ps,v::vs,hg,h=>by
  refine⟨?_,VPs.ghost ps (fun id hi=>hg id (by rw[List.flatMap_cons];exact List.mem_append_right _ hi)) h.2⟩
  obtain⟨l,e,h1⟩:=h.1;subst e;exact⟨l,rfl,VL.ghost l (fun id hi=>hg id (by rw[List.flatMap_cons];exact List.mem_append_left _ (by simpa using hi))) h1⟩
theorem VA.ghost:(x:A)→{v:Value}→(hg:∀id∈x.refs,(G2 id).1=(G id).1)→VA I N G w x v→VA I N G2 w x v
 | .l l,_,hg,h=>VL.ghost l hg h
 | .a ls,_,hg,⟨vs,e,h⟩=>⟨vs,e,VLs.ghost ls hg h⟩
 | .t ps,_,hg,⟨vs,e,h⟩=>⟨vs,e,VPs.ghost ps hg h⟩
def Eop (E:En)(G:Gh)(σ σo:Sg)(w:World):En :=
 {w0:=w
  A:=fun b=>Imm E G σ w b∨∃id o,σo.ob id=some o∧o.ro=false∧b∈(G id).2
  X:=fun b=>∃id o,σo.ob id=some o∧o.ro=false∧b∈(G id).2
  H:=fun b=>∃id o,σo.ob id=some o∧o.ro=false∧(G id).2.head? = some b
  F:=fun _=>False
  V:=fun _=>undef
  d:=E.d }
structure Part (σ σo:Sg):Prop where
 len:σo.env.length=σ.env.length
 env:∀(t:Nat) (x:A),σo.env[t]? = some x→x=.l .unk∨((∃y,σ.env[t]? = some y∧∀(I:Nat→Prop) (N:Nat) (G:Gh) (w:World) (v:Value),VA I N G w y v→VA I N G w x v)∧x.bd σo.hp.length)
 ob:∀id o,σo.ob id=some o→σ.ob id=some o∧o.bd σo.hp.length
 n:σo.hp.length≤σ.hp.length
theorem Part.rel (p:Part σ σo)(h:RelG E G σ a w):RelG (Eop E G σ σo w) G σo a w:=by
 have himm:∀b,Imm E G σ w b→Imm (Eop E G σ σo w) G σo w b:=fun b hb=>⟨hb.1,fun _=>.inl hb,fun id o ho hr=>hb.2.2 id o (p.ob id o ho).1 hr⟩;have hk:Keep (Imm E G σ w) (Imm (Eop E G σ σo w) G σo w) σ.hp.length σ.hp.length G G w w:=⟨himm,fun _ _=>rfl,Nat.le_refl _,fun _ _=>rfl⟩;exact
 {defers:=h.defers
  len:=by rw[p.len];exact h.len
  env:=fun t x hx=>by
   rcases p.env t x hx with rfl | ⟨⟨y,hy,hw⟩,hb⟩
   ·trivial
   ·exact((hw _ _ _ _ _ (h.env t y hy)).keep hk x).lower x hb
  obs:=fun id o ho=>by
   obtain⟨h1,h2⟩:=p.ob id o ho;exact((h.obs id o h1).keep hk (Sg.ob_lt h1) rfl o fun _ _ _=>rfl).lower o h2
  nodup:=fun id o ho=>h.nodup id o (p.ob id o ho).1
  range:=fun id o ho hr b hb=>⟨(h.range id o (p.ob id o ho).1 hr b hb).1,fun _=>⟨id,o,ho,hr,hb⟩⟩
  hrange:=fun id o ho hr b hb _=>⟨id,o,ho,hr,hb⟩
  disj:=fun id id' o o' ho hr ho'=>h.disj id id' o o' (p.ob id o ho).1 hr (p.ob id' o' ho').1
  os:=rfl
  tape:=rfl
  output:=.refl _
  size:=Nat.le_refl _
  frame:=fun _ _ _=>rfl
  xa:=⟨fun b hb=>.inr hb,h.gl,fun b ⟨id,o,ho,hr,hb⟩=>h.gb (p.ob id o ho).1 hr b hb,fun b ⟨id,o,ho,hr,hb⟩=>h.gb (p.ob id o ho).1 hr b (List.mem_of_mem_head? hb)⟩
  fixd:=fun _ ht=>ht.elim }
theorem Part.join (p:Part σ σo) (h:RelG E G σ a w) {σ2:Sg} {hi:Nat} (ho:RelG (Eop E G σ σo w) G' σo' a w') (hga:∀ id,id < σo.hp.length→(G' id).1 = (G id).1) (hhi:σo'.hp.length≤hi) (hhi2:hi≤σ.hp.length)
  (hlen:σ2.hp.length=σ.hp.length) (henv:σ2.env=σ.env)
  (hσ2:∀id o,σ2.ob id=some o→(((σo.ob id).isSome=true∨(σo.hp.length≤id∧id<hi))∧σo'.ob id=some o)∨((σo.ob id=none∧¬(σo.hp.length≤id∧id<hi))∧σ.ob id=some o))
  (hre:∀(t:Nat) (x:A),σ.env[t]? = some x→∀id∈x.refs,¬(σo.hp.length≤id∧id<hi)) (hro:∀id o,σ.ob id=some o→∀i∈o.refs,¬(σo.hp.length≤i∧i<hi)) :
  ∃G2,RelG E G2 σ2 a w'∧(∀id,id<hi→((σo.ob id).isSome=true∨σo.hp.length≤id)→G2 id=G' id)∧(∀id,¬(σo.hp.length≤id∧id<hi)→(G2 id).1=(G id).1) ∧
   (∀b,Imm (Eop E G σ σo w) G' σo' w' b→Imm E G2 σ2 w' b)∧(∀b,Imm E G σ w b→Imm E G2 σ2 w' b∧w'.heap[b]? = w.heap[b]?):=by
 classical
 let mine:Nat→Prop:=fun id=>(σo.ob id).isSome=true∨(σo.hp.length≤id∧id<hi)
 let G2:Gh:=fun id=>if mine id then G' id else G id
 have hG2m:∀id,mine id→G2 id=G' id:=fun id hm=>by simp only[G2,if_pos hm]
 have hG2o:∀id,¬mine id→G2 id=G id:=fun id hm=>by simp only[G2,if_neg hm]
 have hsome:∀id,(σo.ob id).isSome=true→∃o,σo.ob id=some o:=fun id hs=>Option.isSome_iff_exists.1 hs;have hG21:∀id,¬(σo.hp.length≤id∧id<hi)→(G2 id).1=(G id).1:=fun id hn=>by
  by_cases hm:mine id
  ·rw[hG2m id hm];rcases hm with hm | hm
   ·obtain⟨o,hoo⟩:=hsome id hm;exact hga id (Sg.ob_lt hoo)
   ·exact absurd hm hn
  ·rw[hG2o id hm]
 have hcase:∀id o,σ2.ob id=some o→(mine id∧σo'.ob id=some o)∨(¬mine id∧σ.ob id=some o):=fun id o h2=>by
  rcases hσ2 id o h2 with⟨h1,h3⟩ | ⟨⟨h1,h3⟩,h4⟩
  ·exact .inl ⟨h1,h3⟩
  ·exact .inr ⟨fun hm=>hm.elim (fun hs=>by rw[h1]at hs;simp at hs) h3,h4⟩
 have hX:∀b,(Eop E G σ σo w).X b→b<w.heap.size∧(b<E.B→E.X b)∧∀id o,σ.ob id=some o→o.ro=false→¬mine id→b∉(G id).2:=fun b ⟨id,o,h1,h2,h3⟩=>by
  have hs:=(p.ob id o h1).1;refine⟨(h.range id o hs h2 b h3).1,(h.range id o hs h2 b h3).2,fun id' o' h4 h5 h6=>?_⟩;exact h.disj id id' o o' hs h2 h4 h5 (fun e=>h6 (.inl (by rw[←e,h1];rfl))) b h3
 have hsame:∀b,b<w.heap.size→¬(Eop E G σ σo w).H b→w'.heap[b]? = w.heap[b]?:=fun b hb hH=>ho.frame b hb hH;have hHX:∀b,(Eop E G σ σo w).H b→(Eop E G σ σo w).X b:=fun b ⟨id,o,h1,h2,h3⟩=>⟨id,o,h1,h2,List.mem_of_mem_head? h3⟩;have hbig:∀b,Imm E G σ w b→Imm E G2 σ2 w' b∧w'.heap[b]? = w.heap[b]?:=fun b hb=>by
  refine⟨⟨Nat.lt_of_lt_of_le hb.1 ho.size,hb.2.1,fun id o h2 hr hh=>?_⟩,hsame b hb.1 fun⟨id,o,h1,h2,h3⟩=>hb.2.2 id o (p.ob id o h1).1 h2 h3⟩;rcases hcase id o h2 with⟨hm,h3⟩ | ⟨hm,h3⟩
  ·rw[hG2m id hm]at hh;obtain⟨id',o',k1,k2,k3⟩:=ho.hrange id o h3 hr b hh hb.1;exact hb.2.2 id' o' (p.ob id' o' k1).1 k2 k3
  ·rw[hG2o id hm]at hh;exact hb.2.2 id o h3 hr hh
 have hsmall:∀b,Imm (Eop E G σ σo w) G' σo' w' b→Imm E G2 σ2 w' b:=fun b hb=>by
  refine⟨hb.1,fun hB=>?_,fun id o h2 hr hh=>?_⟩
  ·rcases hb.2.1 (Nat.lt_of_lt_of_le hB h.size)with h1 | h1
   ·exact h1.2.1 hB
   ·exact h.xa.a b ((hX b h1).2.1 hB)
  ·rcases hcase id o h2 with⟨hm,h3⟩ | ⟨hm,h3⟩
   ·rw[hG2m id hm]at hh;exact hb.2.2 id o h3 hr hh
   ·rw[hG2o id hm]at hh;have hmem:=List.mem_of_mem_head? hh;rcases hb.2.1 (h.range id o h3 hr b hmem).1 with h1 | h1
    ·exact h1.2.2 id o h3 hr hh
    ·exact(hX b h1).2.2 id o h3 hr hm hmem
 have hkb:Keep (Imm E G σ w) (Imm E G2 σ2 w') σ.hp.length σ.hp.length G G w w':=⟨fun b hb=>(hbig b hb).1,fun b hb=>(hbig b hb).2,Nat.le_refl _,fun _ _=>rfl⟩;refine⟨G2,?_,fun id h1 h2=>hG2m id (h2.imp_right fun h2=>⟨h2,h1⟩),hG21,hsmall,hbig⟩;exact
 {defers:=h.defers
  len:=by rw[henv];exact h.len
  env:=fun t x hx=>by
   rw[henv]at hx;rw[hlen];exact VA.ghost x (fun id hi=>hG21 id (hre t x hx id hi)) ((h.env t x hx).keep hkb x)
  obs:=fun id o h2=>by
   rw[hlen];rcases hcase id o h2 with⟨hm,h3⟩ | ⟨hm,h3⟩
   ·have hor:=ho.obs id o h3;refine hor.keep ⟨hsmall,fun _ _=>rfl,Nat.le_trans hhi hhi2,fun i hi=>?_⟩ (Sg.ob_lt h3) (hG2m id hm) o fun _ _ _=>rfl;by_cases him:mine i
    ·rw[hG2m i him]
    ·rw[hG2o i him];have:i<σo.hp.length:=by
      rcases Nat.lt_or_ge i σo.hp.length with hl | hl
      ·exact hl
      ·exact absurd (Or.inr ⟨hl,Nat.lt_of_lt_of_le hi hhi⟩) him
     exact(hga i this).symm
   ·have hor:=h.obs id o h3;have hor:=hor.keep hkb (Sg.ob_lt h3) rfl o fun hr b hb=>hsame b (h.range id o h3 hr b hb).1 fun hH=>(hX b (hHX b hH)).2.2 id o h3 hr hm hb;have e2:=hG2o id hm;cases o with
    | own ro dp e t x=>cases ro<;>(simp only[OR]at hor ⊢;rw[e2];exact hor)
    | box ro e cs =>
     simp only[OR]at hor ⊢;rw[e2];obtain⟨b,arr,k1,k2,k3,k4⟩:=hor;exact⟨b,arr,k1,k2,VLs.ghost cs (fun i hi=>hG21 i (hro id _ h3 i hi)) k3,k4⟩
    | mp ro n xs=>cases ro<;>(simp only[OR]at hor ⊢;try (rw[e2];exact hor))
  nodup:=fun id o h2 hr=>by
   rcases hcase id o h2 with⟨hm,h3⟩ | ⟨hm,h3⟩
   ·rw[hG2m id hm];exact ho.nodup id o h3 hr
   ·rw[hG2o id hm];exact h.nodup id o h3 hr
  range:=fun id o h2 hr b hb=>by
   rcases hcase id o h2 with⟨hm,h3⟩ | ⟨hm,h3⟩
   ·rw[hG2m id hm]at hb;obtain⟨h4,h5⟩:=ho.range id o h3 hr b hb;exact⟨h4,fun hB=>(hX b (h5 (Nat.lt_of_lt_of_le hB h.size))).2.1 hB⟩
   ·rw[hG2o id hm]at hb;obtain⟨h4,h5⟩:=h.range id o h3 hr b hb;exact⟨Nat.lt_of_lt_of_le h4 ho.size,h5⟩
  hrange:=fun id o h2 hr b hb hB=>by
   rcases hcase id o h2 with⟨hm,h3⟩ | ⟨hm,h3⟩
   ·rw[hG2m id hm]at hb;obtain⟨id',o',k1,k2,k3⟩:=ho.hrange id o h3 hr b hb (Nat.lt_of_lt_of_le hB h.size);exact h.hrange id' o' (p.ob id' o' k1).1 k2 b k3 hB
   ·rw[hG2o id hm]at hb;exact h.hrange id o h3 hr b hb hB
  disj:=fun i j o1 o2 h1 hr1 h2 hr2 hij b hb hb2=>by
   have cross:∀(i j:Nat) (o1 o2:Ob),mine i→σo'.ob i=some o1→o1.ro=false→¬mine j→σ.ob j=some o2→o2.ro=false→b∈(G' i).2→b∈(G j).2→False:=fun i j o1 o2 hm1 h1 hr1 hm2 h2 hr2 hb hb2=>by
    have hlt:=(h.range j o2 h2 hr2 b hb2).1;exact(hX b ((ho.range i o1 h1 hr1 b hb).2 hlt)).2.2 j o2 h2 hr2 hm2 hb2
   rcases hcase i o1 h1 with⟨hm1,h1⟩ | ⟨hm1,h1⟩<;>rcases hcase j o2 h2 with⟨hm2,h2⟩ | ⟨hm2,h2⟩
   ·rw[hG2m i hm1]at hb;rw[hG2m j hm2]at hb2;exact ho.disj i j o1 o2 h1 hr1 h2 hr2 hij b hb hb2
   ·rw[hG2m i hm1]at hb;rw[hG2o j hm2]at hb2;exact cross i j o1 o2 hm1 h1 hr1 hm2 h2 hr2 hb hb2
   ·rw[hG2o i hm1]at hb;rw[hG2m j hm2]at hb2;exact cross j i o2 o1 hm2 h2 hr2 hm1 h1 hr1 hb2 hb
   ·rw[hG2o i hm1]at hb;rw[hG2o j hm2]at hb2;exact h.disj i j o1 o2 h1 hr1 h2 hr2 hij b hb hb2
  os:=ho.os.trans h.os
  tape:=ho.tape.trans h.tape
  output:=ho.output.trans h.output
  size:=Nat.le_trans h.size ho.size
  frame:=fun b hB hH=>(hsame b (Nat.lt_of_lt_of_le hB h.size) fun⟨id,o,k1,k2,k3⟩=>hH (h.hrange id o (p.ob id o k1).1 k2 b k3 hB)).trans (h.frame b hB hH)
  xa:=h.xa
  fixd:=h.fixd }
end
open Go
set_option linter.all false
theorem mergeS_len (σ':Sg)(ids:List Nat):(σ:Sg)→(mergeS σ σ' ids).hp.length=σ.hp.length:=by
 induction ids with
 | nil=>intro σ;rfl
 | cons i ids ih=>intro σ;show(mergeS (setHp σ i (σ'.ob i)) σ' ids).hp.length=_;rw[ih];simp
theorem mergeS_env (σ':Sg)(ids:List Nat):(σ:Sg)→(mergeS σ σ' ids).env=σ.env:=by
 induction ids with
 | nil=>intro σ;rfl
 | cons i ids ih=>intro σ;show(mergeS (setHp σ i (σ'.ob i)) σ' ids).env=_;rw[ih];rfl
theorem mergeS_ob (σ':Sg)(ids:List Nat)(id:Nat):(σ:Sg)→(mergeS σ σ' ids).ob id=if id∈ids∧id<σ.hp.length then σ'.ob id else σ.ob id:=by
 induction ids with
 | nil=>intro σ;simp[mergeS]
 | cons i ids ih =>
  intro σ;show(mergeS (setHp σ i (σ'.ob i)) σ' ids).ob id=_;rw[ih,setHp_len,ob_setHp];by_cases h1:id=i
  ·subst h1;by_cases h2:id<σ.hp.length<;>simp[h2]
  ·by_cases h2:id∈ids<;>simp[h1,h2]
def Eqv (x y:A):Prop:=(∀(I:Nat→Prop) (N:Nat) (G:Gh) (w:World) (v:Value),VA I N G w x v↔VA I N G w y v)∧x.refs=y.refs
theorem Eqv.refl (x:A):Eqv x x:=⟨fun _ _ _ _ _=>Iff.rfl,rfl⟩
theorem Eqv.symm {x y:A}(h:Eqv x y):Eqv y x:=⟨fun I N G w v=>(h.1 I N G w v).symm,h.2.symm⟩
theorem Eqv.trans {x y z:A}(h:Eqv x y)(k:Eqv y z):Eqv x z:=⟨fun I N G w v=>(h.1 I N G w v).trans (k.1 I N G w v),h.2.trans k.2⟩
theorem Eqv.bool (nn nn' b:Bool):Eqv (.l (.dat nn .bool b)) (.l (.dat nn' .bool b)):=⟨fun _ _ _ _ _=>⟨fun h=>⟨h.1,fun _=>trivial⟩,fun h=>⟨h.1,fun _=>trivial⟩⟩,rfl⟩
structure Ent where
 i:Nat
 dst:Option Nat
 v:A
 st:Sg
 ins:List Nat
 an:List Nat
section
variable {base k:Nat}{ds:List Nat}{es:List Ent}{S:Nat→Prop}{σ0 σ:Sg}
def seg (base k i id:Nat):Prop:=base+i*k≤id∧id<base+(i+1)*k
theorem seg_div {i id:Nat}(hk:0<k)(h:seg base k i id):base≤id∧(id-base) / k=i:=by
 unfold seg at h;have e:(i+1)*k=i*k+k:=by rw[Nat.add_mul,Nat.one_mul]
 refine⟨by omega,?_⟩
 rw[Nat.div_eq_iff hk];have:i*k=k*i:=Nat.mul_comm i k;constructor
 ·omega
 ·have:=h.2;rw[e]at this;omega
theorem div_seg {i id:Nat}(hk:0<k)(h:base≤id)(h2:(id-base) / k=i):seg base k i id:=by
 have h3:=Nat.div_add_mod (id-base) k;have h4:=Nat.mod_lt (id-base) hk;rw[h2]at h3;unfold seg;rw[Nat.add_mul,Nat.one_mul,Nat.mul_comm i k];omega
structure StS (base k:Nat) (ds:List Nat) (es:List Ent) (S:Nat→Prop) (σ0 σ:Sg):Prop where
 n:σ.hp.length=σ0.hp.length
 len:σ.env.length=σ0.env.length
 env0:∀t,t∉ds→σ.env[t]? = σ0.env[t]?
 envS:∀e∈es,S e.i→∀(t:Nat) (y:A),e.dst=some t→σ.env[t]? = some y→Eqv y e.v
 envU:∀t,t∈ds→(∀e∈es,S e.i→e.dst≠some t)→σ.env[t]? = σ0.env[t]?
 ob0:∀id,id<base→(∀e∈es,S e.i→id∉e.ins)→σ.ob id=σ0.ob id
 obI:∀e∈es,S e.i→∀id∈e.ins,σ.ob id=e.st.ob id
 obS:∀e∈es,S e.i→∀id,seg base k e.i id→(∀e'∈es,S e'.i→id∉e'.ins)→σ.ob id=e.st.ob id
 obN:∀id,base≤id→(∀e∈es,S e.i→¬seg base k e.i id)→σ.ob id=none
structure Ents (wr:List Nat) (base k N:Nat) (ds:List Nat) (es:List Ent):Prop where
 uniq:∀e∈es,∀e'∈es,e.i=e'.i→e=e'
 dsts:∀e∈es,∀e'∈es,∀t,e.dst=some t→e'.dst=some t→e=e'
 dsm:∀e∈es,∀t,e.dst=some t→t∈ds
 insA:∀e∈es,∀id∈e.ins,id<N∧(id<base∨base≤id∧(id-base) / k∈e.an)
 insW:∀e∈es,∀id∈e.ins,id<base→id∈wr
 insD:∀e∈es,∀e'∈es,e.i≠e'.i→∀id∈e.ins,id∉e'.ins
 anlt:∀e∈es,∀j∈e.an,j<e.i
 anE:∀e∈es,∀j∈e.an,∃e'∈es,e'.i=j
 refsV:∀e∈es,∀id∈e.v.refs,id<base∨(base≤id∧(id-base) / k∈e.i::e.an)
 refsO:∀e∈es,∀id,(id∈e.ins∨seg base k e.i id)→∀o,e.st.ob id=some o→∀j∈o.refs,j<base∨(base≤j∧(j-base) / k∈e.i::e.an)
 room:∀e∈es,base+(e.i+1)*k≤N
theorem StS.step {N:Nat} {wr:List Nat} (hk:0 < k) (hE:Ents wr base k N ds es) (hN:σ0.hp.length = N) (h:StS base k ds es S σ0 σ) (cl:∀ e∈es,S e.i→∀ j∈e.an,S j) {e:Ent} (he:e∈es) (hS:¬ S e.i) (hpre:∀ j∈e.an,S j) {σ2:Sg} {ids:List Nat}
  (hids:∀id,id∈ids↔(id∈e.ins∨seg base k e.i id)) (hσ2:σ2.hp.length=σ.hp.length) (hob:∀id,σ2.ob id=if id∈ids∧id<σ.hp.length then e.st.ob id else σ.ob id)
  (henv:σ2.env=match e.dst with
   | some d=>σ.env.set d e.v
   | none=>σ.env):StS base k ds es (fun i=>S i∨i=e.i) σ0 σ2:=by
 have hlt:∀id,id∈ids→id<σ.hp.length:=fun id hi=>by
  rw[h.n,hN];rcases(hids id).1 hi with hi | hi
  ·exact(hE.insA e he id hi).1
  ·exact Nat.lt_of_lt_of_le hi.2 (hE.room e he)
 have hobI:∀id,(id∈e.ins∨seg base k e.i id)→σ2.ob id=e.st.ob id:=fun id hi=>by
  have:=(hids id).2 hi;rw[hob id,if_pos ⟨this,hlt id this⟩]
 have hobO:∀id,¬(id∈e.ins∨seg base k e.i id)→σ2.ob id=σ.ob id:=fun id hi=>by
  rw[hob id,if_neg fun hc=>hi ((hids id).1 hc.1)]
 have huniq:∀e'∈es,e'.i=e.i→e'=e:=fun e' he' hi=>hE.uniq e' he' e he hi;have hown:∀e'∈es,S e'.i→∀id∈e'.ins,¬seg base k e.i id:=fun e' he' hs id hi hsg=>by
  obtain⟨_,hm | ⟨_,hm⟩⟩:=hE.insA e' he' id hi
  ·have:=(seg_div hk hsg).1;omega
  rw[(seg_div hk hsg).2]at hm;exact hS (cl e' he' hs _ hm)
 refine⟨hσ2.trans h.n,?_,fun t ht=>?_,fun e' he' hs t y hd hy=>?_,fun t ht hn=>?_,fun id hid hn=>?_,fun e' he' hs id hi=>?_,fun e' he' hs id hi hn=>?_,fun id hid hn=>?_⟩
 ·rw[henv,←h.len];split<;>simp
 ·rw[henv,←h.env0 t ht];split
  ·rename_i d hd;rw[List.getElem?_set,if_neg];intro hdt;subst hdt;exact ht (hE.dsm e he d hd)
  ·rfl
 ·by_cases hee:e'=e
  ·subst hee;rw[henv,hd]at hy;simp only[List.getElem?_set,if_true]at hy;split at hy
   ·obtain rfl:=Option.some.inj hy;exact Eqv.refl _
   ·simp at hy
  ·have hs:S e'.i:=hs.resolve_right fun hi=>hee (huniq e' he' hi);rw[henv]at hy;refine h.envS e' he' hs t y hd ?_;split at hy
   ·rename_i d hd';rw[List.getElem?_set,if_neg]at hy
    ·exact hy
    ·intro hdt;subst hdt;exact hee (hE.dsts e' he' e he d hd hd')
   ·exact hy
 ·rw[←h.envU t ht fun e' he' hs=>hn e' he' (.inl hs),henv];have:=hn e he (.inr rfl);split
  ·rename_i d hd;rw[List.getElem?_set,if_neg];intro hdt;subst hdt;exact this hd
  ·rfl
 ·rw[hobO id,h.ob0 id hid fun e' he' hs=>hn e' he' (.inl hs)]
  rintro(hi | hi)
  ·exact hn e he (.inr rfl) hi
  ·have:=(seg_div hk hi).1;omega
 ·by_cases hee:e'=e
  ·subst hee;exact hobI id (.inl hi)
  ·have hs:S e'.i:=hs.resolve_right fun h=>hee (huniq e' he' h);rw[hobO id,h.obI e' he' hs id hi]
   rintro(h1 | h1)
   ·exact hE.insD e' he' e he (fun h=>hee (huniq e' he' h)) id hi h1
   ·exact hown e' he' hs id hi h1
 ·by_cases hee:e'=e
  ·subst hee;exact hobI id (.inr hi)
  ·have hs:S e'.i:=hs.resolve_right fun h=>hee (huniq e' he' h);rw[hobO id,h.obS e' he' hs id hi fun e2 he2 hs2=>hn e2 he2 (.inl hs2)]
   rintro(h1 | h1)
   ·exact hn e he (.inr rfl) h1
   ·exact hee (huniq e' he' (((seg_div hk hi).2).symm.trans (seg_div hk h1).2))
 ·rw[hobO id,h.obN id hid fun e' he' hs=>hn e' he' (.inl hs)]
  rintro(h1 | h1)
  ·obtain⟨_,h4 | ⟨h2,h4⟩⟩:=hE.insA e he id h1
   ·omega
   obtain⟨e',he',h5⟩:=hE.anE e he _ h4;exact hn e' he' (.inl (by rw[h5];exact hpre _ h4)) (div_seg hk h2 h5.symm)
  ·exact hn e he (.inr rfl) h1
end
end Go.Proofs.YtfknaeamhcpfgaaGreat.Eng
