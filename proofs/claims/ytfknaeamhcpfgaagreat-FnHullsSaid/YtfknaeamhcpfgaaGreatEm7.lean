/-
  The engine: code that writes into the elements of a slice of its own. No condition.
-/
import Derived.Test.YtfknaeamhcpfgaaGreatEm5
namespace Go.Proofs.YtfknaeamhcpfgaaGreat.Eng
open Go
set_option linter.all false
inductive TV where
 | unk
 | sl
 | int (n:Int)
 | bool (b:Bool)
 | fp (i:Nat)
 | es (i:Nat)
 | ip (i j:Nat)
structure TL where
 rg:Nat
 ex:Nat
 ix:Nat
def findT (rg:Nat):List TL→Option TL
 | []=>none
 | l::r=>if l.rg=rg then some l else findT rg r
abbrev LL:Ty:=.list (.int .i64)
section
variable {w:World}
theorem OwnV.elem2 {e:TypeId} {t:Ty} {y:List t.den} {v:Value} {bs:List Nat} (h:OwnV (fun _=>False) w true e t y v bs) (hn:bs.Nodup) {i:Nat} {q:t.den} (hi:y[i]? = some q) :
  ∃(b c:Nat) (cur:Array Value) (ys:List Value) (bi:List Nat),v=.slice (some ⟨b,0,none⟩) y.length c∧w.heap[b]? = some (.cells cur e (0,0))∧(∀j,j<t.wid→cur[i*t.wid+j]? = ys[j]?)∧ys.length=t.wid∧DpC 0 w t q ys bi ∧
   bi.Nodup∧b∉bi∧(∀x∈bi,x∈bs)∧b∈bs∧(∀(w':World) (q':t.den),MarkOut w w' bi→DpC 0 w' t q' ys bi→OwnV (fun _=>False) w' true e t (y.set i q') v bs) ∧
   (∀(q':t.den) (j:Nat) (u:Value),j<t.wid→DpC 0 w t q' (ys.set j u) bi→OwnV (fun _=>False) (w.setRow b (cur.toList.set (i*t.wid+j) u).toArray) true e t (y.set i q') v bs):=by
 have h0:=h;obtain⟨hl,cells,bss,ho,rfl,hd,_,hel⟩:=h;obtain⟨ys,hy1,hy2,hy3⟩:=hel i q hi;simp only[if_true]at hy3;have hil:=(List.getElem?_eq_some_iff.1 hi).1;rcases ho.2 with⟨_,hz⟩ | ⟨b,c,cur,rfl,_,hh,hnc,hcm,hcs,htake⟩
 ·omega
 ·have hbl:bss.length=y.length:=hd rfl;obtain⟨bi,hbi⟩:∃bi,bss[i]? = some bi:=⟨bss[i]'(by omega),List.getElem?_eq_getElem (by omega)⟩
  rw[hbi]at hy3;simp only[Option.getD_some]at hy3;have hn':(b::bss.flatten).Nodup:=by simpa[Value.ownBlock]using hn
  obtain⟨np1,np2⟩:=nodup_parts hn';obtain⟨ni,nb⟩:=np1 i bi hbi;have hsub:∀(j:Nat) (l:List Nat),bss[j]? = some l→∀x∈l,x∈bss.flatten:=fun j l hj x hx=>List.mem_flatten.2 ⟨l,List.mem_of_getElem? hj,hx⟩;refine⟨b,c,cur,ys,bi,rfl,hh,fun j hj=>?_,hy1,hy3,ni,nb,fun x hx=>List.mem_append_right _ (hsub i bi hbi x hx),by simp[Value.ownBlock],fun w' q' mo hq=>?_,fun q' j u hj hq=>?_⟩
  ·rw[←hy2 j hj,←htake,List.getElem?_take,if_pos (chunk_lt hil hj),Array.getElem?_toList]
  ·have hb:w'.heap[b]? = w.heap[b]?:=mo.frame b (Array.getElem?_eq_some_iff.1 hh).1 nb;refine⟨by simpa using hl,cells,bss,⟨by simpa using ho.1,.inr ⟨b,c,cur,by simp,Nat.zero_le _,by rw[hb];exact hh,by simpa using hnc,hcm,hcs,by simpa using htake⟩⟩,rfl,fun _=>by simpa using hbl,fun hf=>by simp at hf,fun k z hk=>?_⟩
   rw[List.getElem?_set]at hk;simp only[if_true];by_cases hik:i=k
   ·subst hik;simp only[if_true,hil]at hk;obtain rfl:=Option.some.inj hk;exact⟨ys,hy1,hy2,by rw[hbi];exact hq⟩
   ·rw[if_neg hik]at hk;obtain⟨zs,hz1,hz2,hz3⟩:=hel k z hk;simp only[if_true]at hz3;refine⟨zs,hz1,hz2,hz3.mono (Nat.le_refl _) t fun x hx=>?_⟩;cases hbk:bss[k]? with
    | none=>simp[hbk]at hx
    | some l =>
     simp only[hbk,Option.getD_some]at hx hz3;exact mo.frame x (hz3.range t x hx).2 fun hm=>np2 k i l bi hbk hbi (fun e=>hik e.symm) x hx hm
  ·have hle:i*t.wid+j<cur.size:=by
    have:=chunk_lt hil hj;have:=Nat.mul_le_mul_right t.wid hnc;omega
   have ho2:∀x,x≠b→(w.setRow b (cur.toList.set (i*t.wid+j) u).toArray).heap[x]? = w.heap[x]?:=fun x hx=>setRow_other w b x _ hx;refine⟨by simpa using hl,cells.set (i*t.wid+j) u,bss,⟨by simpa using ho.1,.inr ⟨b,c,(cur.toList.set (i*t.wid+j) u).toArray,by simp,Nat.zero_le _,setRow_heap w b cur _ e _ hh,by simpa using hnc,hcm,by simpa using hcs,?_⟩⟩,rfl,fun _=>by simpa using hbl,fun hf=>by simp at hf,fun k z hk=>?_⟩
   ·rw[←htake,List.length_set];simp only;rw[List.take_set]
   ·rw[List.getElem?_set]at hk;simp only[if_true];have oth:∀(k j':Nat),k<y.length→j'<t.wid→k≠i→(cells.set (i*t.wid+j) u)[k*t.wid+j']? = cells[k*t.wid+j']?:=fun k j' hk hj' hki=>by
     rw[List.getElem?_set,if_neg];intro he;have:k=i:=by
      have a1:(i*t.wid+j) / t.wid=i:=by rw[Nat.mul_comm,Nat.mul_add_div t.wid_pos,Nat.div_eq_of_lt hj,Nat.add_zero]
      have a2:(k*t.wid+j') / t.wid=k:=by rw[Nat.mul_comm,Nat.mul_add_div t.wid_pos,Nat.div_eq_of_lt hj',Nat.add_zero]
      rw[he,a2]at a1;exact a1
     exact hki this
    by_cases hik:i=k
    ·subst hik;simp only[if_true,hil]at hk;obtain rfl:=Option.some.inj hk;refine⟨ys.set j u,by simpa using hy1,fun j' hj'=>?_,by
      rw[hbi];exact hq.mono (Nat.le_refl _) t fun x hx=>ho2 x fun hxb=>nb (hxb▸hx)⟩
     rw[List.getElem?_set,List.getElem?_set];by_cases hjj:j=j'
     ·subst hjj;have hcl:i*t.wid+j<cells.length:=by rw[ho.1];exact chunk_lt hil hj
      simp[hcl,hy1,hj]
     ·rw[if_neg (by omega),if_neg hjj];exact hy2 j' hj'
    ·rw[if_neg hik]at hk;have hkl:=(List.getElem?_eq_some_iff.1 hk).1;obtain⟨zs,hz1,hz2,hz3⟩:=hel k z hk;simp only[if_true]at hz3;refine⟨zs,hz1,fun j' hj'=>by rw[oth k j' hkl hj' (fun e=>hik e.symm)];exact hz2 j' hj',hz3.mono (Nat.le_refl _) t fun x hx=>ho2 x fun hxb=>?_⟩
     cases hbk:bss[k]? with
     | none=>simp[hbk]at hx
     | some l =>
      simp only[hbk,Option.getD_some]at hx;exact(np1 k l hbk).2 (hxb▸hx)
end
end Go.Proofs.YtfknaeamhcpfgaaGreat.Eng
