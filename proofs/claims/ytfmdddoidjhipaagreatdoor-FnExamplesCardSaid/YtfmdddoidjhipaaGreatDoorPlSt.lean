/-
  Plain: numerals, joined texts. No condition.
-/
import Derived.Test.YtfmdddoidjhipaaGreatDoorPl4
namespace Go.Proofs.YtfmdddoidjhipaaGreatDoor
open Go Go.Proofs.YtfmdddoidjhipaaGreatDoor.Eng
set_option linter.unusedVariables false
set_option linter.unusedSimpArgs false
def bs (l:List UInt8):ByteArray:=⟨l.toArray⟩
theorem bs_data (l:List UInt8):(bs l).data.toList = l:=by simp [bs]
theorem bs_size (l:List UInt8):(bs l).size = l.length:=by simp [bs,ByteArray.size]
theorem bs_of (s:ByteArray):bs s.data.toList = s:=by cases s; simp [bs]
theorem bs_app (a b:List UInt8):bs a ++ bs b = bs (a ++ b):=by
  apply ByteArray.ext
  simp [bs]
theorem toList_bs (l:List UInt8):(bs l).toList = l:=by
  have key:∀ (n i:Nat) (r:List UInt8),n = l.length - i→ByteArray.toList.loop (bs l) i r = r.reverse ++ l.drop i:=by
    intro n
    induction n with
    | zero =>
      intro i r h
      unfold ByteArray.toList.loop
      rw [bs_size,if_neg (by omega),List.drop_eq_nil_of_le (by omega),List.append_nil]
    | succ n ih =>
      intro i r h
      unfold ByteArray.toList.loop
      have hi:i < l.length:=by omega
      rw [bs_size,if_pos hi,ih (i + 1) _ (by omega)]
      have:(bs l).get! i = l[i]:=by
        show (bs l).data[i]! = l[i]
        simp [bs,hi]
      rw [this,List.reverse_cons,List.append_assoc,List.drop_eq_getElem_cons hi]
      rfl
  have:=key _ 0 [] rfl
  simpa [ByteArray.toList] using this
theorem catS_bs {a b:List UInt8} (h:a.length + b.length≤1048576000):catS (bs a) (bs b) = some (bs (a ++ b)):=by
  unfold catS
  rw [bs_size,bs_size,if_pos (Nat.le_trans h (by decide)),bs_app]
theorem strI_one {x:Int} {b:UInt8} (h:UInt8.ofNat x.toNat = b):strI [x] = bs [b]:=by
  subst h; rfl
theorem dig_wrap {d:Nat} (h:d < 10):IntKind.u8.wrap (IntKind.i64.wrap ((48:Int) + (d:Int))) = ((48 + d:Nat):Int):=by
  rw [wrap_id (by omega) (by omega),IntKind.wrap_u8]
  omega
theorem dec_step {u:Nat} (h:u≠0):Lib.decDigits u = (if u / 10 = 0 then [] else Lib.decDigits (u / 10)) ++ [UInt8.ofNat (48 + u % 10)]:=by
  by_cases h9:u < 10
  · rw [Lib.decDigits,dif_pos h9,if_pos (by omega),Nat.mod_eq_of_lt h9]; rfl
  · rw [Lib.decDigits,dif_neg h9,if_neg (by omega)]
theorem format_loop:∀ (m:Nat) (n:Int) (acc:List UInt8),n.natAbs≤m→-9223372036854775808≤n→n≤9223372036854775807→(n≠0→acc.length + Lib.nDigits n.natAbs≤1000) →
    iter s_FormatInt_s5 (n,bs acc) = some (bs ((if n.natAbs = 0 then [] else Lib.decDigits n.natAbs) ++ acc)):=by
  intro m
  induction m with
  | zero =>
    intro n acc h h0 h1 h2
    have:n = 0:=by omega
    subst this
    exact iter_end (by simp [s_FormatInt_s5])
  | succ m ih =>
    intro n acc h h0 h1 h2
    by_cases hn:n = 0
    · subst hn
      exact iter_end (by simp [s_FormatInt_s5])
    have hu:n.natAbs≠0:=by omega
    have hq:(n.tdiv 10).natAbs = n.natAbs / 10:=by rw [Int.natAbs_tdiv]; rfl
    have hqr:-9223372036854775808≤n.tdiv 10∧n.tdiv 10≤9223372036854775807:=by omega
    have hd:n.natAbs % 10 < 10:=Nat.mod_lt _ (by decide)
    have hm:n.tmod 10 = (if n < 0 then -((n.natAbs % 10:Nat):Int) else ((n.natAbs % 10:Nat):Int)):=by
      have:=Int.mul_tdiv_add_tmod n 10
      split
      · have h3:(n.tmod 10).natAbs = n.natAbs % 10:=Int.natAbs_tmod n 10
        have h4:n.tmod 10≤0:=by
          have:=Int.tmod_nonneg 10 (show 0≤-n by omega)
          rw [Int.neg_tmod] at this; omega
        omega
      · have h3:(n.tmod 10).natAbs = n.natAbs % 10:=Int.natAbs_tmod n 10
        have h4:0≤n.tmod 10:=Int.tmod_nonneg 10 (by omega)
        omega
    have hs:strI [IntKind.u8.wrap (IntKind.i64.wrap ((48:Int) + ((n.natAbs % 10:Nat):Int)))] = bs [UInt8.ofNat (48 + n.natAbs % 10)]:=strI_one (by rw [dig_wrap hd,Int.toNat_natCast])
    have hnd:Lib.nDigits n.natAbs = (if n.natAbs / 10 = 0 then 1 else Lib.nDigits (n.natAbs / 10) + 1):=by
      by_cases h9:n.natAbs < 10
      · rw [Lib.nDigits_small h9,if_pos (by omega)]
      · rw [Lib.nDigits_big h9,if_neg (by omega)]
    have hpos:=Lib.nDigits_pos (n.natAbs / 10)
    have hl:(1:Nat) + acc.length≤1048576000:=by
      have:=Lib.nDigits_pos n.natAbs
      have:=h2 hn
      omega
    have hc:catS (strI [IntKind.u8.wrap (IntKind.i64.wrap ((48:Int) + ((n.natAbs % 10:Nat):Int)))]) (bs acc) = some (bs ([UInt8.ofNat (48 + n.natAbs % 10)] ++ acc)):=by
      rw [hs]; exact catS_bs (by simpa using hl)
    have step:s_FormatInt_s5 (n,bs acc) = some (.inl (n.tdiv 10,bs ([UInt8.ofNat (48 + n.natAbs % 10)] ++ acc))):=by
      have hne:(n != 0) = true:=by simpa using hn
      have hr:remI .i64 n 10 = some (n.tmod 10):=remI_some (by decide)
      have hqq:quoI .i64 n 10 = some (n.tdiv 10):=by
        unfold quoI
        rw [if_neg (by decide),wrap_id hqr.1 hqr.2]
      simp only [s_FormatInt_s5,hne,cond_true,hr,Option.bind_some,hqq]
      by_cases hlt:n.tmod 10 < 0
      · rw [show decide (n.tmod 10 < 0) = true from by simpa using hlt,cond_true]
        have hneg:n < 0:=by
          rcases Int.lt_or_le n 0 with h | h
          · exact h
          · rw [if_neg (by omega)] at hm; omega
        rw [if_pos hneg] at hm
        have e:IntKind.i64.wrap (0 - n.tmod 10) = ((n.natAbs % 10:Nat):Int):=by rw [wrap_id (by omega) (by omega)]; omega
        rw [e,hc]; rfl
      · rw [show decide (n.tmod 10 < 0) = false from by simpa using hlt,cond_false]
        have e:n.tmod 10 = ((n.natAbs % 10:Nat):Int):=by
          split at hm <;> omega
        rw [e,hc]; rfl
    rw [iter_next step,ih _ _ (by omega) hqr.1 hqr.2 (fun hne=>by
      have h2:=h2 hn
      rw [hq]
      rw [hnd,if_neg (by omega)] at h2
      simp only [List.length_append,List.length_cons,List.length_nil]
      omega),hq,if_neg hu,dec_step hu,List.append_assoc]
theorem nd_le {n:Int} (h0:-9223372036854775808≤n) (h1:n≤9223372036854775807):Lib.nDigits n.natAbs≤30:=by
  by_cases h:n.natAbs = 0
  · rw [h,Lib.nDigits_small (by decide)]; decide
  · obtain ⟨h3,h4⟩:=Lib.numDigits_eq n.natAbs (by omega) (by omega)
    rw [← h3]
    split <;> omega
theorem s_FormatInt_eq {n:Int} (h0:-9223372036854775808≤n) (h1:n≤9223372036854775807):s_FormatInt n = some (bs (Lib.itoa n)):=by
  unfold s_FormatInt
  by_cases hn:n = 0
  · subst hn
    have:Lib.itoa 0 = [48]:=by
      unfold Lib.itoa
      rw [if_neg (by decide),Lib.decDigits]
      rfl
    rw [this]; rfl
  have hb:(n == 0) = false:=by simpa using hn
  have hl:=nd_le h0 h1
  have:=format_loop n.natAbs n [] (Nat.le_refl _) h0 h1 (fun _=>by simp; omega)
  have e0:(bs []:ByteArray) = ⟨#[]⟩:=rfl
  rw [if_neg (show n.natAbs≠0 by omega),List.append_nil,e0] at this
  simp only [hb,cond_false,this,Option.bind_some]
  unfold Lib.itoa
  by_cases hneg:n < 0
  · rw [show decide (n < 0) = true from by simpa using hneg,cond_true,if_pos hneg]
    have e1:(⟨#[45]⟩:ByteArray) = bs [45]:=rfl
    rw [e1,catS_bs (by rw [Lib.decDigits_length]; simp; omega)]
    rfl
  · rw [show decide (n < 0) = false from by simpa using hneg,cond_false,if_neg hneg,show n.toNat = n.natAbs by omega]
theorem i_FormatInt_eq {n:Int} (h0:-9223372036854775808≤n) (h1:n≤9223372036854775807):i_FormatInt n = some (bs (Lib.itoa n)):=by
  unfold i_FormatInt g_strconv_Itoa itoaF
  rw [if_pos ⟨h0,h1⟩]; rfl
theorem itoa_len30 {n:Int} (h0:-9223372036854775808≤n) (h1:n≤9223372036854775807):(Lib.itoa n).length≤31:=by
  have:=nd_le h0 h1
  unfold Lib.itoa
  split
  · rw [List.length_cons,Lib.decDigits_length]; omega
  · rw [show n.toNat = n.natAbs by omega,Lib.decDigits_length]; omega
theorem bytesI_bs (l:List UInt8):bytesI (bs l) = l.map fun b=>(b.toNat:Int):=by
  unfold bytesI
  rw [bs_data]
theorem strI_map (l:List UInt8):strI (l.map fun b=>(b.toNat:Int)) = bs l:=by
  unfold strI bs
  congr 2
  rw [List.map_map]
  have:((fun n:Int=>UInt8.ofNat n.toNat) ∘ fun b:UInt8=>(b.toNat:Int)) = id:=by
    funext b
    simp
  rw [this,List.map_id]
def joinT (sep:List UInt8):List (List UInt8)→List UInt8
  | []=>[]
  | x :: r=>x ++ (r.map (sep ++ ·)).flatten
theorem joinT_eq (sep:List UInt8) (xs:List (List UInt8)):joinT sep xs = Lib.join xs sep:=by
  cases xs with
  | nil=>rfl
  | cons x r=>rw [Lib.join_cons]; rfl
theorem joinT_snoc (sep:List UInt8) (xs:List (List UInt8)) (y:List UInt8):joinT sep (xs ++ [y]) = if xs = [] then y else joinT sep xs ++ (sep ++ y):=by
  cases xs with
  | nil=>simp [joinT]
  | cons x r=>simp [joinT]
theorem join_bd {sep:List UInt8} {m:Nat}:∀ {xs:List (List UInt8)},(∀ x∈xs,x.length≤m)→(joinT sep xs).length≤xs.length * (sep.length + m):=by
  intro xs hx
  cases xs with
  | nil=>simp [joinT]
  | cons x r =>
    have h1:=hx x (by simp)
    have key:∀ r:List (List UInt8),(∀ y∈r,y.length≤m)→((r.map (sep ++ ·)).flatten).length≤r.length * (sep.length + m):=by
      intro r
      induction r with
      | nil=>intro _; simp
      | cons y r ih =>
        intro hr
        have h2:=hr y (by simp)
        have h3:=ih fun z hz=>hr z (List.mem_cons_of_mem _ hz)
        simp only [List.map_cons,List.flatten_cons,List.length_append,List.length_cons,Nat.add_mul,Nat.one_mul]
        omega
    have h2:=key r fun y hy=>hx y (List.mem_cons_of_mem _ hy)
    simp only [joinT,List.length_append,List.length_cons,Nat.add_mul,Nat.one_mul]
    omega
theorem s_Join_eq {xs:List (List UInt8)} {sep:List UInt8} (hl:xs.length≤1000000) {m:Nat} (hm:∀ x∈xs,x.length≤m) (hs:xs.length * (sep.length + m)≤100000000):s_Join (xs.map bs) (bs sep) = some (bs (Lib.join xs sep)):=by
  unfold s_Join
  have key:=iter_up (step:=s_Join_s3 (xs.map bs) (bs sep)) xs.length (fun k=>((joinT sep (xs.take k)).map (fun b=>(b.toNat:Int)),(k:Int))) ((joinT sep xs).map fun b=>(b.toNat:Int)) (fun k hk=>?_) (by simp [s_Join_s3])
  · have e0:((joinT sep (xs.take 0)).map (fun b=>(b.toNat:Int)),((0:Nat):Int)) = (([]:List Int),(0:Int)):=rfl
    rw [e0] at key
    rw [key]
    simp only [Option.bind_some]
    rw [strI_map,joinT_eq]
  · have hx:xs[k]? = some xs[k]:=List.getElem?_eq_getElem hk
    have hxm:(xs.map bs)[k]? = some (bs xs[k]):=by rw [List.getElem?_map,hx]; rfl
    have hd:decide ((k:Int) < ((xs.map bs).length:Int)) = true:=by simp; omega
    have hts:xs.take (k + 1) = xs.take k ++ [xs[k]]:=by rw [List.take_add_one,hx]; rfl
    have hlen:(xs.take k).length = k:=by simp; omega
    have hb:=join_bd (sep:=sep) (m:=m) (xs:=xs.take (k + 1)) fun x hx=>hm x (List.mem_of_mem_take hx)
    have hb2:(xs.take (k + 1)).length * (sep.length + m)≤100000000:=Nat.le_trans (Nat.mul_le_mul_right _ (by simp; omega)) hs
    have hk1:k≤lim:=Nat.le_trans (show k≤1000000 by omega) (by decide)
    by_cases h0:k = 0
    · subst h0
      have e1:joinT sep (xs.take (0 + 1)) = xs[0]:=by rw [hts]; simp [joinT]
      rw [e1] at hb
      simp only [s_Join_s3,hd,cond_true,show decide (((0:Nat):Int) > 0) = false from rfl,cond_false,idx_some hxm,Option.bind_some,bytesI_bs]
      rw [appD_some (by rw [lim_eq]; simp [joinT]; omega) (by rw [lim_eq]; simp [joinT]; omega),Option.bind_some,wrap_succ hk1,e1]
      simp [joinT]
    · have hp:decide ((k:Int) > 0) = true:=by simp; omega
      have hne:xs.take k≠[]:=fun h=>by rw [h] at hlen; simp at hlen; omega
      have e1:joinT sep (xs.take (k + 1)) = joinT sep (xs.take k) ++ (sep ++ xs[k]):=by rw [hts,joinT_snoc,if_neg hne]
      rw [e1] at hb
      simp only [List.length_append] at hb
      simp only [s_Join_s3,hd,hp,cond_true,idx_some hxm,Option.bind_some,bytesI_bs]
      rw [appD_some (by rw [lim_eq]; simp; omega) (by rw [lim_eq]; simp; omega),Option.bind_some,appD_some (by rw [lim_eq]; simp; omega) (by rw [lim_eq]; simp; omega),Option.bind_some,wrap_succ hk1,e1]
      simp
theorem map_bs_data (xs:List (List UInt8)):(xs.map bs).map (·.data.toList) = xs:=by
  rw [List.map_map]
  have:((fun s:ByteArray=>s.data.toList) ∘ bs) = id:=by funext l; exact bs_data l
  rw [this,List.map_id]
theorem i_Join_eq {xs:List (List UInt8)} {sep:List UInt8} {m:Nat} (hm:∀ x∈xs,x.length≤m) (hs:xs.length * (sep.length + m)≤100000000):i_Join (xs.map bs) (bs sep) = some (bs (Lib.join xs sep)):=by
  unfold i_Join g_strings_Join joinF
  rw [map_bs_data,bs_data]
  have:=join_bd (sep:=sep) hm
  rw [joinT_eq] at this
  rw [if_pos (Nat.le_trans this (Nat.le_trans hs (by decide)))]
  rfl
def numsT (v:List Int):List UInt8:=Lib.join (v.map Lib.itoa) [44]
theorem nums_bd {v:List Int} (hv:∀ x∈v,I64 x):∀ y∈v.map Lib.itoa,y.length≤31:=fun y hy=>by
  obtain ⟨x,hx,rfl⟩:=List.mem_map.1 hy
  have:=hv x hx
  exact itoa_len30 this.1 this.2
theorem texts_eq {v:List Int} (hl:v.length≤1000) (hv:∀ x∈v,I64 x):i_texts v = some (bs (numsT v))∧s_l2Text v = some (bs (numsT v)):=by
  have hI:∀ k x,v[k]? = some x→i_FormatInt x = some (bs (Lib.itoa x)):=fun k x hx=>i_FormatInt_eq (hv x (List.mem_of_getElem? hx)).1 (hv x (List.mem_of_getElem? hx)).2
  have hS:∀ k x,v[k]? = some x→s_FormatInt x = some (bs (Lib.itoa x)):=fun k x hx=>s_FormatInt_eq (hv x (List.mem_of_getElem? hx)).1 (hv x (List.mem_of_getElem? hx)).2
  have hlm:∀ k,k≤v.length→k≤lim:=fun k hk=>Nat.le_trans (Nat.le_trans hk hl) (by decide)
  have k1:=iter_up (step:=i_texts_s3 v) v.length (fun k=>(((v.take k).map fun x=>bs (Lib.itoa x)),(k:Int))) (v.map fun x=>bs (Lib.itoa x)) (fun k hk=>by
    have hx:v[k]? = some v[k]:=List.getElem?_eq_getElem hk
    have hd:decide ((k:Int) < (v.length:Int)) = true:=by simp; omega
    simp only [i_texts_s3,hd,cond_true,idx_some hx,Option.bind_some,hI k _ hx]
    rw [appD_some (by rw [lim_eq]; simp; omega) (by rw [lim_eq]; simp; omega),Option.bind_some,wrap_succ (hlm k (by omega)),take_map_succ _ hx]
    rfl) (by simp [i_texts_s3])
  have k2:=iter_up (step:=s_l2Text_s3 v) v.length (fun k=>(((v.take k).map fun x=>bs (Lib.itoa x)),(k:Int))) (v.map fun x=>bs (Lib.itoa x)) (fun k hk=>by
    have hx:v[k]? = some v[k]:=List.getElem?_eq_getElem hk
    have hd:decide ((k:Int) < (v.length:Int)) = true:=by simp; omega
    simp only [s_l2Text_s3,hd,cond_true,idx_some hx,Option.bind_some,hS k _ hx]
    rw [appD_some (by rw [lim_eq]; simp; omega) (by rw [lim_eq]; simp; omega),Option.bind_some,wrap_succ (hlm k (by omega)),take_map_succ _ hx]
    rfl) (by simp [s_l2Text_s3])
  have e0:((((v.take 0).map fun x=>bs (Lib.itoa x)),((0:Nat):Int)):List ByteArray × Int) = ([],0):=rfl
  rw [e0] at k1 k2
  have hm:(v.map fun x=>bs (Lib.itoa x)) = (v.map Lib.itoa).map bs:=by rw [List.map_map]; rfl
  have e1:(⟨#[44]⟩:ByteArray) = bs [44]:=rfl
  have hb:(v.map Lib.itoa).length * (([44]:List UInt8).length + 31)≤100000000:=by simp; omega
  have hl2:(v.map Lib.itoa).length≤1000000:=by simp; omega
  constructor
  · unfold i_texts
    rw [k1]
    simp only [Option.bind_some,hm,e1,i_Join_eq (nums_bd hv) hb]
    rfl
  · unfold s_l2Text
    rw [k2]
    simp only [Option.bind_some,hm,e1,s_Join_eq hl2 (nums_bd hv) hb]
    rfl
end Go.Proofs.YtfmdddoidjhipaaGreatDoor
