/-
  Plain: halves, tightened and combined (on the regions' words). No condition.
-/
import Derived.Test.YtfknaeamhcpfgaaGreatPlI
import Derived.Test.YtfknaeamhcpfgaaGreatPlK
namespace Go.Proofs.YtfknaeamhcpfgaaGreat
open Go Go.Proofs.YtfknaeamhcpfgaaGreat.Eng
set_option linter.all false
structure IsHf (n:Int) (h:Hf):Prop where
 n1:1≤n
 n3:n≤3
 len:(h.1.length:Int)=n
 all:∀x∈h.1,-20≤x∧x≤20
 g:0<gcdL h.1
 b1:-200≤h.2
 b2:h.2≤200
theorem halfB_iff {n:Int}{h:Hf}:halfB n h=true↔IsHf n h:=by
 simp only[halfB,Bool.and_eq_true,inR_iff,beq_iff_eq,decide_eq_true_eq,List.all_eq_true];constructor
 ·rintro⟨⟨⟨⟨⟨a,b⟩,c⟩,d⟩,e⟩,f,g⟩;exact⟨a,b,c,d,e,f,g⟩
 ·rintro⟨a,b,c,d,e,f,g⟩;exact⟨⟨⟨⟨⟨a,b⟩,c⟩,d⟩,e⟩,f,g⟩
theorem IsHf.sm {n:Int}{h:Hf}(hh:IsHf n h):∀x∈h.1,Sm x:=fun x hx=>by have:=hh.all x hx;unfold Sm;omega
theorem IsHf.lim {n:Int}{h:Hf}(hh:IsHf n h):h.1.length≤Eng.lim:=by have h1:=hh.len;have h2:=hh.n3;exact Nat.le_trans (show h.1.length≤3 by omega) (by decide)
theorem IsHf.small {n:Int}{h:Hf}(hh:IsHf n h):h.1.length≤3:=by have h1:=hh.len;have h2:=hh.n3;omega
end Go.Proofs.YtfknaeamhcpfgaaGreat
