import Derived.Test.YtafmabnolelknaaGreatDoorDG1
import Derived.Test.YtafmabnolelknaaGreatDoorDG8
import Derived.Test.YtafmabnolelknaaGreatDoorDG18
import Derived.Sort.Walk0
namespace Go.Dsk
open Go.Ab Go.Sort Go.Proofs
set_option linter.unusedVariables false
set_option linter.unusedSimpArgs false
abbrev Str:=List UInt8
def strE:Enc Str:=⟨1,λs=>[.str s],λ_=>rfl,by omega,λ_=>rfl⟩
theorem bl_lt {a b:Str}:bytesLess a b=true↔a<b:=by
 unfold bytesLess;rw[bytesLess_eq];simp
theorem bl_nlt {a b:Str}:bytesLess a b=false↔b<=a:=by
 have:bytesLess a b=decide (a<b):=bytesLess_eq a b
 rw[this,decide_eq_false_iff_not,List.not_lt]
theorem zIO {n x:Str}:∀{l:List Str},x∈insR n l↔x=n∨x∈l
 | []=>by simp[insR]
 |y::l=>by
  unfold insR
  split
  ·rw[List.mem_cons,zIO (l:=l),List.mem_cons]
   constructor
   ·rintro(h|h|h)
    ·exact .inr (.inl h)
    ·exact .inl h
    ·exact .inr (.inr h)
   ·rintro(h|h|h)
    ·exact .inr (.inl h)
    ·exact .inl h
    ·exact .inr (.inr h)
  ·split
   ·rename_i h;subst h;simp
   ·simp
theorem zF4 {n:Str}:∀{l:List Str},l.Pairwise (· < ·)->(insR n l).Pairwise (· < ·)
 | [],_=>by simp[insR]
 |y::l,h=>by
  rw[List.pairwise_cons] at h
  unfold insR
  split
  ·rename_i hl
   rw[List.pairwise_cons]
   refine⟨λx hx=> ?_,zF4 h.2⟩
   rcases zIO.1 hx with rfl|hx
   ·exact bl_lt.1 hl
   ·exact h.1 x hx
  ·rename_i hl
   split
   ·rw[List.pairwise_cons];exact h
   ·rename_i hne
    have hle:n<=y:=bl_nlt.1 (by simpa using hl)
    have hlt:n<y:=by
     rcases(inferInstance:Decidable (n<y)) with h1|h1
     ·exact(hne (List.le_antisymm (List.not_lt.1 h1) hle)).elim
     ·exact h1
    rw[List.pairwise_cons,List.pairwise_cons]
    refine⟨λx hx=> ?_,h⟩
    rcases List.mem_cons.1 hx with rfl|hx
    ·exact hlt
    ·exact List.lt_trans hlt (h.1 x hx)
theorem zL7:∀{l:List Str} {o:List Str},o.Pairwise (· < ·)->(l.foldl (λo n=>insR n o) o).Pairwise (· < ·)/\∀x,x∈l.foldl (λo n=>insR n o) o↔x∈l∨x∈o
 | [],o,h=>⟨h,by simp⟩
 |n::l,o,h=>by
  have:=zL7 (l:=l) (zF4 (n:=n) h)
  refine⟨this.1,λx=> ?_⟩
  rw[List.foldl_cons,this.2 x,zIO,List.mem_cons]
  constructor
  ·rintro(h|h|h)
   ·exact .inl (.inr h)
   ·exact .inl (.inl h)
   ·exact .inr h
  ·rintro((h|h)|h)
   ·exact .inr (.inl h)
   ·exact .inl h
   ·exact .inr (.inr h)
theorem zBT {l:List Str}:(vO l).Pairwise (· < ·):=(zL7 (l:=l) List.Pairwise.nil).1
theorem zBU {l:List Str}{x:Str}:x∈vO l↔x∈l:=by
 unfold vO
 rw[(zL7 (l:=l) List.Pairwise.nil).2 x];simp
theorem zCL {l:List Str}:(vO l).Nodup:=zBT.imp λh e=>by subst e;exact List.lt_irrefl _ h
theorem zNG {n:Str}:∀{l:List Str},(insR n l).length<=l.length+1
 | []=>by simp[insR]
 |y::l=>by
  unfold insR
  split
  ·have:=zNG (n:=n) (l:=l);simp;omega
  ·split<;>simp
theorem zNL:∀{l o:List Str},(l.foldl (λo n=>insR n o) o).length<=l.length+o.length
 | [],o=>by simp
 |n::l,o=>by
  have h1:=zNL (l:=l) (o:=insR n o)
  have h2:=zNG (n:=n) (l:=o)
  simp only[List.foldl_cons,List.length_cons];omega
theorem zE3 {l:List Str}:(vO l).length<=l.length:=by
 have:=zNL (l:=l) (o:=[]);simpa[vO] using this
theorem zLE {h:Heap}{l:List Str}:Ext h (zD2 h l):=by
 cases l with
 |nil=>exact .refl _
 |cons s l=>exact .app _ _
theorem zLD {h:Heap}{l:List Str}:∃q,zQA h.length l= .sl q/\HasL strE (zD2 h l) q l:=by
 cases l with
 |nil=>exact⟨none,rfl,rfl⟩
 |cons s l=>
  refine⟨_,rfl,rfl,Nat.le_refl _,.inr rfl,?_⟩
  have e:strE.all (s::l)=(s::l).map .str:=by
   have:∀m:List Str,strE.all m=m.map .str:=by
    intro m
    induction m with
    |nil=>rfl
    |cons x m ih=>rw[Enc.all_cons,ih];rfl
   exact this _
  rw[zP (C:=(s::l).map .str) (rw':=true) (by simp[zD2]) (by simp[strE]),e,List.drop_zero,List.take_of_length_le (by simp[strE])]
end Go.Dsk
