import Derived.Test.YtafmabnolelknaaGreatDoorDG11
import Derived.Test.YtafmabnolelknaaGreatDoorDG29
import Derived.Test.YtafmabnolelknaaGreatDoorProg
import Derived.KernelRfl
namespace Go.Proofs
open Go.Ab
set_option maxRecDepth 100000
set_option linter.unusedVariables false
def vc17(p1:OPa)(q2:OSl)(h:Heap)(Q:AHp):Prop:=
 AC Tryz.prog 68 [.ptr p1] h λv3 h4=>∃b5:Bool,v3= .bool b5/\
 vif (!b5)
 (Q (.tup [.int .i64 0,.int .i64 6]) h4)
 (vPtr p1 λp6=>
 ∃p7:OPa,zA h4 ⟨p6.b,p6.o+3⟩ 1=some [.ptr p7]/\
 AC Tryz.prog 79 [.ptr p7,.sl q2] h4 λv8 h9=>∃n10:Int,v8= .int .i64 n10/\
 vPtr p1 λp11=>
 ∃q12:OSl,zA h9 ⟨p11.b,p11.o+4⟩ 1=some [.sl q12]/\
 ∃(I16:LHp) (m17:LHn),I16 [.int .i64 n10,.sl none,.int .i64 0] h9/\
 ∀n13:Int,∀q14:OSl,∀n15:Int,∀h18:Heap,I16 [.int .i64 n13,.sl q14,.int .i64 n15] h18->
 vif (decide (n15<(zJ q12:Int)))
 (vIdx q12 n15 5 λp19=>
 ∃p20:OPa,∃n21 n22 n23:Int,∃q24:OSl,zA h18 p19 5=some [.ptr p20,.int .i64 n21,.int .i64 n22,.int .i64 n23,.sl q24]/\
 AC Tryz.prog 80 [.sl q2,.agg [.int .i64 n22,.int .i64 n23]] h18 λv25 h26=>∃b27:Bool,v25= .bool b27/\
 vif b27
 (AC Tryz.prog 81 [.sl q24] h26 λv28 h29=>∃q30:OSl,v28= .sl q30/\
 AC Tryz.prog 82 [.sl q2] h29 λv31 h32=>∃q33:OSl,v31= .sl q33/\
 PNew [.sl q33] true h32 λa34 h35=>
 zM 1 24 q30 (some ⟨a34,0,1,1,0⟩) h35 λq36 h37=>
 PNew [.ptr p20,.int .i64 n21,.int .i64 n22,.int .i64 n23,.sl q36] true h37 λa38 h39=>
 zM 5 56 q14 (some ⟨a38,0,1,1,0⟩) h39 λq40 h41=>
 (True)/\I16 [.int .i64 n13,.sl q40,.int .i64 (zC .i64 (n15+1))] h41/\m17 [.int .i64 n13,.sl q40,.int .i64 (zC .i64 (n15+1))] h41<m17 [.int .i64 n13,.sl q14,.int .i64 n15] h18)
 (AC Tryz.prog 83 [.ptr p20] h26 λv42 h43=>∃n44:Int,v42= .int .i64 n44/\
 AC Tryz.prog 78 [.ptr p1,.agg [.ptr p20,.int .i64 n21,.int .i64 n22,.int .i64 n23,.sl q24]] h43 λv45 h46=>∃n47:Int,v45= .int .i64 n47/\
 vif (n47 !=0)
 (vPtr p1 λp48=>
 ∃q49:OSl,zA h46 ⟨p48.b,p48.o+4⟩ 1=some [.sl q49]/\
 zW 5 q49 (zC .i64 (n15+1)) none none λq50=>
 zM 5 56 q14 q50 h46 λq51 h52=>
 vPtr p1 λp53=>
 zL h52 ⟨p53.b,p53.o+4⟩ [.sl q51] λh54=>
 Q (.tup [.int .i64 (zC .i64 (n13+n44)),.int .i64 n47]) h54)
 ((True)/\I16 [.int .i64 (zC .i64 (n13+n44)),.sl q14,.int .i64 (zC .i64 (n15+1))] h46/\m17 [.int .i64 (zC .i64 (n13+n44)),.sl q14,.int .i64 (zC .i64 (n15+1))] h46<m17 [.int .i64 n13,.sl q14,.int .i64 n15] h18)))
 (vPtr p1 λp55=>
 zL h18 ⟨p55.b,p55.o+4⟩ [.sl q14] λh56=>
 Q (.tup [.int .i64 n13,.int .i64 0]) h56))
theorem ac17 {p1:OPa}{q2:OSl}{h:Heap}{Q:AHp}(hk:vc17 p1 q2 h Q):AC Tryz.prog 17 [.ptr p1,.sl q2] h Q:=
 zK (H:=zE [9] [(0,[6,7,25],[])]) (by kernel_rfl) (by kernel_rfl) hk
def vc19(p1:OPa)(h:Heap)(Q:AHp):Prop:=
 AC Tryz.prog 68 [.ptr p1] h λv2 h3=>∃b4:Bool,v2= .bool b4/\
 vif (!b4)
 (Q (.tup [.sl none,.int .i64 6]) h3)
 (vPtr p1 λp5=>
 ∃p6:OPa,zA h3 ⟨p5.b,p5.o+3⟩ 1=some [.ptr p6]/\
 AC Tryz.prog 74 [.ptr p6] h3 λv7 h8=>∃q9:OSl,v7= .sl q9/\
 AC Tryz.prog 85 [.ptr p1,.sl q9,.agg [.int .i64 0,.int .i64 0,.int .i64 0,.int .i64 0],.func (.func 86) [] []] h8 λv10 h11=>∃q12:OSl,∃n13:Int,v10= .tup [.sl q12,.int .i64 n13]/\
 Q (.tup [.sl q12,.int .i64 n13]) h11)
theorem ac19 {p1:OPa}{h:Heap}{Q:AHp}(hk:vc19 p1 h Q):AC Tryz.prog 19 [.ptr p1] h Q:=
 zK (H:=zE [] []) (by kernel_rfl) (by kernel_rfl) hk
def vc68(p1:OPa)(h:Heap)(Q:AHp):Prop:=
 vif (!(p1.isNone))
 (vPtr p1 λp2=>
 ∃p3:OPa,zA h ⟨p2.b,p2.o+3⟩ 1=some [.ptr p3]/\
 Q (.bool (!(p3.isNone))) h)
 (Q (.bool false) h)
theorem ac68 {p1:OPa}{h:Heap}{Q:AHp}(hk:vc68 p1 h Q):AC Tryz.prog 68 [.ptr p1] h Q:=
 zK (H:=zE [] []) (by kernel_rfl) (by kernel_rfl) hk
def vc85(p1:OPa)(q2:OSl)(n3:Int)(n4:Int)(n5:Int)(n6:Int)(v7:AV)(h:Heap)(Q:AHp):Prop:=
 AC Tryz.prog 149 [.ptr p1,.agg [.int .i64 n3,.int .i64 n4,.int .i64 n5,.int .i64 n6]] h λv8 h9=>∃q10:OSl,∃n11:Int,v8= .tup [.sl q10,.int .i64 n11]/\
 vif (n11 !=0)
 (Q (.tup [.sl none,.int .i64 n11]) h9)
 (PNew [.sl q2] true h9 λa12 h13=>
 AC Tryz.prog 150 [.sl (some ⟨a12,0,1,1,0⟩),.sl q10] h13 λv14 h15=>∃p16:OPa,∃n17:Int,v14= .tup [.ptr p16,.int .i64 n17]/\
 vif (n17 !=0)
 (Q (.tup [.sl none,.int .i64 n17]) h15)
 (AC Tryz.prog 152 [.ptr p16,v7] h15 λv18 h19=>∃q20:OSl,∃n21:Int,v18= .tup [.sl q20,.int .i64 n21]/\
 ACD Tryz.prog 151 [.ptr p16] h19 λ_ h22=>
 Q (.tup [.sl q20,.int .i64 n21]) h22))
theorem ac85 {p1:OPa}{q2:OSl}{n3:Int}{n4:Int}{n5:Int}{n6:Int}{v7:AV}{h:Heap}{Q:AHp}(hk:vc85 p1 q2 n3 n4 n5 n6 v7 h Q):AC Tryz.prog 85 [.ptr p1,.sl q2,.agg [.int .i64 n3,.int .i64 n4,.int .i64 n5,.int .i64 n6],v7] h Q:=
 AC_byD (n:=5) (H:=zE [6] []) (by kernel_rfl) (by kernel_rfl) hk
theorem acd151 {p1:OPa}{h:Heap}{Q:AHp}(hk:vc151 p1 h Q):ACD Tryz.prog 151 [.ptr p1] h Q:=
 ACD_by (H:=zE [] [(0,[11],[])]) (by kernel_rfl) (by kernel_rfl) hk
end Go.Proofs
