import Derived.Test.YtafmabnolelknaaGreatDoorDG8
import Derived.Test.YtafmabnolelknaaGreatDoorProg
import Derived.KernelRfl
namespace Go.Proofs
open Go.Ab
set_option maxRecDepth 100000
set_option linter.unusedVariables false
def vc33(p1:OPa)(p2:OPa)(s3:List UInt8)(n4:Int)(n5:Int)(h:Heap)(Q:AHp):Prop:=
 vif (p1.isNone)
 (Q (.tup [.ptr none,.int .i64 6]) h)
 (vif (p2.isNone)
 (Q (.tup [.ptr none,.int .i64 6]) h)
 (AC Tryz.prog 101 [.int .i64 n4] h λv6 h7=>∃p8:OPa,∃n9:Int,v6= .tup [.ptr p8,.int .i64 n9]/\
 vif (n9 !=0)
 (Q (.tup [.ptr none,.int .i64 1]) h7)
 (vif (decide ((s3.length:Int)<1))
 (Q (.tup [.ptr none,.int .i64 1]) h7)
 (vif (decide ((s3.length:Int)>12))
 (Q (.tup [.ptr none,.int .i64 1]) h7)
 (vif (decide (n5<0))
 (Q (.tup [.ptr none,.int .i64 1]) h7)
 (vif (decide (n5>1073741824))
 (Q (.tup [.ptr none,.int .i64 1]) h7)
 (PNew [.ptr p1,.ptr p2,.str s3,.ptr p8,.sl none,.int .i64 n5] true h7 λa10 h11=>
 Q (.tup [.ptr (some ⟨a10,0⟩),.int .i64 0]) h11)))))))
theorem ac33 {p1:OPa}{p2:OPa}{s3:List UInt8}{n4:Int}{n5:Int}{h:Heap}{Q:AHp}(hk:vc33 p1 p2 s3 n4 n5 h Q):AC Tryz.prog 33 [.ptr p1,.ptr p2,.str s3,.int .i64 n4,.int .i64 n5] h Q:=
 zK (H:=zE [] []) (by kernel_rfl) (by kernel_rfl) hk
def vc14(p1:OPa)(n2:Int)(n3:Int)(n4:Int)(n5:Int)(h:Heap)(Q:AHp):Prop:=
 AC Tryz.prog 68 [.ptr p1] h λv6 h7=>∃b8:Bool,v6= .bool b8/\
 vif (!b8)
 (Q (.int .i64 6) h7)
 (AC Tryz.prog 69 [.agg [.int .i64 n2,.int .i64 n3,.int .i64 n4,.int .i64 n5]] h7 λv9 h10=>∃n11:Int,v9= .int .i64 n11/\
 vif (n11 !=0)
 (Q (.int .i64 n11) h10)
 (vPtr p1 λp12=>
 ∃p13:OPa,zA h10 ⟨p12.b,p12.o+3⟩ 1=some [.ptr p13]/\
 vPtr p1 λp14=>
 ∃p15:OPa,zA h10 ⟨p14.b,p14.o+3⟩ 1=some [.ptr p15]/\
 AC Tryz.prog 70 [.ptr p13] h10 λv16 h17=>∃n18:Int,v16= .int .i64 n18/\
 (∃p35:OPa,zA h17 ⟨p14.b,p14.o+3⟩ 1=some [.ptr p35]/\
 LV.val (.ptr p35)=LV.val (.ptr p15))/\
 AC Tryz.prog 71 [.ptr p15] h17 λv19 h20=>∃n21:Int,v19= .int .i64 n21/\
 vif (decide (n18≥n21))
 (AC Tryz.prog 15 [.ptr p1] h20 λv22 h23=>∃n24:Int,v22= .int .i64 n24/\
 vif (n24 !=0)
 (Q (.int .i64 n24) h23)
 (vPtr p1 λp25=>
 ∃p26:OPa,zA h23 ⟨p25.b,p25.o+3⟩ 1=some [.ptr p26]/\
 AC Tryz.prog 72 [.ptr p26,.agg [.int .i64 n2,.int .i64 n3,.int .i64 n4,.int .i64 n5]] h23 λv27 h28=>∃n29:Int,v27= .int .i64 n29/\
 Q (.int .i64 n29) h28))
 (vPtr p1 λp30=>
 ∃p31:OPa,zA h20 ⟨p30.b,p30.o+3⟩ 1=some [.ptr p31]/\
 AC Tryz.prog 72 [.ptr p31,.agg [.int .i64 n2,.int .i64 n3,.int .i64 n4,.int .i64 n5]] h20 λv32 h33=>∃n34:Int,v32= .int .i64 n34/\
 Q (.int .i64 n34) h33)))
theorem ac14 {p1:OPa}{n2:Int}{n3:Int}{n4:Int}{n5:Int}{h:Heap}{Q:AHp}(hk:vc14 p1 n2 n3 n4 n5 h Q):AC Tryz.prog 14 [.ptr p1,.agg [.int .i64 n2,.int .i64 n3,.int .i64 n4,.int .i64 n5]] h Q:=
 zK (H:=zE [3] []) (by kernel_rfl) (by kernel_rfl) hk
def vc15(p1:OPa)(h:Heap)(Q:AHp):Prop:=
 AC Tryz.prog 68 [.ptr p1] h λv2 h3=>∃b4:Bool,v2= .bool b4/\
 vif (!b4)
 (Q (.int .i64 6) h3)
 (vPtr p1 λp5=>
 ∃p6:OPa,zA h3 ⟨p5.b,p5.o+3⟩ 1=some [.ptr p6]/\
 AC Tryz.prog 70 [.ptr p6] h3 λv7 h8=>∃n9:Int,v7= .int .i64 n9/\
 vif (n9==0)
 (Q (.int .i64 0) h8)
 (vPtr p1 λp10=>
 ∃q11:OSl,zA h8 ⟨p10.b,p10.o+4⟩ 1=some [.sl q11]/\
 vif (decide ((zJ q11:Int)≥32))
 (Q (.int .i64 31) h8)
 (vPtr p1 λp12=>
 ∃p13:OPa,zA h8 ⟨p12.b,p12.o+3⟩ 1=some [.ptr p13]/\
 AC Tryz.prog 74 [.ptr p13] h8 λv14 h15=>∃q16:OSl,v14= .sl q16/\
 AC Tryz.prog 73 [.ptr p1,.sl q16] h15 λv17 h18=>∃p19:OPa,∃n20 n21 n22:Int,∃q23:OSl,∃n24:Int,v17= .tup [.agg [.ptr p19,.int .i64 n20,.int .i64 n21,.int .i64 n22,.sl q23],.int .i64 n24]/\
 vif (n24 !=0)
 (Q (.int .i64 n24) h18)
 (vPtr p1 λp25=>
 ∃q26:OSl,zA h18 ⟨p25.b,p25.o+4⟩ 1=some [.sl q26]/\
 PNew [.ptr p19,.int .i64 n20,.int .i64 n21,.int .i64 n22,.sl q23] true h18 λa27 h28=>
 (∃q38:OSl,zA h28 ⟨p25.b,p25.o+4⟩ 1=some [.sl q38]/\
 LV.val (.sl q38)=LV.val (.sl q26))/\
 zM 5 56 q26 (some ⟨a27,0,1,1,0⟩) h28 λq29 h30=>
 vPtr p1 λp31=>
 zL h30 ⟨p31.b,p31.o+4⟩ [.sl q29] λh32=>
 vPtr p1 λp33=>
 ∃p34:OPa,zA h32 ⟨p33.b,p33.o+3⟩ 1=some [.ptr p34]/\
 AC Tryz.prog 75 [.ptr p34] h32 λv35 h36=>∃q37:OSl,v35= .sl q37/\
 Q (.int .i64 0) h36))))
theorem ac15 {p1:OPa}{h:Heap}{Q:AHp}(hk:vc15 p1 h Q):AC Tryz.prog 15 [.ptr p1] h Q:=
 zK (H:=zE [3] []) (by kernel_rfl) (by kernel_rfl) hk
def vc16(p1:OPa)(h:Heap)(Q:AHp):Prop:=
 AC Tryz.prog 68 [.ptr p1] h λv2 h3=>∃b4:Bool,v2= .bool b4/\
 vif (!b4)
 (Q (.int .i64 6) h3)
 (vPtr p1 λp5=>
 ∃q6:OSl,zA h3 ⟨p5.b,p5.o+4⟩ 1=some [.sl q6]/\
 vif (decide ((zJ q6:Int)<2))
 (Q (.int .i64 0) h3)
 (vPtr p1 λp7=>
 ∃p8:OPa,zA h3 ⟨p7.b,p7.o+0⟩ 1=some [.ptr p8]/\
 AC Tryz.prog 76 [.ptr p8] h3 λv9 h10=>∃b11:Bool,v9= .bool b11/\
 vif b11
 (Q (.int .i64 50) h10)
 (AC Tryz.prog 77 [.ptr p1] h10 λv12 h13=>∃q14:OSl,∃n15:Int,v12= .tup [.sl q14,.int .i64 n15]/\
 vif (n15 !=0)
 (Q (.int .i64 n15) h13)
 (vif (decide ((zJ q14:Int)>0))
 (AC Tryz.prog 73 [.ptr p1,.sl q14] h13 λv16 h17=>∃p18:OPa,∃n19 n20 n21:Int,∃q22:OSl,∃n23:Int,v16= .tup [.agg [.ptr p18,.int .i64 n19,.int .i64 n20,.int .i64 n21,.sl q22],.int .i64 n23]/\
 vif (n23 !=0)
 (Q (.int .i64 n23) h17)
 (PNew [.ptr p18,.int .i64 n19,.int .i64 n20,.int .i64 n21,.sl q22] true h17 λa24 h25=>
 vPtr p1 λp26=>
 ∃q27:OSl,zA h25 ⟨p26.b,p26.o+4⟩ 1=some [.sl q27]/\
 vPtr p1 λp28=>
 zL h25 ⟨p28.b,p28.o+4⟩ [.sl (some ⟨a24,0,1,1,0⟩)] λh29=>
 ∃(I31:LHp) (m32:LHn),I31 [.int .i64 0] h29/\
 ∀n30:Int,∀h33:Heap,I31 [.int .i64 n30] h33->
 vif (decide (n30<(zJ q27:Int)))
 (vIdx q27 n30 5 λp34=>
 ∃p35:OPa,∃n36 n37 n38:Int,∃q39:OSl,zA h33 p34 5=some [.ptr p35,.int .i64 n36,.int .i64 n37,.int .i64 n38,.sl q39]/\
 AC Tryz.prog 78 [.ptr p1,.agg [.ptr p35,.int .i64 n36,.int .i64 n37,.int .i64 n38,.sl q39]] h33 λv40 h41=>∃n42:Int,v40= .int .i64 n42/\
 vif (n42 !=0)
 (Q (.int .i64 n42) h41)
 (((some [.ptr p18,.int .i64 n19,.int .i64 n20,.int .i64 n21,.sl q22]:Option (List AV))=some [.ptr p18,.int .i64 n19,.int .i64 n20,.int .i64 n21,.sl q22]/\True)/\I31 [.int .i64 (zC .i64 (n30+1))] h41/\m32 [.int .i64 (zC .i64 (n30+1))] h41<m32 [.int .i64 n30] h33))
 (Q (.int .i64 0) h33)))
 (vPtr p1 λp43=>
 ∃q44:OSl,zA h13 ⟨p43.b,p43.o+4⟩ 1=some [.sl q44]/\
 vPtr p1 λp45=>
 zL h13 ⟨p45.b,p45.o+4⟩ [.sl none] λh46=>
 ∃(I48:LHp) (m49:LHn),I48 [.int .i64 0] h46/\
 ∀n47:Int,∀h50:Heap,I48 [.int .i64 n47] h50->
 vif (decide (n47<(zJ q44:Int)))
 (vIdx q44 n47 5 λp51=>
 ∃p52:OPa,∃n53 n54 n55:Int,∃q56:OSl,zA h50 p51 5=some [.ptr p52,.int .i64 n53,.int .i64 n54,.int .i64 n55,.sl q56]/\
 AC Tryz.prog 78 [.ptr p1,.agg [.ptr p52,.int .i64 n53,.int .i64 n54,.int .i64 n55,.sl q56]] h50 λv57 h58=>∃n59:Int,v57= .int .i64 n59/\
 vif (n59 !=0)
 (Q (.int .i64 n59) h58)
 ((True)/\I48 [.int .i64 (zC .i64 (n47+1))] h58/\m49 [.int .i64 (zC .i64 (n47+1))] h58<m49 [.int .i64 n47] h50))
 (Q (.int .i64 0) h50))))))
theorem ac16 {p1:OPa}{h:Heap}{Q:AHp}(hk:vc16 p1 h Q):AC Tryz.prog 16 [.ptr p1] h Q:=
 zK (H:=zE [6,10] [(1,[60],[])]) (by kernel_rfl) (by kernel_rfl) hk
def vc23(p1:OPa)(h:Heap)(Q:AHp):Prop:=
 AC Tryz.prog 68 [.ptr p1] h λv2 h3=>∃b4:Bool,v2= .bool b4/\
 vif (!b4)
 (Q (.sl none) h3)
 (vPtr p1 λp5=>
 ∃q6:OSl,zA h3 ⟨p5.b,p5.o+4⟩ 1=some [.sl q6]/\
 ∃(I9:LHp) (m10:LHn),I9 [.sl none,.int .i64 0] h3/\
 ∀q7:OSl,∀n8:Int,∀h11:Heap,I9 [.sl q7,.int .i64 n8] h11->
 vif (decide (n8<(zJ q6:Int)))
 (vIdx q6 n8 5 λp12=>
 ∃p13:OPa,∃n14 n15 n16:Int,∃q17:OSl,zA h11 p12 5=some [.ptr p13,.int .i64 n14,.int .i64 n15,.int .i64 n16,.sl q17]/\
 AC Tryz.prog 88 [.agg [.ptr p13,.int .i64 n14,.int .i64 n15,.int .i64 n16,.sl q17]] h11 λv18 h19=>∃s20:List UInt8,∃n21 n22:Int,v18= .agg [.str s20,.int .i64 n21,.int .i64 n22]/\
 PNew [.str s20,.int .i64 n21,.int .i64 n22] true h19 λa23 h24=>
 zM 3 32 q7 (some ⟨a23,0,1,1,0⟩) h24 λq25 h26=>
 (True)/\I9 [.sl q25,.int .i64 (zC .i64 (n8+1))] h26/\m10 [.sl q25,.int .i64 (zC .i64 (n8+1))] h26<m10 [.sl q7,.int .i64 n8] h11)
 (Q (.sl q7) h11))
theorem ac23 {p1:OPa}{h:Heap}{Q:AHp}(hk:vc23 p1 h Q):AC Tryz.prog 23 [.ptr p1] h Q:=
 zK (H:=zE [5] [(0,[3,14],[])]) (by kernel_rfl) (by kernel_rfl) hk
def vc24(p1:OPa)(h:Heap)(Q:AHp):Prop:=
 AC Tryz.prog 68 [.ptr p1] h λv2 h3=>∃b4:Bool,v2= .bool b4/\
 vif (!b4)
 (Q (.int .i64 0) h3)
 (vPtr p1 λp5=>
 ∃p6:OPa,zA h3 ⟨p5.b,p5.o+3⟩ 1=some [.ptr p6]/\
 AC Tryz.prog 70 [.ptr p6] h3 λv7 h8=>∃n9:Int,v7= .int .i64 n9/\
 Q (.int .i64 n9) h8)
theorem ac24 {p1:OPa}{h:Heap}{Q:AHp}(hk:vc24 p1 h Q):AC Tryz.prog 24 [.ptr p1] h Q:=
 zK (H:=zE [] []) (by kernel_rfl) (by kernel_rfl) hk
def vc26(p1:OPa)(h:Heap)(Q:AHp):Prop:=
 AC Tryz.prog 24 [.ptr p1] h λv2 h3=>∃n4:Int,v2= .int .i64 n4/\
 AC Tryz.prog 23 [.ptr p1] h3 λv5 h6=>∃q7:OSl,v5= .sl q7/\
 ∃(I10:LHp) (m11:LHn),I10 [.int .i64 n4,.int .i64 0] h6/\
 ∀n8 n9:Int,∀h12:Heap,I10 [.int .i64 n8,.int .i64 n9] h12->
 vif (decide (n9<(zJ q7:Int)))
 (vIdx q7 n9 3 λp13=>
 ∃s14:List UInt8,∃n15 n16:Int,zA h12 p13 3=some [.str s14,.int .i64 n15,.int .i64 n16]/\
 (True)/\I10 [.int .i64 (zC .i64 (n8+n16)),.int .i64 (zC .i64 (n9+1))] h12/\m11 [.int .i64 (zC .i64 (n8+n16)),.int .i64 (zC .i64 (n9+1))] h12<m11 [.int .i64 n8,.int .i64 n9] h12)
 (Q (.int .i64 n8) h12)
theorem ac26 {p1:OPa}{h:Heap}{Q:AHp}(hk:vc26 p1 h Q):AC Tryz.prog 26 [.ptr p1] h Q:=
 zK (H:=zE [5] [(0,[3,11],[])]) (by kernel_rfl) (by kernel_rfl) hk
def vc27(p1:OPa)(n2:Int)(n3:Int)(h:Heap)(Q:AHp):Prop:=
 PNew [.int .i64 n2,.int .i64 n3] true h λa4 h5=>
 AC Tryz.prog 68 [.ptr p1] h5 λv6 h7=>∃b8:Bool,v6= .bool b8/\
 vif (!b8)
 (Q (.tup [.sl none,.int .i64 6]) h7)
 (vPtr p1 λp9=>
 ∃p10:OPa,zA h7 ⟨p9.b,p9.o+3⟩ 1=some [.ptr p10]/\
 ∃n11 n12:Int,zA h7 ⟨a4,0⟩ 2=some [.int .i64 n11,.int .i64 n12]/\
 ∃n13 n14:Int,zA h7 ⟨a4,0⟩ 2=some [.int .i64 n13,.int .i64 n14]/\
 AC Tryz.prog 89 [.ptr p10,.agg [.int .i64 n11,.int .i64 n12]] h7 λv15 h16=>∃q17:OSl,v15= .sl q17/\
 (∃n27 n28:Int,zA h16 ⟨a4,0⟩ 2=some [.int .i64 n27,.int .i64 n28]/\
 LV.val (.agg [.int .i64 n27,.int .i64 n28])=LV.val (.agg [.int .i64 n13,.int .i64 n14]))/\
 AC Tryz.prog 85 [.ptr p1,.sl q17,.agg [.int .i64 n13,.int .i64 n14,.int .i64 0,.int .i64 0],.func (.func 90) [] [.ptr (some ⟨a4,0⟩)]] h16 λv18 h19=>∃q20:OSl,∃n21:Int,v18= .tup [.sl q20,.int .i64 n21]/\
 ∃n22 n23:Int,zA h19 ⟨a4,0⟩ 2=some [.int .i64 n22,.int .i64 n23]/\
 AC Tryz.prog 91 [.sl q20,.agg [.int .i64 n22,.int .i64 n23]] h19 λv24 h25=>∃q26:OSl,v24= .sl q26/\
 Q (.tup [.sl q26,.int .i64 n21]) h25)
theorem ac27 {p1:OPa}{n2:Int}{n3:Int}{h:Heap}{Q:AHp}(hk:vc27 p1 n2 n3 h Q):AC Tryz.prog 27 [.ptr p1,.agg [.int .i64 n2,.int .i64 n3]] h Q:=
 zK (H:=zE [] []) (by kernel_rfl) (by kernel_rfl) hk
def vc29(p1:OPa)(h:Heap)(Q:AHp):Prop:=
 AC Tryz.prog 68 [.ptr p1] h λv2 h3=>∃b4:Bool,v2= .bool b4/\
 vif (!b4)
 (Q (.int .i64 6) h3)
 (vPtr p1 λp5=>
 ∃q6:OSl,zA h3 ⟨p5.b,p5.o+4⟩ 1=some [.sl q6]/\
 ∃(I8:LHp) (m9:LHn),I8 [.int .i64 0] h3/\
 ∀n7:Int,∀h10:Heap,I8 [.int .i64 n7] h10->
 vif (decide (n7<(zJ q6:Int)))
 (vIdx q6 n7 5 λp11=>
 ∃p12:OPa,∃n13 n14 n15:Int,∃q16:OSl,zA h10 p11 5=some [.ptr p12,.int .i64 n13,.int .i64 n14,.int .i64 n15,.sl q16]/\
 AC Tryz.prog 93 [.ptr p12] h10 λv17 h18=>∃n19:Int,v17= .int .i64 n19/\
 vif (n19 !=0)
 (Q (.int .i64 n19) h18)
 ((True)/\I8 [.int .i64 (zC .i64 (n7+1))] h18/\m9 [.int .i64 (zC .i64 (n7+1))] h18<m9 [.int .i64 n7] h10))
 (Q (.int .i64 0) h10))
theorem ac29 {p1:OPa}{h:Heap}{Q:AHp}(hk:vc29 p1 h Q):AC Tryz.prog 29 [.ptr p1] h Q:=
 zK (H:=zE [4] [(0,[14],[])]) (by kernel_rfl) (by kernel_rfl) hk
def vc30(p1:OPa)(h:Heap)(Q:AHp):Prop:=
 AC Tryz.prog 68 [.ptr p1] h λv2 h3=>∃b4:Bool,v2= .bool b4/\
 vif (!b4)
 (Q (.int .i64 0) h3)
 (vPtr p1 λp5=>
 ∃n6:Int,zA h3 ⟨p5.b,p5.o+5⟩ 1=some [.int .i64 n6]/\
 Q (.int .i64 n6) h3)
theorem ac30 {p1:OPa}{h:Heap}{Q:AHp}(hk:vc30 p1 h Q):AC Tryz.prog 30 [.ptr p1] h Q:=
 zK (H:=zE [] []) (by kernel_rfl) (by kernel_rfl) hk
def vc73(p1:OPa)(q2:OSl)(h:Heap)(Q:AHp):Prop:=
 vPtr p1 λp3=>
 ∃s4:List UInt8,zA h ⟨p3.b,p3.o+2⟩ 1=some [.str s4]/\
 need (decide (s4.length+ [46].length<=9223372036854775807))
 (vPtr p1 λp5=>
 ∃n6:Int,zA h ⟨p5.b,p5.o+5⟩ 1=some [.int .i64 n6]/\
 AC Tryz.prog 119 [.int .i64 n6] h λv7 h8=>∃s9:List UInt8,v7= .str s9/\
 (∃s29:List UInt8,zA h8 ⟨p3.b,p3.o+2⟩ 1=some [.str s29]/\
 LV.val (.str s29)=LV.val (.str s4))/\
 need (decide ((s4++[46]).length+s9.length<=9223372036854775807))
 (vPtr p1 λp10=>
 ∃n11:Int,zA h8 ⟨p10.b,p10.o+5⟩ 1=some [.int .i64 n11]/\
 vPtr p1 λp12=>
 ∃n13:Int,zA h8 ⟨p12.b,p12.o+5⟩ 1=some [.int .i64 n13]/\
 vPtr p1 λp14=>
 zL h8 ⟨p14.b,p14.o+5⟩ [.int .i64 (zC .i64 (n13+1))] λh15=>
 vPtr p1 λp16=>
 ∃p17:OPa,zA h15 ⟨p16.b,p16.o+0⟩ 1=some [.ptr p17]/\
 AC Tryz.prog 130 [.ptr p17,.str ((s4++[46])++s9),.int .i64 (zC .i64 (1+(shlK .i64 n11 20))),.sl q2] h15 λv18 h19=>∃n20:Int,v18= .int .i64 n20/\
 vif (n20 !=0)
 (Q (.tup [.agg [.ptr none,.int .i64 0,.int .i64 0,.int .i64 0,.sl none],.int .i64 n20]) h19)
 (AC Tryz.prog 92 [.ptr p1,.str ((s4++[46])++s9),.int .i64 (zC .i64 (1+(shlK .i64 n11 20)))] h19 λv21 h22=>∃p23:OPa,∃n24 n25 n26:Int,∃q27:OSl,∃n28:Int,v21= .tup [.agg [.ptr p23,.int .i64 n24,.int .i64 n25,.int .i64 n26,.sl q27],.int .i64 n28]/\
 Q (.tup [.agg [.ptr p23,.int .i64 n24,.int .i64 n25,.int .i64 n26,.sl q27],.int .i64 n28]) h22)))
theorem ac73 {p1:OPa}{q2:OSl}{h:Heap}{Q:AHp}(hk:vc73 p1 q2 h Q):AC Tryz.prog 73 [.ptr p1,.sl q2] h Q:=
 zK (H:=zE [4] []) (by kernel_rfl) (by kernel_rfl) hk
def vc77(p1:OPa)(h:Heap)(Q:AHp):Prop:=
 vPtr p1 λp2=>
 ∃q3:OSl,zA h ⟨p2.b,p2.o+4⟩ 1=some [.sl q3]/\
 ∃(I6:LHp) (m7:LHn),I6 [.sl none,.int .i64 0] h/\
 ∀q4:OSl,∀n5:Int,∀h8:Heap,I6 [.sl q4,.int .i64 n5] h8->
 vif (decide (n5<(zJ q3:Int)))
 (vIdx q3 n5 5 λp9=>
 ∃p10:OPa,∃n11 n12 n13:Int,∃q14:OSl,zA h8 p9 5=some [.ptr p10,.int .i64 n11,.int .i64 n12,.int .i64 n13,.sl q14]/\
 PNew [.ptr none,.int .i64 0,.int .i64 0,.int .i64 0,.sl none] true h8 λa15 h16=>
 zL h16 ⟨a15,0⟩ [.ptr p10,.int .i64 n11,.int .i64 n12,.int .i64 n13,.sl q14] λh17=>
 vPtr p1 λp18=>
 ∃p19:OPa,zA h17 ⟨p18.b,p18.o+1⟩ 1=some [.ptr p19]/\
 ∃p20:OPa,zA h17 ⟨a15,0⟩ 1=some [.ptr p20]/\
 AC Tryz.prog 134 [.ptr p19,.ptr p20,.agg [.int .i64 0,.int .i64 0,.int .i64 0,.int .i64 0]] h17 λv21 h22=>∃p23:OPa,∃n24:Int,v21= .tup [.ptr p23,.int .i64 n24]/\
 vif (n24 !=0)
 (Q (.tup [.sl none,.int .i64 n24]) h22)
 (AC Tryz.prog 135 [.ptr p23] h22 λv25 h26=>∃q27:OSl,∃n28:Int,v25= .tup [.sl q27,.int .i64 n28]/\
 vif (n28 !=0)
 (Q (.tup [.sl none,.int .i64 n28]) h26)
 (AC Tryz.prog 136 [.sl q27,.func (.func 137) [] [.ptr (some ⟨a15,0⟩)]] h26 λv29 h30=>∃q31:OSl,v29= .sl q31/\
 zM 4 32 q4 q31 h30 λq32 h33=>
 (True)/\I6 [.sl q32,.int .i64 (zC .i64 (n5+1))] h33/\m7 [.sl q32,.int .i64 (zC .i64 (n5+1))] h33<m7 [.sl q4,.int .i64 n5] h8)))
 (AC Tryz.prog 139 [.sl q4] h8 λv34 h35=>∃q36:OSl,∃n37:Int,v34= .tup [.sl q36,.int .i64 n37]/\
 Q (.tup [.sl q36,.int .i64 n37]) h35)
theorem ac77 {p1:OPa}{h:Heap}{Q:AHp}(hk:vc77 p1 h Q):AC Tryz.prog 77 [.ptr p1] h Q:=
 zK (H:=zE [] [(0,[4,15],[])]) (by kernel_rfl) (by kernel_rfl) hk
def vc78(p1:OPa)(p2:OPa)(n3:Int)(n4:Int)(n5:Int)(q6:OSl)(h:Heap)(Q:AHp):Prop:=
 vPtr p1 λp7=>
 ∃p8:OPa,zA h ⟨p7.b,p7.o+1⟩ 1=some [.ptr p8]/\
 AC Tryz.prog 141 [.ptr p2] h λv9 h10=>∃s11:List UInt8,v9= .str s11/\
 (∃p24:OPa,zA h10 ⟨p7.b,p7.o+1⟩ 1=some [.ptr p24]/\
 LV.val (.ptr p24)=LV.val (.ptr p8))/\
 AC Tryz.prog 140 [.ptr p8,.str s11] h10 λv12 h13=>∃n14:Int,v12= .int .i64 n14/\
 vPtr p1 λp15=>
 ∃p16:OPa,zA h13 ⟨p15.b,p15.o+0⟩ 1=some [.ptr p16]/\
 AC Tryz.prog 141 [.ptr p2] h13 λv17 h18=>∃s19:List UInt8,v17= .str s19/\
 (∃p23:OPa,zA h18 ⟨p15.b,p15.o+0⟩ 1=some [.ptr p23]/\
 LV.val (.ptr p23)=LV.val (.ptr p16))/\
 AC Tryz.prog 142 [.ptr p16,.str s19] h18 λv20 h21=>∃n22:Int,v20= .int .i64 n22/\
 Q (.int .i64 n22) h21
theorem ac78 {p1:OPa}{p2:OPa}{n3:Int}{n4:Int}{n5:Int}{q6:OSl}{h:Heap}{Q:AHp}(hk:vc78 p1 p2 n3 n4 n5 q6 h Q):AC Tryz.prog 78 [.ptr p1,.agg [.ptr p2,.int .i64 n3,.int .i64 n4,.int .i64 n5,.sl q6]] h Q:=
 zK (H:=zE [3] []) (by kernel_rfl) (by kernel_rfl) hk
def vc86(n1:Int)(n2:Int)(n3:Int)(n4:Int)(h:Heap)(Q:AHp):Prop:=
 Q (.bool true) h
theorem ac86 {n1:Int}{n2:Int}{n3:Int}{n4:Int}{h:Heap}{Q:AHp}(hk:vc86 n1 n2 n3 n4 h Q):AC Tryz.prog 86 [.agg [.int .i64 n1,.int .i64 n2,.int .i64 n3,.int .i64 n4]] h Q:=
 zK (H:=zE [1] []) (by kernel_rfl) (by kernel_rfl) hk
def vc88(p1:OPa)(n2:Int)(n3:Int)(n4:Int)(q5:OSl)(h:Heap)(Q:AHp):Prop:=
 AC Tryz.prog 141 [.ptr p1] h λv6 h7=>∃s8:List UInt8,v6= .str s8/\
 (LV.val (.ptr p1)=LV.val (.ptr p1))/\
 (LV.val (.int .i64 n2)=LV.val (.int .i64 n2))/\
 AC Tryz.prog 83 [.ptr p1] h7 λv9 h10=>∃n11:Int,v9= .int .i64 n11/\
 (LV.val (.int .i64 n2)=LV.val (.int .i64 n2))/\
 Q (.agg [.str s8,.int .i64 n2,.int .i64 n11]) h10
theorem ac88 {p1:OPa}{n2:Int}{n3:Int}{n4:Int}{q5:OSl}{h:Heap}{Q:AHp}(hk:vc88 p1 n2 n3 n4 q5 h Q):AC Tryz.prog 88 [.agg [.ptr p1,.int .i64 n2,.int .i64 n3,.int .i64 n4,.sl q5]] h Q:=
 zK (H:=zE [1,2] []) (by kernel_rfl) (by kernel_rfl) hk
def vc90(n1:Int)(n2:Int)(n3:Int)(n4:Int)(p5:PA)(h:Heap)(Q:AHp):Prop:=
 ∃n6 n7:Int,zA h p5 2=some [.int .i64 n6,.int .i64 n7]/\
 Q (.bool ((n1==n6)&&((n2==n7)&&true))) h
theorem ac90 {n1:Int}{n2:Int}{n3:Int}{n4:Int}{p5:PA}{h:Heap}{Q:AHp}(hk:vc90 n1 n2 n3 n4 p5 h Q):AC Tryz.prog 90 [.agg [.int .i64 n1,.int .i64 n2,.int .i64 n3,.int .i64 n4],.ptr (some p5)] h Q:=
 zK (H:=zE [2] []) (by kernel_rfl) (by kernel_rfl) hk
def vc92(p1:OPa)(s2:List UInt8)(n3:Int)(h:Heap)(Q:AHp):Prop:=
 vPtr p1 λp4=>
 ∃p5:OPa,zA h ⟨p4.b,p4.o+0⟩ 1=some [.ptr p5]/\
 AC Tryz.prog 155 [.ptr p5,.str s2,.int .i64 n3] h λv6 h7=>∃p8:OPa,∃n9:Int,v6= .tup [.ptr p8,.int .i64 n9]/\
 vif (n9 !=0)
 (Q (.tup [.agg [.ptr none,.int .i64 0,.int .i64 0,.int .i64 0,.sl none],.int .i64 n9]) h7)
 (AC Tryz.prog 156 [.ptr p8] h7 λv10 h11=>∃q12:OSl,∃n13:Int,v10= .tup [.sl q12,.int .i64 n13]/\
 vif (n13 !=0)
 (Q (.tup [.agg [.ptr none,.int .i64 0,.int .i64 0,.int .i64 0,.sl none],.int .i64 n13]) h11)
 (AC Tryz.prog 157 [.sl q12] h11 λv14 h15=>∃n16 n17:Int,v14= .agg [.int .i64 n16,.int .i64 n17]/\
 Q (.tup [.agg [.ptr p8,.int .i64 n3,.int .i64 n16,.int .i64 n17,.sl none],.int .i64 0]) h15))
theorem ac92 {p1:OPa}{s2:List UInt8}{n3:Int}{h:Heap}{Q:AHp}(hk:vc92 p1 s2 n3 h Q):AC Tryz.prog 92 [.ptr p1,.str s2,.int .i64 n3] h Q:=
 zK (H:=zE [6] []) (by kernel_rfl) (by kernel_rfl) hk
def vc137(n1:Int)(n2:Int)(n3:Int)(n4:Int)(p5:PA)(h:Heap)(Q:AHp):Prop:=
 ∃p6:OPa,∃n7 n8 n9:Int,∃q10:OSl,zA h p5 5=some [.ptr p6,.int .i64 n7,.int .i64 n8,.int .i64 n9,.sl q10]/\
 AC Tryz.prog 138 [.agg [.ptr p6,.int .i64 n7,.int .i64 n8,.int .i64 n9,.sl q10],.agg [.int .i64 n1,.int .i64 n2,.int .i64 n3,.int .i64 n4]] h λv11 h12=>∃b13:Bool,v11= .bool b13/\
 Q (.bool (!b13)) h12
theorem ac137 {n1:Int}{n2:Int}{n3:Int}{n4:Int}{p5:PA}{h:Heap}{Q:AHp}(hk:vc137 n1 n2 n3 n4 p5 h Q):AC Tryz.prog 137 [.agg [.int .i64 n1,.int .i64 n2,.int .i64 n3,.int .i64 n4],.ptr (some p5)] h Q:=
 zK (H:=zE [2] []) (by kernel_rfl) (by kernel_rfl) hk
def vc138(p1:OPa)(n2:Int)(n3:Int)(n4:Int)(q5:OSl)(n6:Int)(n7:Int)(n8:Int)(n9:Int)(h:Heap)(Q:AHp):Prop:=
 PNew [.int .i64 n6,.int .i64 n7,.int .i64 n8,.int .i64 n9] true h λa10 h11=>
 AC Tryz.prog 213 [.sl q5,.func (.func 214) [] [.ptr (some ⟨a10,0⟩)]] h11 λv12 h13=>∃b14:Bool,v12= .bool b14/\
 Q (.bool (!b14)) h13
theorem ac138 {p1:OPa}{n2:Int}{n3:Int}{n4:Int}{q5:OSl}{n6:Int}{n7:Int}{n8:Int}{n9:Int}{h:Heap}{Q:AHp}(hk:vc138 p1 n2 n3 n4 q5 n6 n7 n8 n9 h Q):AC Tryz.prog 138 [.agg [.ptr p1,.int .i64 n2,.int .i64 n3,.int .i64 n4,.sl q5],.agg [.int .i64 n6,.int .i64 n7,.int .i64 n8,.int .i64 n9]] h Q:=
 zK (H:=zE [2] []) (by kernel_rfl) (by kernel_rfl) hk
def vc149(p1:OPa)(n2:Int)(n3:Int)(n4:Int)(n5:Int)(h:Heap)(Q:AHp):Prop:=
 vPtr p1 λp6=>
 ∃q7:OSl,zA h ⟨p6.b,p6.o+4⟩ 1=some [.sl q7]/\
 ∃(I10:LHp) (m11:LHn),I10 [.sl none,.int .i64 0] h/\
 ∀q8:OSl,∀n9:Int,∀h12:Heap,I10 [.sl q8,.int .i64 n9] h12->
 vif (decide (n9<(zJ q7:Int)))
 (vIdx q7 n9 5 λp13=>
 ∃p14:OPa,∃n15 n16 n17:Int,∃q18:OSl,zA h12 p13 5=some [.ptr p14,.int .i64 n15,.int .i64 n16,.int .i64 n17,.sl q18]/\
 vPtr p1 λp19=>
 ∃p20:OPa,zA h12 ⟨p19.b,p19.o+1⟩ 1=some [.ptr p20]/\
 AC Tryz.prog 134 [.ptr p20,.ptr p14,.agg [.int .i64 n2,.int .i64 n3,.int .i64 n4,.int .i64 n5]] h12 λv21 h22=>∃p23:OPa,∃n24:Int,v21= .tup [.ptr p23,.int .i64 n24]/\
 vif (n24 !=0)
 (∃(I26:LHp) (m27:LHn),I26 [.int .i64 0] h22/\
 ∀n25:Int,∀h28:Heap,I26 [.int .i64 n25] h28->
 vif (decide (n25<(zJ q8:Int)))
 (vIdx q8 n25 1 λp29=>
 ∃p30:OPa,zA h28 p29 1=some [.ptr p30]/\
 AC Tryz.prog 208 [.ptr p30] h28 λv31 h32=>v31= .tup []/\
 ((some [.ptr p14,.int .i64 n15,.int .i64 n16,.int .i64 n17,.sl q18]:Option (List AV))=some [.ptr p14,.int .i64 n15,.int .i64 n16,.int .i64 n17,.sl q18]/\(some [.int .i64 n2,.int .i64 n3,.int .i64 n4,.int .i64 n5]:Option (List AV))=some [.int .i64 n2,.int .i64 n3,.int .i64 n4,.int .i64 n5]/\True)/\I26 [.int .i64 (zC .i64 (n25+1))] h32/\m27 [.int .i64 (zC .i64 (n25+1))] h32<m27 [.int .i64 n25] h28)
 (Q (.tup [.sl none,.int .i64 n24]) h28))
 (PNew [.ptr p23] true h22 λa33 h34=>
 zM 1 8 q8 (some ⟨a33,0,1,1,0⟩) h34 λq35 h36=>
 ((some [.int .i64 n2,.int .i64 n3,.int .i64 n4,.int .i64 n5]:Option (List AV))=some [.int .i64 n2,.int .i64 n3,.int .i64 n4,.int .i64 n5]/\True)/\I10 [.sl q35,.int .i64 (zC .i64 (n9+1))] h36/\m11 [.sl q35,.int .i64 (zC .i64 (n9+1))] h36<m11 [.sl q8,.int .i64 n9] h12))
 (Q (.tup [.sl q8,.int .i64 0]) h12)
theorem ac149 {p1:OPa}{n2:Int}{n3:Int}{n4:Int}{n5:Int}{h:Heap}{Q:AHp}(hk:vc149 p1 n2 n3 n4 n5 h Q):AC Tryz.prog 149 [.ptr p1,.agg [.int .i64 n2,.int .i64 n3,.int .i64 n4,.int .i64 n5]] h Q:=
 zK (H:=zE [3,8] [(0,[6,18],[]),(2,[37],[])]) (by kernel_rfl) (by kernel_rfl) hk
def vc157(q1:OSl)(h:Heap)(Q:AHp):Prop:=
 ∃(I5:LHp) (m6:LHn),I5 [.int .i64 0,.int .i64 0,.int .i64 0] h/\
 ∀n2 n3 n4:Int,∀h7:Heap,I5 [.int .i64 n2,.int .i64 n3,.int .i64 n4] h7->
 vif (decide (n2<(zJ q1:Int)))
 (vIdx q1 n2 4 λp8=>
 ∃n9 n10:Int,∃n11 n12:Int,zA h7 p8 4=some [.int .i64 n9,.int .i64 n10,.int .i64 n11,.int .i64 n12]/\
 AC Tryz.prog 229 [.agg [.int .i64 n3,.int .i64 n4],.agg [.int .i64 n9,.int .i64 n10]] h7 λv13 h14=>∃n15 n16:Int,v13= .agg [.int .i64 n15,.int .i64 n16]/\
 (True/\(some [.int .i64 0,.int .i64 0]:Option (List AV))=some [.int .i64 0,.int .i64 0]/\True)/\I5 [.int .i64 (zC .i64 (n2+1)),.int .i64 n15,.int .i64 n16] h14/\m6 [.int .i64 (zC .i64 (n2+1)),.int .i64 n15,.int .i64 n16] h14<m6 [.int .i64 n2,.int .i64 n3,.int .i64 n4] h7)
 (Q (.agg [.int .i64 n3,.int .i64 n4]) h7)
theorem ac157 {q1:OSl}{h:Heap}{Q:AHp}(hk:vc157 q1 h Q):AC Tryz.prog 157 [.sl q1] h Q:=
 zK (H:=zE [2,3,5] [(0,[8],[1])]) (by kernel_rfl) (by kernel_rfl) hk
def vc70(p1:OPa)(h:Heap)(Q:AHp):Prop:=
 AC Tryz.prog 129 [.ptr p1] h λv2 h3=>∃b4:Bool,v2= .bool b4/\
 vif (!b4)
 (Q (.int .i64 0) h3)
 (vPtr p1 λp5=>
 ∃q6:OSl,zA h3 ⟨p5.b,p5.o+0⟩ 1=some [.sl q6]/\
 Q (.int .i64 (zJ q6:Int)) h3)
theorem ac70 {p1:OPa}{h:Heap}{Q:AHp}(hk:vc70 p1 h Q):AC Tryz.prog 70 [.ptr p1] h Q:=
 zK (H:=zE [] []) (by kernel_rfl) (by kernel_rfl) hk
def vc71(p1:OPa)(h:Heap)(Q:AHp):Prop:=
 AC Tryz.prog 129 [.ptr p1] h λv2 h3=>∃b4:Bool,v2= .bool b4/\
 vif (!b4)
 (Q (.int .i64 0) h3)
 (vPtr p1 λp5=>
 ∃n6:Int,zA h3 ⟨p5.b,p5.o+1⟩ 1=some [.int .i64 n6]/\
 Q (.int .i64 n6) h3)
theorem ac71 {p1:OPa}{h:Heap}{Q:AHp}(hk:vc71 p1 h Q):AC Tryz.prog 71 [.ptr p1] h Q:=
 zK (H:=zE [] []) (by kernel_rfl) (by kernel_rfl) hk
def vc72(p1:OPa)(n2:Int)(n3:Int)(n4:Int)(n5:Int)(h:Heap)(Q:AHp):Prop:=
 AC Tryz.prog 129 [.ptr p1] h λv6 h7=>∃b8:Bool,v6= .bool b8/\
 vif (!b8)
 (Q (.int .i64 6) h7)
 (AC Tryz.prog 69 [.agg [.int .i64 n2,.int .i64 n3,.int .i64 n4,.int .i64 n5]] h7 λv9 h10=>∃n11:Int,v9= .int .i64 n11/\
 vif (n11 !=0)
 (Q (.int .i64 n11) h10)
 (vPtr p1 λp12=>
 ∃q13:OSl,zA h10 ⟨p12.b,p12.o+0⟩ 1=some [.sl q13]/\
 vPtr p1 λp14=>
 ∃n15:Int,zA h10 ⟨p14.b,p14.o+1⟩ 1=some [.int .i64 n15]/\
 vif (decide ((zJ q13:Int)≥n15))
 (Q (.int .i64 2) h10)
 (vPtr p1 λp16=>
 ∃q17:OSl,zA h10 ⟨p16.b,p16.o+0⟩ 1=some [.sl q17]/\
 PNew [.int .i64 n2,.int .i64 n3,.int .i64 n4,.int .i64 n5] true h10 λa18 h19=>
 (∃q30:OSl,zA h19 ⟨p16.b,p16.o+0⟩ 1=some [.sl q30]/\
 LV.val (.sl q30)=LV.val (.sl q17))/\
 zM 4 32 q17 (some ⟨a18,0,1,1,0⟩) h19 λq20 h21=>
 vPtr p1 λp22=>
 zL h21 ⟨p22.b,p22.o+0⟩ [.sl q20] λh23=>
 vPtr p1 λp24=>
 ∃n25:Int,zA h23 ⟨p24.b,p24.o+2⟩ 1=some [.int .i64 n25]/\
 vPtr p1 λp26=>
 ∃q27:OSl,zA h23 ⟨p26.b,p26.o+0⟩ 1=some [.sl q27]/\
 vPtr p1 λp28=>
 zL h23 ⟨p28.b,p28.o+2⟩ [.int .i64 (zEF n25 (zJ q27:Int))] λh29=>
 Q (.int .i64 0) h29)))
theorem ac72 {p1:OPa}{n2:Int}{n3:Int}{n4:Int}{n5:Int}{h:Heap}{Q:AHp}(hk:vc72 p1 n2 n3 n4 n5 h Q):AC Tryz.prog 72 [.ptr p1,.agg [.int .i64 n2,.int .i64 n3,.int .i64 n4,.int .i64 n5]] h Q:=
 zK (H:=zE [3] []) (by kernel_rfl) (by kernel_rfl) hk
def vc74(p1:OPa)(h:Heap)(Q:AHp):Prop:=
 AC Tryz.prog 129 [.ptr p1] h λv2 h3=>∃b4:Bool,v2= .bool b4/\
 vif (!b4)
 (Q (.sl none) h3)
 (vPtr p1 λp5=>
 ∃q6:OSl,zA h3 ⟨p5.b,p5.o+0⟩ 1=some [.sl q6]/\
 AC Tryz.prog 131 [.sl q6] h3 λv7 h8=>∃q9:OSl,v7= .sl q9/\
 AC Tryz.prog 132 [.sl q9,.func (.func 133) [] []] h8 λv10 h11=>v10= .tup []/\
 Q (.sl q9) h11)
theorem ac74 {p1:OPa}{h:Heap}{Q:AHp}(hk:vc74 p1 h Q):AC Tryz.prog 74 [.ptr p1] h Q:=
 zK (H:=zE [] []) (by kernel_rfl) (by kernel_rfl) hk
def vc75(p1:OPa)(h:Heap)(Q:AHp):Prop:=
 AC Tryz.prog 74 [.ptr p1] h λv2 h3=>∃q4:OSl,v2= .sl q4/\
 AC Tryz.prog 129 [.ptr p1] h3 λv5 h6=>∃b7:Bool,v5= .bool b7/\
 vif b7
 (vPtr p1 λp8=>
 zL h6 ⟨p8.b,p8.o+0⟩ [.sl none] λh9=>
 Q (.sl q4) h9)
 (Q (.sl q4) h6)
theorem ac75 {p1:OPa}{h:Heap}{Q:AHp}(hk:vc75 p1 h Q):AC Tryz.prog 75 [.ptr p1] h Q:=
 zK (H:=zE [] []) (by kernel_rfl) (by kernel_rfl) hk
def vc79(p1:OPa)(q2:OSl)(h:Heap)(Q:AHp):Prop:=
 PNew [.sl q2] true h λa3 h4=>
 AC Tryz.prog 129 [.ptr p1] h4 λv5 h6=>∃b7:Bool,v5= .bool b7/\
 vif (!b7)
 (Q (.int .i64 0) h6)
 (vPtr p1 λp8=>
 ∃q9:OSl,zA h6 ⟨p8.b,p8.o+0⟩ 1=some [.sl q9]/\
 vPtr p1 λp10=>
 ∃q11:OSl,zA h6 ⟨p10.b,p10.o+0⟩ 1=some [.sl q11]/\
 AC Tryz.prog 143 [.sl q11,.func (.func 144) [] [.ptr (some ⟨a3,0⟩)]] h6 λv12 h13=>∃q14:OSl,v12= .sl q14/\
 vPtr p1 λp15=>
 zL h13 ⟨p15.b,p15.o+0⟩ [.sl q14] λh16=>
 vPtr p1 λp17=>
 ∃q18:OSl,zA h16 ⟨p17.b,p17.o+0⟩ 1=some [.sl q18]/\
 Q (.int .i64 (zC .i64 ((zJ q9:Int) - (zJ q18:Int)))) h16)
theorem ac79 {p1:OPa}{q2:OSl}{h:Heap}{Q:AHp}(hk:vc79 p1 q2 h Q):AC Tryz.prog 79 [.ptr p1,.sl q2] h Q:=
 zK (H:=zE [] []) (by kernel_rfl) (by kernel_rfl) hk
def vc89(p1:OPa)(n2:Int)(n3:Int)(h:Heap)(Q:AHp):Prop:=
 AC Tryz.prog 74 [.ptr p1] h λv4 h5=>∃q6:OSl,v4= .sl q6/\
 (LV.val (.agg [.int .i64 n2,.int .i64 n3])=LV.val (.agg [.int .i64 n2,.int .i64 n3]))/\
 AC Tryz.prog 143 [.sl q6,.func (.func 154) [.agg [.int .i64 n2,.int .i64 n3]] []] h5 λv7 h8=>∃q9:OSl,v7= .sl q9/\
 Q (.sl q9) h8
theorem ac89 {p1:OPa}{n2:Int}{n3:Int}{h:Heap}{Q:AHp}(hk:vc89 p1 n2 n3 h Q):AC Tryz.prog 89 [.ptr p1,.agg [.int .i64 n2,.int .i64 n3]] h Q:=
 zK (H:=zE [3] []) (by kernel_rfl) (by kernel_rfl) hk
def vc101(n1:Int)(h:Heap)(Q:AHp):Prop:=
 vif (decide (n1<1))
 (Q (.tup [.ptr none,.int .i64 1]) h)
 (vif (decide (n1>4096))
 (Q (.tup [.ptr none,.int .i64 1]) h)
 (PNew [.sl none,.int .i64 n1,.int .i64 0] true h λa2 h3=>
 Q (.tup [.ptr (some ⟨a2,0⟩),.int .i64 0]) h3))
theorem ac101 {n1:Int}{h:Heap}{Q:AHp}(hk:vc101 n1 h Q):AC Tryz.prog 101 [.int .i64 n1] h Q:=
 zK (H:=zE [] []) (by kernel_rfl) (by kernel_rfl) hk
def vc129(p1:OPa)(h:Heap)(Q:AHp):Prop:=
 vif (!(p1.isNone))
 (vPtr p1 λp2=>
 ∃n3:Int,zA h ⟨p2.b,p2.o+1⟩ 1=some [.int .i64 n3]/\
 Q (.bool (decide (n3>0))) h)
 (Q (.bool false) h)
theorem ac129 {p1:OPa}{h:Heap}{Q:AHp}(hk:vc129 p1 h Q):AC Tryz.prog 129 [.ptr p1] h Q:=
 zK (H:=zE [] []) (by kernel_rfl) (by kernel_rfl) hk
def vc143(q1:OSl)(p2:PA)(h:Heap)(Q:AHp):Prop:=
 PNew [.func (.func 144) [] [.ptr (some p2)]] true h λa3 h4=>
 AC Tryz.prog 136 [.sl q1,.func (.func 219) [] [.ptr (some ⟨a3,0⟩)]] h4 λv5 h6=>∃q7:OSl,v5= .sl q7/\
 Q (.sl q7) h6
theorem ac143 {q1:OSl}{p2:PA}{h:Heap}{Q:AHp}(hk:vc143 q1 p2 h Q):AC Tryz.prog 143 [.sl q1,.func (.func 144) [] [.ptr (some p2)]] h Q:=
 zK (H:=zE [] []) (by kernel_rfl) (by kernel_rfl) hk
def vc143b(q1:OSl)(n2:Int)(n3:Int)(h:Heap)(Q:AHp):Prop:=
 PNew [.func (.func 154) [.agg [.int .i64 n2,.int .i64 n3]] []] true h λa4 h5=>
 AC Tryz.prog 136 [.sl q1,.func (.func 219) [] [.ptr (some ⟨a4,0⟩)]] h5 λv6 h7=>∃q8:OSl,v6= .sl q8/\
 Q (.sl q8) h7
theorem ac143b {q1:OSl}{n2:Int}{n3:Int}{h:Heap}{Q:AHp}(hk:vc143b q1 n2 n3 h Q):AC Tryz.prog 143 [.sl q1,.func (.func 154) [.agg [.int .i64 n2,.int .i64 n3]] []] h Q:=
 zK (H:=zE [] []) (by kernel_rfl) (by kernel_rfl) hk
def vc144(n1:Int)(n2:Int)(n3:Int)(n4:Int)(p5:PA)(h:Heap)(Q:AHp):Prop:=
 ∃q6:OSl,zA h p5 1=some [.sl q6]/\
 AC Tryz.prog 80 [.sl q6,.agg [.int .i64 n1,.int .i64 n2]] h λv7 h8=>∃b9:Bool,v7= .bool b9/\
 Q (.bool b9) h8
theorem ac144 {n1:Int}{n2:Int}{n3:Int}{n4:Int}{p5:PA}{h:Heap}{Q:AHp}(hk:vc144 n1 n2 n3 n4 p5 h Q):AC Tryz.prog 144 [.agg [.int .i64 n1,.int .i64 n2,.int .i64 n3,.int .i64 n4],.ptr (some p5)] h Q:=
 zK (H:=zE [2] []) (by kernel_rfl) (by kernel_rfl) hk
def vc154(n1:Int)(n2:Int)(n3:Int)(n4:Int)(n5:Int)(n6:Int)(h:Heap)(Q:AHp):Prop:=
 Q (.bool ((n3==n1)&&((n4==n2)&&true))) h
theorem ac154 {n1:Int}{n2:Int}{n3:Int}{n4:Int}{n5:Int}{n6:Int}{h:Heap}{Q:AHp}(hk:vc154 n1 n2 n3 n4 n5 n6 h Q):AC Tryz.prog 154 [.agg [.int .i64 n1,.int .i64 n2],.agg [.int .i64 n3,.int .i64 n4,.int .i64 n5,.int .i64 n6]] h Q:=
 zK (H:=zE [2,3] []) (by kernel_rfl) (by kernel_rfl) hk
def vc219(n1:Int)(n2:Int)(n3:Int)(n4:Int)(p5:PA)(h:Heap)(Q:AHp):Prop:=
 ∃v6:AV,v6.one=true/\zA h p5 1=some (AV.cells v6)/\
 yV Tryz.prog (AC Tryz.prog) v6 [.agg [.int .i64 n1,.int .i64 n2,.int .i64 n3,.int .i64 n4]] h λv7 h8=>∃b9:Bool,v7= .bool b9/\
 Q (.bool (!b9)) h8
theorem ac219 {n1:Int}{n2:Int}{n3:Int}{n4:Int}{p5:PA}{h:Heap}{Q:AHp}(hk:vc219 n1 n2 n3 n4 p5 h Q):AC Tryz.prog 219 [.agg [.int .i64 n1,.int .i64 n2,.int .i64 n3,.int .i64 n4],.ptr (some p5)] h Q:=
 zK (H:=zE [2] []) (by kernel_rfl) (by kernel_rfl) hk
def vc136(q1:OSl)(v2:AV)(h:Heap)(Q:AHp):Prop:=
 AC Tryz.prog 212 [.sl q1,v2] h λv3 h4=>∃n5:Int,v3= .int .i64 n5/\
 vif (n5==(-1))
 (Q (.sl q1) h4)
 (∃(I8:LHp) (m9:LHn),I8 [.int .i64 n5,.int .i64 (zC .i64 (n5+1))] h4/\
 ∀n6 n7:Int,∀h10:Heap,I8 [.int .i64 n6,.int .i64 n7] h10->
 vif (decide (n7<(zJ q1:Int)))
 (vIdx q1 n7 4 λp11=>
 ∃n12 n13:Int,∃n14 n15:Int,zA h10 p11 4=some [.int .i64 n12,.int .i64 n13,.int .i64 n14,.int .i64 n15]/\
 yV Tryz.prog (AC Tryz.prog) v2 [.agg [.int .i64 n12,.int .i64 n13,.int .i64 n14,.int .i64 n15]] h10 λv16 h17=>∃b18:Bool,v16= .bool b18/\
 vif (!b18)
 (vIdx q1 n6 4 λp19=>
 zL h17 p19 [.int .i64 n12,.int .i64 n13,.int .i64 n14,.int .i64 n15] λh20=>
 (True)/\I8 [.int .i64 (zC .i64 (n6+1)),.int .i64 (zC .i64 (n7+1))] h20/\m9 [.int .i64 (zC .i64 (n6+1)),.int .i64 (zC .i64 (n7+1))] h20<m9 [.int .i64 n6,.int .i64 n7] h10)
 ((True)/\I8 [.int .i64 n6,.int .i64 (zC .i64 (n7+1))] h17/\m9 [.int .i64 n6,.int .i64 (zC .i64 (n7+1))] h17<m9 [.int .i64 n6,.int .i64 n7] h10))
 (zW 4 q1 n6 none none λq21=>
 zGI [.int .i64 0,.int .i64 0,.int .i64 0,.int .i64 0] q21 h10 λh22=>
 zW 4 q1 0 (some n6) none λq23=>
 Q (.sl q23) h22))
theorem ac136 {q1:OSl}{v2:AV}{h:Heap}{Q:AHp}(hk:vc136 q1 v2 h Q):AC Tryz.prog 136 [.sl q1,v2] h Q:=
 zK (H:=zE [7] [(0,[5,6],[])]) (by kernel_rfl) (by kernel_rfl) hk
def vc212(q1:OSl)(v2:AV)(h:Heap)(Q:AHp):Prop:=
 ∃(I4:LHp) (m5:LHn),I4 [.int .i64 0] h/\
 ∀n3:Int,∀h6:Heap,I4 [.int .i64 n3] h6->
 vif (decide (n3<(zJ q1:Int)))
 (vIdx q1 n3 4 λp7=>
 ∃n8 n9:Int,∃n10 n11:Int,zA h6 p7 4=some [.int .i64 n8,.int .i64 n9,.int .i64 n10,.int .i64 n11]/\
 yV Tryz.prog (AC Tryz.prog) v2 [.agg [.int .i64 n8,.int .i64 n9,.int .i64 n10,.int .i64 n11]] h6 λv12 h13=>∃b14:Bool,v12= .bool b14/\
 vif b14
 (Q (.int .i64 n3) h13)
 ((True)/\I4 [.int .i64 (zC .i64 (n3+1))] h13/\m5 [.int .i64 (zC .i64 (n3+1))] h13<m5 [.int .i64 n3] h6))
 (Q (.int .i64 (-1)) h6)
theorem ac212 {q1:OSl}{v2:AV}{h:Heap}{Q:AHp}(hk:vc212 q1 v2 h Q):AC Tryz.prog 212 [.sl q1,v2] h Q:=
 zK (H:=zE [] [(0,[8],[])]) (by kernel_rfl) (by kernel_rfl) hk
def vc80(q1:OSl)(n2:Int)(n3:Int)(h:Heap)(Q:AHp):Prop:=
 PNew [.int .i64 n2,.int .i64 n3] true h λa4 h5=>
 AC Tryz.prog 145 [.sl q1,.func (.func 146) [] [.ptr (some ⟨a4,0⟩)]] h5 λv6 h7=>∃b8:Bool,v6= .bool b8/\
 Q (.bool b8) h7
theorem ac80 {q1:OSl}{n2:Int}{n3:Int}{h:Heap}{Q:AHp}(hk:vc80 q1 n2 n3 h Q):AC Tryz.prog 80 [.sl q1,.agg [.int .i64 n2,.int .i64 n3]] h Q:=
 zK (H:=zE [] []) (by kernel_rfl) (by kernel_rfl) hk
def vc145(q1:OSl)(v2:AV)(h:Heap)(Q:AHp):Prop:=
 AC Tryz.prog 220 [.sl q1,v2] h λv3 h4=>∃n5:Int,v3= .int .i64 n5/\
 Q (.bool (decide (n5≥0))) h4
theorem ac145 {q1:OSl}{v2:AV}{h:Heap}{Q:AHp}(hk:vc145 q1 v2 h Q):AC Tryz.prog 145 [.sl q1,v2] h Q:=
 zK (H:=zE [] []) (by kernel_rfl) (by kernel_rfl) hk
def vc220(q1:OSl)(v2:AV)(h:Heap)(Q:AHp):Prop:=
 ∃(I4:LHp) (m5:LHn),I4 [.int .i64 0] h/\
 ∀n3:Int,∀h6:Heap,I4 [.int .i64 n3] h6->
 vif (decide (n3<(zJ q1:Int)))
 (vIdx q1 n3 2 λp7=>
 ∃n8 n9:Int,zA h6 p7 2=some [.int .i64 n8,.int .i64 n9]/\
 yV Tryz.prog (AC Tryz.prog) v2 [.agg [.int .i64 n8,.int .i64 n9]] h6 λv10 h11=>∃b12:Bool,v10= .bool b12/\
 vif b12
 (Q (.int .i64 n3) h11)
 ((True)/\I4 [.int .i64 (zC .i64 (n3+1))] h11/\m5 [.int .i64 (zC .i64 (n3+1))] h11<m5 [.int .i64 n3] h6))
 (Q (.int .i64 (-1)) h6)
theorem ac220 {q1:OSl}{v2:AV}{h:Heap}{Q:AHp}(hk:vc220 q1 v2 h Q):AC Tryz.prog 220 [.sl q1,v2] h Q:=
 zK (H:=zE [] [(0,[8],[])]) (by kernel_rfl) (by kernel_rfl) hk
def vc146(n1:Int)(n2:Int)(p3:PA)(h:Heap)(Q:AHp):Prop:=
 ∃n4 n5:Int,zA h p3 2=some [.int .i64 n4,.int .i64 n5]/\
 AC Tryz.prog 147 [.agg [.int .i64 n1,.int .i64 n2],.agg [.int .i64 n4,.int .i64 n5]] h λv6 h7=>∃b8:Bool,v6= .bool b8/\
 Q (.bool b8) h7
theorem ac146 {n1:Int}{n2:Int}{p3:PA}{h:Heap}{Q:AHp}(hk:vc146 n1 n2 p3 h Q):AC Tryz.prog 146 [.agg [.int .i64 n1,.int .i64 n2],.ptr (some p3)] h Q:=
 zK (H:=zE [2] []) (by kernel_rfl) (by kernel_rfl) hk
def vc147(n1:Int)(n2:Int)(n3:Int)(n4:Int)(h:Heap)(Q:AHp):Prop:=
 vif (decide (n1<=n3))
 (Q (.bool (decide (n2<=n4))) h)
 (Q (.bool false) h)
theorem ac147 {n1:Int}{n2:Int}{n3:Int}{n4:Int}{h:Heap}{Q:AHp}(hk:vc147 n1 n2 n3 n4 h Q):AC Tryz.prog 147 [.agg [.int .i64 n1,.int .i64 n2],.agg [.int .i64 n3,.int .i64 n4]] h Q:=
 zK (H:=zE [2,3] []) (by kernel_rfl) (by kernel_rfl) hk
def vc213(q1:OSl)(v2:AV)(h:Heap)(Q:AHp):Prop:=
 AC Tryz.prog 283 [.sl q1,v2] h λv3 h4=>∃n5:Int,v3= .int .i64 n5/\
 Q (.bool (decide (n5≥0))) h4
theorem ac213 {q1:OSl}{v2:AV}{h:Heap}{Q:AHp}(hk:vc213 q1 v2 h Q):AC Tryz.prog 213 [.sl q1,v2] h Q:=
 zK (H:=zE [] []) (by kernel_rfl) (by kernel_rfl) hk
def vc283(q1:OSl)(v2:AV)(h:Heap)(Q:AHp):Prop:=
 ∃(I4:LHp) (m5:LHn),I4 [.int .i64 0] h/\
 ∀n3:Int,∀h6:Heap,I4 [.int .i64 n3] h6->
 vif (decide (n3<(zJ q1:Int)))
 (vIdx q1 n3 1 λp7=>
 ∃q8:OSl,zA h6 p7 1=some [.sl q8]/\
 yV Tryz.prog (AC Tryz.prog) v2 [.sl q8] h6 λv9 h10=>∃b11:Bool,v9= .bool b11/\
 vif b11
 (Q (.int .i64 n3) h10)
 ((True)/\I4 [.int .i64 (zC .i64 (n3+1))] h10/\m5 [.int .i64 (zC .i64 (n3+1))] h10<m5 [.int .i64 n3] h6))
 (Q (.int .i64 (-1)) h6)
theorem ac283 {q1:OSl}{v2:AV}{h:Heap}{Q:AHp}(hk:vc283 q1 v2 h Q):AC Tryz.prog 283 [.sl q1,v2] h Q:=
 zK (H:=zE [] [(0,[8],[])]) (by kernel_rfl) (by kernel_rfl) hk
def vc214(q1:OSl)(p2:PA)(h:Heap)(Q:AHp):Prop:=
 ∃n3 n4:Int,zA h ⟨p2.b,p2.o+0⟩ 2=some [.int .i64 n3,.int .i64 n4]/\
 AC Tryz.prog 80 [.sl q1,.agg [.int .i64 n3,.int .i64 n4]] h λv5 h6=>∃b7:Bool,v5= .bool b7/\
 Q (.bool (!b7)) h6
theorem ac214 {q1:OSl}{p2:PA}{h:Heap}{Q:AHp}(hk:vc214 q1 p2 h Q):AC Tryz.prog 214 [.sl q1,.ptr (some p2)] h Q:=
 zK (H:=zE [] []) (by kernel_rfl) (by kernel_rfl) hk
def vc229(n1:Int)(n2:Int)(n3:Int)(n4:Int)(h:Heap)(Q:AHp):Prop:=
 Q (.agg [.int .i64 (zEF n1 n3),.int .i64 (zEF n2 n4)]) h
theorem ac229 {n1:Int}{n2:Int}{n3:Int}{n4:Int}{h:Heap}{Q:AHp}(hk:vc229 n1 n2 n3 n4 h Q):AC Tryz.prog 229 [.agg [.int .i64 n1,.int .i64 n2],.agg [.int .i64 n3,.int .i64 n4]] h Q:=
 zK (H:=zE [2,3,4] []) (by kernel_rfl) (by kernel_rfl) hk
def vc91(q1:OSl)(n2:Int)(n3:Int)(h:Heap)(Q:AHp):Prop:=
 ∃(I6:LHp) (m7:LHn),I6 [.sl none,.int .i64 0] h/\
 ∀q4:OSl,∀n5:Int,∀h8:Heap,I6 [.sl q4,.int .i64 n5] h8->
 vif (decide (n5<(zJ q1:Int)))
 (vIdx q1 n5 4 λp9=>
 ∃n10 n11:Int,∃n12 n13:Int,zA h8 p9 4=some [.int .i64 n10,.int .i64 n11,.int .i64 n12,.int .i64 n13]/\
 vif ((n10==n2)&&((n11==n3)&&true))
 (PNew [.int .i64 n12,.int .i64 n13] true h8 λa14 h15=>
 zM 2 16 q4 (some ⟨a14,0,1,1,0⟩) h15 λq16 h17=>
 ((some [.int .i64 n2,.int .i64 n3]:Option (List AV))=some [.int .i64 n2,.int .i64 n3]/\True)/\I6 [.sl q16,.int .i64 (zC .i64 (n5+1))] h17/\m7 [.sl q16,.int .i64 (zC .i64 (n5+1))] h17<m7 [.sl q4,.int .i64 n5] h8)
 (((some [.int .i64 n2,.int .i64 n3]:Option (List AV))=some [.int .i64 n2,.int .i64 n3]/\True)/\I6 [.sl q4,.int .i64 (zC .i64 (n5+1))] h8/\m7 [.sl q4,.int .i64 (zC .i64 (n5+1))] h8<m7 [.sl q4,.int .i64 n5] h8))
 (Q (.sl q4) h8)
theorem ac91 {q1:OSl}{n2:Int}{n3:Int}{h:Heap}{Q:AHp}(hk:vc91 q1 n2 n3 h Q):AC Tryz.prog 91 [.sl q1,.agg [.int .i64 n2,.int .i64 n3]] h Q:=
 zK (H:=zE [3,7] [(0,[5,10],[])]) (by kernel_rfl) (by kernel_rfl) hk
def vc139(q1:OSl)(h:Heap)(Q:AHp):Prop:=
 AC Tryz.prog 215 [.sl q1] h λv2 h3=>∃n4:Int,v2= .int .i64 n4/\
 vif (n4 !=0)
 (Q (.tup [.sl none,.int .i64 n4]) h3)
 (AC Tryz.prog 131 [.sl q1] h3 λv5 h6=>∃q7:OSl,v5= .sl q7/\
 AC Tryz.prog 132 [.sl q7,.func (.func 133) [] []] h6 λv8 h9=>v8= .tup []/\
 Q (.tup [.sl q7,.int .i64 0]) h9)
theorem ac139 {q1:OSl}{h:Heap}{Q:AHp}(hk:vc139 q1 h Q):AC Tryz.prog 139 [.sl q1] h Q:=
 zK (H:=zE [] []) (by kernel_rfl) (by kernel_rfl) hk
def vc83(p1:OPa)(h:Heap)(Q:AHp):Prop:=
 vif (p1.isNone)
 (Q (.int .i64 0) h)
 (vPtr p1 λp2=>
 ∃n3:Int,zA h ⟨p2.b,p2.o+3⟩ 1=some [.int .i64 n3]/\
 Q (.int .i64 n3) h)
theorem ac83 {p1:OPa}{h:Heap}{Q:AHp}(hk:vc83 p1 h Q):AC Tryz.prog 83 [.ptr p1] h Q:=
 zK (H:=zE [] []) (by kernel_rfl) (by kernel_rfl) hk
def vc156(p1:OPa)(h:Heap)(Q:AHp):Prop:=
 vif (p1.isNone)
 (Q (.tup [.sl none,.int .i64 6]) h)
 (vPtr p1 λp2=>
 ∃p3:OPa,zA h ⟨p2.b,p2.o+0+0⟩ 1=some [.ptr p3]/\
 vif (p3.isNone)
 (Q (.tup [.sl none,.int .i64 6]) h)
 (vPtr p1 λp4=>
 ∃q5:OSl,zA h ⟨p4.b,p4.o+4⟩ 1=some [.sl q5]/\
 ∃(I8:LHp) (m9:LHn),I8 [.sl none,.int .i64 0] h/\
 ∀q6:OSl,∀n7:Int,∀h10:Heap,I8 [.sl q6,.int .i64 n7] h10->
 vif (decide (n7<(zJ q5:Int)))
 (AC Tryz.prog 228 [.ptr p1,.int .i64 n7] h10 λv11 h12=>∃q13:OSl,∃n14:Int,v11= .tup [.sl q13,.int .i64 n14]/\
 vif (n14 !=0)
 (Q (.tup [.sl none,.int .i64 n14]) h12)
 (zM 4 32 q6 q13 h12 λq15 h16=>
 (True)/\I8 [.sl q15,.int .i64 (zC .i64 (n7+1))] h16/\m9 [.sl q15,.int .i64 (zC .i64 (n7+1))] h16<m9 [.sl q6,.int .i64 n7] h10))
 (vPtr p1 λp17=>
 ∃n18:Int,zA h10 ⟨p17.b,p17.o+3⟩ 1=some [.int .i64 n18]/\
 vif ((zJ q6:Int)!=n18)
 (Q (.tup [.sl none,.int .i64 80]) h10)
 (AC Tryz.prog 194 [.sl q6] h10 λv19 h20=>∃b21:Bool,v19= .bool b21/\
 vif (!b21)
 (Q (.tup [.sl none,.int .i64 80]) h20)
 (Q (.tup [.sl q6,.int .i64 0]) h20)))))
theorem ac156 {p1:OPa}{h:Heap}{Q:AHp}(hk:vc156 p1 h Q):AC Tryz.prog 156 [.ptr p1] h Q:=
 zK (H:=zE [] [(0,[4,23],[])]) (by kernel_rfl) (by kernel_rfl) hk
def vc140(p1:OPa)(s2:List UInt8)(h:Heap)(Q:AHp):Prop:=
 AC Tryz.prog 171 [.ptr p1] h λv3 h4=>∃b5:Bool,v3= .bool b5/\
 vif (!b5)
 (Q (.int .i64 0) h4)
 (vPtr p1 λp6=>
 ∃q7:OSl,zA h4 ⟨p6.b,p6.o+0⟩ 1=some [.sl q7]/\
 ∃(I10:LHp) (m11:LHn),I10 [.int .i64 0,.int .i64 0] h4/\
 ∀n8 n9:Int,∀h12:Heap,I10 [.int .i64 n8,.int .i64 n9] h12->
 vif (decide (n9<(zJ q7:Int)))
 (vPtr p1 λp13=>
 ∃q14:OSl,zA h12 ⟨p13.b,p13.o+0⟩ 1=some [.sl q14]/\
 vIdx q14 n9 6 λp15=>
 ∃b16:Bool,zA h12 ⟨p15.b,p15.o+5⟩ 1=some [.bool b16]/\
 vif (!b16)
 ((True)/\I10 [.int .i64 n8,.int .i64 (zC .i64 (n9+1))] h12/\m11 [.int .i64 n8,.int .i64 (zC .i64 (n9+1))] h12<m11 [.int .i64 n8,.int .i64 n9] h12)
 (∃s17:List UInt8,zA h12 ⟨p15.b,p15.o+0+0⟩ 1=some [.str s17]/\
 vif (!(s17==s2))
 ((True)/\I10 [.int .i64 n8,.int .i64 (zC .i64 (n9+1))] h12/\m11 [.int .i64 n8,.int .i64 (zC .i64 (n9+1))] h12<m11 [.int .i64 n8,.int .i64 n9] h12)
 (∃n18:Int,zA h12 ⟨p15.b,p15.o+3⟩ 1=some [.int .i64 n18]/\
 vif (decide (n18>0))
 ((True)/\I10 [.int .i64 n8,.int .i64 (zC .i64 (n9+1))] h12/\m11 [.int .i64 n8,.int .i64 (zC .i64 (n9+1))] h12<m11 [.int .i64 n8,.int .i64 n9] h12)
 (vPtr p1 λp19=>
 ∃m20:Option Nat,zA h12 ⟨p19.b,p19.o+1⟩ 1=some [.map m20]/\
 ∃s21:List UInt8,∃n22:Int,zA h12 ⟨p15.b,p15.o+0⟩ 2=some [.str s21,.int .i64 n22]/\
 vY Tryz.prog 180 m20 (.agg [.str s21,.int .i64 n22]) h12 λh23=>
 zL h23 p15 [.str [],.int .i64 0,.sl none,.int .i64 0,.bool false,.bool false] λh24=>
 (True)/\I10 [.int .i64 (zC .i64 (n8+1)),.int .i64 (zC .i64 (n9+1))] h24/\m11 [.int .i64 (zC .i64 (n8+1)),.int .i64 (zC .i64 (n9+1))] h24<m11 [.int .i64 n8,.int .i64 n9] h12))))
 (Q (.int .i64 n8) h12))
theorem ac140 {p1:OPa}{s2:List UInt8}{h:Heap}{Q:AHp}(hk:vc140 p1 s2 h Q):AC Tryz.prog 140 [.ptr p1,.str s2] h Q:=
 zK (H:=zE [] [(0,[5,16],[])]) (by kernel_rfl) (by kernel_rfl) hk
def vc142(p1:OPa)(s2:List UInt8)(h:Heap)(Q:AHp):Prop:=
 AC Tryz.prog 216 [.ptr p1,.str s2] h λv3 h4=>∃p5:OPa,∃n6:Int,v3= .tup [.ptr p5,.int .i64 n6]/\
 vif (n6 !=0)
 (Q (.int .i64 n6) h4)
 (AC Tryz.prog 217 [.ptr p1] h4 λv7 h8=>∃n9:Int,v7= .int .i64 n9/\
 vif (n9 !=0)
 (Q (.int .i64 n9) h8)
 (AC Tryz.prog 218 [.ptr p1,.ptr p5] h8 λv10 h11=>v10= .tup []/\
 vPtr p1 λp12=>
 ∃m13:Option Nat,zA h11 ⟨p12.b,p12.o+0⟩ 1=some [.map m13]/\
 vY Tryz.prog 9 m13 (.str s2) h11 λh14=>
 Q (.int .i64 0) h14))
theorem ac142 {p1:OPa}{s2:List UInt8}{h:Heap}{Q:AHp}(hk:vc142 p1 s2 h Q):AC Tryz.prog 142 [.ptr p1,.str s2] h Q:=
 zK (H:=zE [] []) (by kernel_rfl) (by kernel_rfl) hk
def vc76(p1:OPa)(h:Heap)(Q:AHp):Prop:=
 AC Tryz.prog 102 [.ptr p1] h λv2 h3=>∃b4:Bool,v2= .bool b4/\
 vif (!b4)
 (Q (.bool true) h3)
 (vPtr p1 λp5=>
 ∃b6:Bool,zA h3 ⟨p5.b,p5.o+4⟩ 1=some [.bool b6]/\
 Q (.bool b6) h3)
theorem ac76 {p1:OPa}{h:Heap}{Q:AHp}(hk:vc76 p1 h Q):AC Tryz.prog 76 [.ptr p1] h Q:=
 zK (H:=zE [] []) (by kernel_rfl) (by kernel_rfl) hk
def vc81(q1:OSl)(h:Heap)(Q:AHp):Prop:=
 vif (q1.isNone)
 (Q (.sl none) h)
 (PNew [] true h λa2 h3=>
 zM 1 24 (some ⟨a2,0,0,0,0⟩) q1 h3 λq4 h5=>
 Q (.sl q4) h5)
theorem ac81 {q1:OSl}{h:Heap}{Q:AHp}(hk:vc81 q1 h Q):AC Tryz.prog 81 [.sl q1] h Q:=
 zK (H:=zE [] []) (by kernel_rfl) (by kernel_rfl) hk
def vc82(q1:OSl)(h:Heap)(Q:AHp):Prop:=
 vif (q1.isNone)
 (Q (.sl none) h)
 (PNew [] true h λa2 h3=>
 zM 2 16 (some ⟨a2,0,0,0,0⟩) q1 h3 λq4 h5=>
 Q (.sl q4) h5)
theorem ac82 {q1:OSl}{h:Heap}{Q:AHp}(hk:vc82 q1 h Q):AC Tryz.prog 82 [.sl q1] h Q:=
 zK (H:=zE [] []) (by kernel_rfl) (by kernel_rfl) hk
def vc119(n1:Int)(h:Heap)(Q:AHp):Prop:=
 AC Tryz.prog 187 [.int .i64 n1] h λv2 h3=>∃s4:List UInt8,v2= .str s4/\
 Q (.str s4) h3
theorem ac119 {n1:Int}{h:Heap}{Q:AHp}(hk:vc119 n1 h Q):AC Tryz.prog 119 [.int .i64 n1] h Q:=
 zK (H:=zE [] []) (by kernel_rfl) (by kernel_rfl) hk
def vc187(n1:Int)(h:Heap)(Q:AHp):Prop:=
 AC Tryz.prog 260 [.int .i64 n1,.int .i64 10] h λv2 h3=>∃s4:List UInt8,v2= .str s4/\
 Q (.str s4) h3
theorem ac187 {n1:Int}{h:Heap}{Q:AHp}(hk:vc187 n1 h Q):AC Tryz.prog 187 [.int .i64 n1] h Q:=
 zK (H:=zE [] []) (by kernel_rfl) (by kernel_rfl) hk
def vc260(n1:Int)(n2:Int)(h:Heap)(Q:AHp):Prop:=
 vif (n2==10)
 (vif (decide (0<=n1))
 (vif (decide (n1<100))
 (AC Tryz.prog 326 [.int .i64 n1] h λv3 h4=>∃s5:List UInt8,v3= .str s5/\
 Q (.str s5) h4)
 (PNew (List.replicate 24 (AV.int .u8 0)) true h λa6 h7=>
 vif (decide (n1<0))
 (AC Tryz.prog 327 [.int .u64 (zC .u64 (0-(zC .u64 n1)))] h7 λv8 h9=>∃n10:Int,v8= .int .i64 n10/\
 zW 1 (some ⟨a6,0,24,24,0⟩) 1 (some (zC .i64 (1+n10))) none λq11=>
 AC Tryz.prog 328 [.sl q11,.int .u64 (zC .u64 (0-(zC .u64 n1)))] h9 λv12 h13=>v12= .tup []/\
 vif (decide (n1<0))
 (zL h13 ⟨a6,0⟩ [.int .u8 45] λh14=>
 zW 1 (some ⟨a6,0,24,24,0⟩) 0 (some (zC .i64 (1+n10))) none λq15=>
 PStr h14 q15 λs16=>
 Q (.str s16) h14)
 (zW 1 (some ⟨a6,0,24,24,0⟩) 1 (some (zC .i64 (1+n10))) none λq17=>
 PStr h13 q17 λs18=>
 Q (.str s18) h13))
 (AC Tryz.prog 327 [.int .u64 (zC .u64 n1)] h7 λv19 h20=>∃n21:Int,v19= .int .i64 n21/\
 zW 1 (some ⟨a6,0,24,24,0⟩) 1 (some (zC .i64 (1+n21))) none λq22=>
 AC Tryz.prog 328 [.sl q22,.int .u64 (zC .u64 n1)] h20 λv23 h24=>v23= .tup []/\
 vif (decide (n1<0))
 (zL h24 ⟨a6,0⟩ [.int .u8 45] λh25=>
 zW 1 (some ⟨a6,0,24,24,0⟩) 0 (some (zC .i64 (1+n21))) none λq26=>
 PStr h25 q26 λs27=>
 Q (.str s27) h25)
 (zW 1 (some ⟨a6,0,24,24,0⟩) 1 (some (zC .i64 (1+n21))) none λq28=>
 PStr h24 q28 λs29=>
 Q (.str s29) h24))))
 (PNew (List.replicate 24 (AV.int .u8 0)) true h λa30 h31=>
 vif (decide (n1<0))
 (AC Tryz.prog 327 [.int .u64 (zC .u64 (0-(zC .u64 n1)))] h31 λv32 h33=>∃n34:Int,v32= .int .i64 n34/\
 zW 1 (some ⟨a30,0,24,24,0⟩) 1 (some (zC .i64 (1+n34))) none λq35=>
 AC Tryz.prog 328 [.sl q35,.int .u64 (zC .u64 (0-(zC .u64 n1)))] h33 λv36 h37=>v36= .tup []/\
 vif (decide (n1<0))
 (zL h37 ⟨a30,0⟩ [.int .u8 45] λh38=>
 zW 1 (some ⟨a30,0,24,24,0⟩) 0 (some (zC .i64 (1+n34))) none λq39=>
 PStr h38 q39 λs40=>
 Q (.str s40) h38)
 (zW 1 (some ⟨a30,0,24,24,0⟩) 1 (some (zC .i64 (1+n34))) none λq41=>
 PStr h37 q41 λs42=>
 Q (.str s42) h37))
 (AC Tryz.prog 327 [.int .u64 (zC .u64 n1)] h31 λv43 h44=>∃n45:Int,v43= .int .i64 n45/\
 zW 1 (some ⟨a30,0,24,24,0⟩) 1 (some (zC .i64 (1+n45))) none λq46=>
 AC Tryz.prog 328 [.sl q46,.int .u64 (zC .u64 n1)] h44 λv47 h48=>v47= .tup []/\
 vif (decide (n1<0))
 (zL h48 ⟨a30,0⟩ [.int .u8 45] λh49=>
 zW 1 (some ⟨a30,0,24,24,0⟩) 0 (some (zC .i64 (1+n45))) none λq50=>
 PStr h49 q50 λs51=>
 Q (.str s51) h49)
 (zW 1 (some ⟨a30,0,24,24,0⟩) 1 (some (zC .i64 (1+n45))) none λq52=>
 PStr h48 q52 λs53=>
 Q (.str s53) h48))))
 (AC Tryz.prog 329 [.sl none,.int .u64 (zC .u64 n1),.int .i64 n2,.bool (decide (n1<0)),.bool false] h λv54 h55=>∃q56:OSl,∃s57:List UInt8,v54= .tup [.sl q56,.str s57]/\
 Q (.str s57) h55)
theorem ac260 {n1:Int}{n2:Int}{h:Heap}{Q:AHp}(hk:vc260 n1 n2 h Q):AC Tryz.prog 260 [.int .i64 n1,.int .i64 n2] h Q:=
 zK (H:=zE [] []) (by kernel_rfl) (by kernel_rfl) hk
def vc326(n1:Int)(h:Heap)(Q:AHp):Prop:=
 vif (decide (n1<10))
 (zBX [48,49,50,51,52,53,54,55,56,57,97,98,99,100,101,102,103,104,105,106,107,108,109,110,111,112,113,114,115,116,117,118,119,120,121,122] n1 (some (zC .i64 (n1+1))) λs2=>
 Q (.str s2) h)
 (zBX [48,48,48,49,48,50,48,51,48,52,48,53,48,54,48,55,48,56,48,57,49,48,49,49,49,50,49,51,49,52,49,53,49,54,49,55,49,56,49,57,50,48,50,49,50,50,50,51,50,52,50,53,50,54,50,55,50,56,50,57,51,48,51,49,51,50,51,51,51,52,51,53,51,54,51,55,51,56,51,57,52,48,52,49,52,50,52,51,52,52,52,53,52,54,52,55,52,56,52,57,53,48,53,49,53,50,53,51,53,52,53,53,53,54,53,55,53,56,53,57,54,48,54,49,54,50,54,51,54,52,54,53,54,54,54,55,54,56,54,57,55,48,55,49,55,50,55,51,55,52,55,53,55,54,55,55,55,56,55,57,56,48,56,49,56,50,56,51,56,52,56,53,56,54,56,55,56,56,56,57,57,48,57,49,57,50,57,51,57,52,57,53,57,54,57,55,57,56,57,57] (zC .i64 (n1*2)) (some (zC .i64 ((zC .i64 (n1*2))+2))) λs3=>
 Q (.str s3) h)
theorem ac326 {n1:Int}{h:Heap}{Q:AHp}(hk:vc326 n1 h Q):AC Tryz.prog 326 [.int .i64 n1] h Q:=
 zK (H:=zE [] []) (by kernel_rfl) (by kernel_rfl) hk
def vc152(p1:OPa)(v2:AV)(h:Heap)(Q:AHp):Prop:=
 vif (p1.isNone)
 (Q (.tup [.sl none,.int .i64 6]) h)
 (∃(I4:LHp) (m5:LHn),I4 [.sl none] h/\
 ∀q3:OSl,∀h6:Heap,I4 [.sl q3] h6->
 AC Tryz.prog 224 [.ptr p1] h6 λv7 h8=>∃n9 n10:Int,∃n11 n12:Int,∃b13:Bool,v7= .tup [.agg [.int .i64 n9,.int .i64 n10,.int .i64 n11,.int .i64 n12],.bool b13]/\
 vif (!b13)
 (vPtr p1 λp14=>
 ∃n15:Int,zA h8 ⟨p14.b,p14.o+2⟩ 1=some [.int .i64 n15]/\
 vif (n15 !=0)
 (vPtr p1 λp16=>
 ∃n17:Int,zA h8 ⟨p16.b,p16.o+2⟩ 1=some [.int .i64 n17]/\
 (∃n18:Int,zA h8 ⟨p16.b,p16.o+2⟩ 1=some [.int .i64 n18]/\
 LV.val (.int .i64 n18)=LV.val (.int .i64 n17))/\
 Q (.tup [.sl none,.int .i64 n17]) h8)
 (Q (.tup [.sl q3,.int .i64 0]) h8))
 (yV Tryz.prog (AC Tryz.prog) v2 [.agg [.int .i64 n9,.int .i64 n10,.int .i64 n11,.int .i64 n12]] h8 λv19 h20=>∃b21:Bool,v19= .bool b21/\
 vif (!b21)
 (vPtr p1 λp22=>
 ∃n23:Int,zA h20 ⟨p22.b,p22.o+2⟩ 1=some [.int .i64 n23]/\
 vif (n23 !=0)
 (vPtr p1 λp24=>
 ∃n25:Int,zA h20 ⟨p24.b,p24.o+2⟩ 1=some [.int .i64 n25]/\
 (∃n26:Int,zA h20 ⟨p24.b,p24.o+2⟩ 1=some [.int .i64 n26]/\
 LV.val (.int .i64 n26)=LV.val (.int .i64 n25))/\
 Q (.tup [.sl none,.int .i64 n25]) h20)
 (Q (.tup [.sl q3,.int .i64 0]) h20))
 (PNew [.int .i64 n9,.int .i64 n10,.int .i64 n11,.int .i64 n12] true h20 λa27 h28=>
 zM 4 32 q3 (some ⟨a27,0,1,1,0⟩) h28 λq29 h30=>
 AC Tryz.prog 225 [.ptr p1] h30 λv31 h32=>v31= .tup []/\
 (True)/\I4 [.sl q29] h32/\m5 [.sl q29] h32<m5 [.sl q3] h6)))
theorem ac152 {p1:OPa}{v2:AV}{h:Heap}{Q:AHp}(hk:vc152 p1 v2 h Q):AC Tryz.prog 152 [.ptr p1,v2] h Q:=
 zK (H:=zE [8] [(0,[6],[])]) (by kernel_rfl) (by kernel_rfl) hk
end Go.Proofs
