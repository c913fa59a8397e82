import Derived.Test.YtafmabnolelknaaGreatDoorDG8
import Derived.Test.YtafmabnolelknaaGreatDoorProg
import Derived.KernelRfl
namespace Go.Proofs
open Go.Ab
set_option maxRecDepth 100000
set_option linter.unusedVariables false
def vc292(p1:OPa)(n2:Int)(h:Heap)(Q:AHp):Prop:=
 vif (decide (n2<0))
 (Q (.tup [.agg [.int .i64 0,.int .i64 0,.int .i64 0,.int .i64 0],.bool false]) h)
 (AC Tryz.prog 204 [.ptr p1] h λv3 h4=>∃n5:Int,v3= .int .i64 n5/\
 vif (decide (n2≥n5))
 (Q (.tup [.agg [.int .i64 0,.int .i64 0,.int .i64 0,.int .i64 0],.bool false]) h4)
 (vPtr p1 λp6=>
 ∃q7:OSl,zA h4 ⟨p6.b,p6.o+4⟩ 1=some [.sl q7]/\
 vIdx q7 n2 4 λp8=>
 ∃n9 n10:Int,∃n11 n12:Int,zA h4 p8 4=some [.int .i64 n9,.int .i64 n10,.int .i64 n11,.int .i64 n12]/\
 Q (.tup [.agg [.int .i64 n9,.int .i64 n10,.int .i64 n11,.int .i64 n12],.bool true]) h4))
theorem ac292 {p1:OPa}{n2:Int}{h:Heap}{Q:AHp}(hk:vc292 p1 n2 h Q):AC Tryz.prog 292 [.ptr p1,.int .i64 n2] h Q:=
 zK (H:=zE [4] []) (by kernel_rfl) (by kernel_rfl) hk
def vc228(p1:OPa)(n2:Int)(h:Heap)(Q:AHp):Prop:=
 vif (p1.isNone)
 (Q (.tup [.sl none,.int .i64 6]) h)
 (vPtr p1 λp3=>
 ∃p4:OPa,zA h ⟨p3.b,p3.o+0+0⟩ 1=some [.ptr p4]/\
 vif (p4.isNone)
 (Q (.tup [.sl none,.int .i64 6]) h)
 (AC Tryz.prog 292 [.ptr p1,.int .i64 n2] h λv5 h6=>∃n7 n8:Int,∃n9 n10:Int,∃b11:Bool,v5= .tup [.agg [.int .i64 n7,.int .i64 n8,.int .i64 n9,.int .i64 n10],.bool b11]/\
 vif (!b11)
 (Q (.tup [.sl none,.int .i64 4]) h6)
 (vPtr p1 λp12=>
 ∃p13:OPa,∃s14:List UInt8,∃n15:Int,zA h6 ⟨p12.b,p12.o+0⟩ 3=some [.ptr p13,.str s14,.int .i64 n15]/\
 AC Tryz.prog 290 [.agg [.ptr p13,.str s14,.int .i64 n15],.int .i64 n2] h6 λv16 h17=>∃q18:OSl,∃n19:Int,v16= .tup [.sl q18,.int .i64 n19]/\
 vif (n19 !=0)
 (Q (.tup [.sl none,.int .i64 n19]) h17)
 (vif ((zJ q18:Int)==0)
 (Q (.tup [.sl none,.int .i64 80]) h17)
 (AC Tryz.prog 194 [.sl q18] h17 λv20 h21=>∃b22:Bool,v20= .bool b22/\
 vif (!b22)
 (Q (.tup [.sl none,.int .i64 80]) h21)
 (vIdx q18 0 4 λp23=>
 ∃n24 n25:Int,∃n26 n27:Int,zA h21 p23 4=some [.int .i64 n24,.int .i64 n25,.int .i64 n26,.int .i64 n27]/\
 vif (!(((n24==n7)&&((n25==n8)&&true))&&(((n26==n9)&&((n27==n10)&&true))&&true)))
 (Q (.tup [.sl none,.int .i64 80]) h21)
 (Q (.tup [.sl q18,.int .i64 0]) h21)))))))
theorem ac228 {p1:OPa}{n2:Int}{h:Heap}{Q:AHp}(hk:vc228 p1 n2 h Q):AC Tryz.prog 228 [.ptr p1,.int .i64 n2] h Q:=
 zK (H:=zE [6] []) (by kernel_rfl) (by kernel_rfl) hk
def vc155(p1:OPa)(s2:List UInt8)(n3:Int)(h:Heap)(Q:AHp):Prop:=
 AC Tryz.prog 193 [.int .i64 n3] h λv4 h5=>∃b6:Bool,v4= .bool b6/\
 vif (!b6)
 (Q (.tup [.ptr none,.int .i64 1]) h5)
 (AC Tryz.prog 159 [.ptr p1,.str s2] h5 λv7 h8=>∃n9 n10:Int,v7= .tup [.int .i64 n9,.int .i64 n10]/\
 vif (n10 !=0)
 (Q (.tup [.ptr none,.int .i64 n10]) h8)
 (PNew [.ptr p1,.str s2,.int .i64 n3,.int .i64 0,.sl none] true h8 λa11 h12=>
 AC Tryz.prog 226 [.ptr (some ⟨a11,0⟩),.int .i64 n9] h12 λv13 h14=>∃n15 n16 n17:Int,v13= .tup [.int .i64 n15,.int .i64 n16,.int .i64 n17]/\
 vif (n17==0)
 (AC Tryz.prog 227 [.ptr (some ⟨a11,0⟩),.int .i64 n15,.int .i64 n16] h14 λv18 h19=>∃n20:Int,v18= .int .i64 n20/\
 vif (n20 !=0)
 (Q (.tup [.ptr none,.int .i64 n20]) h19)
 (Q (.tup [.ptr (some ⟨a11,0⟩),.int .i64 0]) h19))
 (vif (n17 !=0)
 (Q (.tup [.ptr none,.int .i64 n17]) h14)
 (Q (.tup [.ptr (some ⟨a11,0⟩),.int .i64 0]) h14))))
theorem ac155 {p1:OPa}{s2:List UInt8}{n3:Int}{h:Heap}{Q:AHp}(hk:vc155 p1 s2 n3 h Q):AC Tryz.prog 155 [.ptr p1,.str s2,.int .i64 n3] h Q:=
 zK (H:=zE [] []) (by kernel_rfl) (by kernel_rfl) hk
def vc141(p1:OPa)(h:Heap)(Q:AHp):Prop:=
 vif (p1.isNone)
 (Q (.str []) h)
 (vPtr p1 λp2=>
 ∃s3:List UInt8,zA h ⟨p2.b,(p2.o+0)+1⟩ 1=some [.str s3]/\
 Q (.str s3) h)
theorem ac141 {p1:OPa}{h:Heap}{Q:AHp}(hk:vc141 p1 h Q):AC Tryz.prog 141 [.ptr p1] h Q:=
 zK (H:=zE [] []) (by kernel_rfl) (by kernel_rfl) hk
def vc204(p1:OPa)(h:Heap)(Q:AHp):Prop:=
 vif (p1.isNone)
 (Q (.int .i64 0) h)
 (vPtr p1 λp2=>
 ∃q3:OSl,zA h ⟨p2.b,p2.o+4⟩ 1=some [.sl q3]/\
 Q (.int .i64 (zJ q3:Int)) h)
theorem ac204 {p1:OPa}{h:Heap}{Q:AHp}(hk:vc204 p1 h Q):AC Tryz.prog 204 [.ptr p1] h Q:=
 zK (H:=zE [] []) (by kernel_rfl) (by kernel_rfl) hk
def vc203(p1:OPa)(n2:Int)(n3:Int)(n4:Int)(n5:Int)(h:Heap)(Q:AHp):Prop:=
 PNew [.ptr p1] true h λa6 h7=>
 PNew [.int .i64 n2,.int .i64 n3,.int .i64 n4,.int .i64 n5] true h7 λa8 h9=>
 ∃p10:OPa,zA h9 ⟨a6,0⟩ 1=some [.ptr p10]/\
 AC Tryz.prog 204 [.ptr p10] h9 λv11 h12=>∃n13:Int,v11= .int .i64 n13/\
 AC Tryz.prog 206 [.int .i64 n13,.func (.func 280) [] [.ptr (some ⟨a6,0⟩),.ptr (some ⟨a8,0⟩)]] h12 λv14 h15=>∃n16:Int,v14= .int .i64 n16/\
 Q (.int .i64 (zEF 0 (zC .i64 (n16-1)))) h15
theorem ac203 {p1:OPa}{n2:Int}{n3:Int}{n4:Int}{n5:Int}{h:Heap}{Q:AHp}(hk:vc203 p1 n2 n3 n4 n5 h Q):AC Tryz.prog 203 [.ptr p1,.agg [.int .i64 n2,.int .i64 n3,.int .i64 n4,.int .i64 n5]] h Q:=
 zK (H:=zE [] []) (by kernel_rfl) (by kernel_rfl) hk
def vc130(p1:OPa)(s2:List UInt8)(n3:Int)(q4:OSl)(h:Heap)(Q:AHp):Prop:=
 AC Tryz.prog 193 [.int .i64 n3] h λv5 h6=>∃b7:Bool,v5= .bool b7/\
 vif (!b7)
 (Q (.int .i64 1) h6)
 (AC Tryz.prog 158 [.int .i64 n3,.sl q4] h6 λv8 h9=>∃q10:OSl,∃n11:Int,v8= .tup [.sl q10,.int .i64 n11]/\
 vif (n11 !=0)
 (Q (.int .i64 n11) h9)
 (AC Tryz.prog 194 [.sl q4] h9 λv12 h13=>∃b14:Bool,v12= .bool b14/\
 vif (!b14)
 (Q (.int .i64 1) h13)
 (AC Tryz.prog 195 [.ptr p1,.str s2] h13 λv15 h16=>∃n17:Int,v15= .int .i64 n17/\
 vif (n17 !=0)
 (Q (.int .i64 n17) h16)
 (∃(I19:LHp) (m20:LHn),I19 [.int .i64 0] h16/\
 ∀n18:Int,∀h21:Heap,I19 [.int .i64 n18] h21->
 vif (decide (n18<(zJ q10:Int)))
 (vIdx q10 n18 1 λp22=>
 ∃q23:OSl,zA h21 p22 1=some [.sl q23]/\
 AC Tryz.prog 196 [.ptr p1,.str s2,.sl q23] h21 λv24 h25=>∃n26:Int,v24= .int .i64 n26/\
 vif (n26 !=0)
 (Q (.int .i64 n26) h25)
 ((True)/\I19 [.int .i64 (zC .i64 (n18+1))] h25/\m20 [.int .i64 (zC .i64 (n18+1))] h25<m20 [.int .i64 n18] h21))
 (AC Tryz.prog 197 [.ptr p1,.str s2] h21 λv27 h28=>∃n29:Int,v27= .int .i64 n29/\
 Q (.int .i64 n29) h28)))))
theorem ac130 {p1:OPa}{s2:List UInt8}{n3:Int}{q4:OSl}{h:Heap}{Q:AHp}(hk:vc130 p1 s2 n3 q4 h Q):AC Tryz.prog 130 [.ptr p1,.str s2,.int .i64 n3,.sl q4] h Q:=
 zK (H:=zE [] [(0,[38],[])]) (by kernel_rfl) (by kernel_rfl) hk
def vc63(n1:Int)(h:Heap)(Q:AHp):Prop:=
 vif (decide (n1<0))
 (Q (.tup [.ptr none,.int .i64 1]) h)
 (vif (decide (n1>16384))
 (Q (.tup [.ptr none,.int .i64 1]) h)
 (PNew [.map (some (List.length h)),.sl none,.int .i64 n1,.int .i64 (-1),.bool false] true (h++[.mp [] 0]) λa2 h3=>
 Q (.tup [.ptr (some ⟨a2,0⟩),.int .i64 0]) h3))
theorem ac63 {n1:Int}{h:Heap}{Q:AHp}(hk:vc63 n1 h Q):AC Tryz.prog 63 [.int .i64 n1] h Q:=
 zK (H:=zE [] []) (by kernel_rfl) (by kernel_rfl) hk
def vc268(p1:OPa)(h:Heap)(Q:AHp):Prop:=
 AC Tryz.prog 62 [.ptr p1] h λv2 h3=>∃q4:OSl,v2= .sl q4/\
 ∃(I7:LHp) (m8:LHn),I7 [.int .i64 0,.int .i64 0] h3/\
 ∀n5 n6:Int,∀h9:Heap,I7 [.int .i64 n5,.int .i64 n6] h9->
 vif (decide (n6<(zJ q4:Int)))
 (vIdx q4 n6 2 λp10=>
 ∃s11:List UInt8,∃n12:Int,zA h9 p10 2=some [.str s11,.int .i64 n12]/\
 (True)/\I7 [.int .i64 (zC .i64 (n5+n12)),.int .i64 (zC .i64 (n6+1))] h9/\m8 [.int .i64 (zC .i64 (n5+n12)),.int .i64 (zC .i64 (n6+1))] h9<m8 [.int .i64 n5,.int .i64 n6] h9)
 (Q (.int .i64 n5) h9)
theorem ac268 {p1:OPa}{h:Heap}{Q:AHp}(hk:vc268 p1 h Q):AC Tryz.prog 268 [.ptr p1] h Q:=
 zK (H:=zE [5] [(0,[3,9],[])]) (by kernel_rfl) (by kernel_rfl) hk
def vc160(p1:OPa)(s2:List UInt8)(n3:Int)(h:Heap)(Q:AHp):Prop:=
 AC Tryz.prog 216 [.ptr p1,.str s2] h λv4 h5=>∃p6:OPa,∃n7:Int,v4= .tup [.ptr p6,.int .i64 n7]/\
 vif (n7 !=0)
 (Q (.tup [.sl none,.int .i64 n7]) h5)
 (vif (decide (n3<0))
 (Q (.tup [.sl none,.int .i64 4]) h5)
 (vPtr p6 λp8=>
 ∃q9:OSl,zA h5 ⟨p8.b,p8.o+1⟩ 1=some [.sl q9]/\
 vif (decide (n3≥(zJ q9:Int)))
 (Q (.tup [.sl none,.int .i64 4]) h5)
 (vPtr p6 λp10=>
 ∃q11:OSl,zA h5 ⟨p10.b,p10.o+1⟩ 1=some [.sl q11]/\
 vIdx q11 n3 64 λp12=>
 zW 1 (some ⟨p12.b,p12.o,64,64,0⟩) 0 none none λq13=>
 AC Tryz.prog 235 [.sl q13] h5 λv14 h15=>∃q16:OSl,v14= .sl q16/\
 Q (.tup [.sl q16,.int .i64 0]) h15)))
theorem ac160 {p1:OPa}{s2:List UInt8}{n3:Int}{h:Heap}{Q:AHp}(hk:vc160 p1 s2 n3 h Q):AC Tryz.prog 160 [.ptr p1,.str s2,.int .i64 n3] h Q:=
 zK (H:=zE [] []) (by kernel_rfl) (by kernel_rfl) hk
def vc21(q1:OSl)(h:Heap)(Q:AHp):Prop:=
 vif (decide ((zJ q1:Int)<2))
 (PNew [] true h λa2 h3=>
 zM 4 32 (some ⟨a2,0,0,0,0⟩) q1 h3 λq4 h5=>
 Q (.sl q4) h5)
 (zW 4 q1 0 (some (zC .i64 (Int.tdiv (zJ q1:Int) 2))) none λq6=>
 zW 4 q1 (zC .i64 (Int.tdiv (zJ q1:Int) 2)) none none λq7=>
 AC Tryz.prog 21 [.sl q6] h λv8 h9=>∃q10:OSl,v8= .sl q10/\
 AC Tryz.prog 21 [.sl q7] h9 λv11 h12=>∃q13:OSl,v11= .sl q13/\
 ∃(I17:LHp) (m18:LHn),I17 [.sl q10,.sl q13,.sl none] h12/\
 ∀q14 q15 q16:OSl,∀h19:Heap,I17 [.sl q14,.sl q15,.sl q16] h19->
 vif (decide ((zJ q14:Int)>0))
 (vif ((zJ q15:Int)==0)
 (vIdx q14 0 4 λp20=>
 ∃n21 n22:Int,∃n23 n24:Int,zA h19 p20 4=some [.int .i64 n21,.int .i64 n22,.int .i64 n23,.int .i64 n24]/\
 PNew [.int .i64 n21,.int .i64 n22,.int .i64 n23,.int .i64 n24] true h19 λa25 h26=>
 zM 4 32 q16 (some ⟨a25,0,1,1,0⟩) h26 λq27 h28=>
 zW 4 q14 1 none none λq29=>
 (True)/\I17 [.sl q29,.sl q15,.sl q27] h28/\m18 [.sl q29,.sl q15,.sl q27] h28<m18 [.sl q14,.sl q15,.sl q16] h19)
 (vif (decide ((zJ q14:Int)>0))
 (vIdx q14 0 4 λp30=>
 ∃n31 n32:Int,∃n33 n34:Int,zA h19 p30 4=some [.int .i64 n31,.int .i64 n32,.int .i64 n33,.int .i64 n34]/\
 vIdx q15 0 4 λp35=>
 ∃n36 n37:Int,∃n38 n39:Int,zA h19 p35 4=some [.int .i64 n36,.int .i64 n37,.int .i64 n38,.int .i64 n39]/\
 AC Tryz.prog 87 [.agg [.int .i64 n31,.int .i64 n32,.int .i64 n33,.int .i64 n34],.agg [.int .i64 n36,.int .i64 n37,.int .i64 n38,.int .i64 n39]] h19 λv40 h41=>∃n42:Int,v40= .int .i64 n42/\
 vif (decide (n42<=0))
 (vIdx q14 0 4 λp43=>
 ∃n44 n45:Int,∃n46 n47:Int,zA h41 p43 4=some [.int .i64 n44,.int .i64 n45,.int .i64 n46,.int .i64 n47]/\
 PNew [.int .i64 n44,.int .i64 n45,.int .i64 n46,.int .i64 n47] true h41 λa48 h49=>
 zM 4 32 q16 (some ⟨a48,0,1,1,0⟩) h49 λq50 h51=>
 zW 4 q14 1 none none λq52=>
 (True)/\I17 [.sl q52,.sl q15,.sl q50] h51/\m18 [.sl q52,.sl q15,.sl q50] h51<m18 [.sl q14,.sl q15,.sl q16] h19)
 (vIdx q15 0 4 λp53=>
 ∃n54 n55:Int,∃n56 n57:Int,zA h41 p53 4=some [.int .i64 n54,.int .i64 n55,.int .i64 n56,.int .i64 n57]/\
 PNew [.int .i64 n54,.int .i64 n55,.int .i64 n56,.int .i64 n57] true h41 λa58 h59=>
 zM 4 32 q16 (some ⟨a58,0,1,1,0⟩) h59 λq60 h61=>
 zW 4 q15 1 none none λq62=>
 (True)/\I17 [.sl q14,.sl q62,.sl q60] h61/\m18 [.sl q14,.sl q62,.sl q60] h61<m18 [.sl q14,.sl q15,.sl q16] h19))
 (vIdx q15 0 4 λp63=>
 ∃n64 n65:Int,∃n66 n67:Int,zA h19 p63 4=some [.int .i64 n64,.int .i64 n65,.int .i64 n66,.int .i64 n67]/\
 PNew [.int .i64 n64,.int .i64 n65,.int .i64 n66,.int .i64 n67] true h19 λa68 h69=>
 zM 4 32 q16 (some ⟨a68,0,1,1,0⟩) h69 λq70 h71=>
 zW 4 q15 1 none none λq72=>
 (True)/\I17 [.sl q14,.sl q72,.sl q70] h71/\m18 [.sl q14,.sl q72,.sl q70] h71<m18 [.sl q14,.sl q15,.sl q16] h19)))
 (vif (decide ((zJ q15:Int)>0))
 (vif ((zJ q15:Int)==0)
 (vIdx q14 0 4 λp73=>
 ∃n74 n75:Int,∃n76 n77:Int,zA h19 p73 4=some [.int .i64 n74,.int .i64 n75,.int .i64 n76,.int .i64 n77]/\
 PNew [.int .i64 n74,.int .i64 n75,.int .i64 n76,.int .i64 n77] true h19 λa78 h79=>
 zM 4 32 q16 (some ⟨a78,0,1,1,0⟩) h79 λq80 h81=>
 zW 4 q14 1 none none λq82=>
 (True)/\I17 [.sl q82,.sl q15,.sl q80] h81/\m18 [.sl q82,.sl q15,.sl q80] h81<m18 [.sl q14,.sl q15,.sl q16] h19)
 (vif (decide ((zJ q14:Int)>0))
 (vIdx q14 0 4 λp83=>
 ∃n84 n85:Int,∃n86 n87:Int,zA h19 p83 4=some [.int .i64 n84,.int .i64 n85,.int .i64 n86,.int .i64 n87]/\
 vIdx q15 0 4 λp88=>
 ∃n89 n90:Int,∃n91 n92:Int,zA h19 p88 4=some [.int .i64 n89,.int .i64 n90,.int .i64 n91,.int .i64 n92]/\
 AC Tryz.prog 87 [.agg [.int .i64 n84,.int .i64 n85,.int .i64 n86,.int .i64 n87],.agg [.int .i64 n89,.int .i64 n90,.int .i64 n91,.int .i64 n92]] h19 λv93 h94=>∃n95:Int,v93= .int .i64 n95/\
 vif (decide (n95<=0))
 (vIdx q14 0 4 λp96=>
 ∃n97 n98:Int,∃n99 n100:Int,zA h94 p96 4=some [.int .i64 n97,.int .i64 n98,.int .i64 n99,.int .i64 n100]/\
 PNew [.int .i64 n97,.int .i64 n98,.int .i64 n99,.int .i64 n100] true h94 λa101 h102=>
 zM 4 32 q16 (some ⟨a101,0,1,1,0⟩) h102 λq103 h104=>
 zW 4 q14 1 none none λq105=>
 (True)/\I17 [.sl q105,.sl q15,.sl q103] h104/\m18 [.sl q105,.sl q15,.sl q103] h104<m18 [.sl q14,.sl q15,.sl q16] h19)
 (vIdx q15 0 4 λp106=>
 ∃n107 n108:Int,∃n109 n110:Int,zA h94 p106 4=some [.int .i64 n107,.int .i64 n108,.int .i64 n109,.int .i64 n110]/\
 PNew [.int .i64 n107,.int .i64 n108,.int .i64 n109,.int .i64 n110] true h94 λa111 h112=>
 zM 4 32 q16 (some ⟨a111,0,1,1,0⟩) h112 λq113 h114=>
 zW 4 q15 1 none none λq115=>
 (True)/\I17 [.sl q14,.sl q115,.sl q113] h114/\m18 [.sl q14,.sl q115,.sl q113] h114<m18 [.sl q14,.sl q15,.sl q16] h19))
 (vIdx q15 0 4 λp116=>
 ∃n117 n118:Int,∃n119 n120:Int,zA h19 p116 4=some [.int .i64 n117,.int .i64 n118,.int .i64 n119,.int .i64 n120]/\
 PNew [.int .i64 n117,.int .i64 n118,.int .i64 n119,.int .i64 n120] true h19 λa121 h122=>
 zM 4 32 q16 (some ⟨a121,0,1,1,0⟩) h122 λq123 h124=>
 zW 4 q15 1 none none λq125=>
 (True)/\I17 [.sl q14,.sl q125,.sl q123] h124/\m18 [.sl q14,.sl q125,.sl q123] h124<m18 [.sl q14,.sl q15,.sl q16] h19)))
 (Q (.sl q16) h19)))
theorem ac21 {q1:OSl}{h:Heap}{Q:AHp}(hk:vc21 q1 h Q):AC Tryz.prog 21 [.sl q1] h Q:=
 zK (H:=zE [] [(0,[3,4,5],[])]) (by kernel_rfl) (by kernel_rfl) hk
def vc25(q1:OSl)(q2:OSl)(h:Heap)(Q:AHp):Prop:=
 vif ((zJ q1:Int)!=(zJ q2:Int))
 (Q (.bool false) h)
 (∃(I4:LHp) (m5:LHn),I4 [.int .i64 0] h/\
 ∀n3:Int,∀h6:Heap,I4 [.int .i64 n3] h6->
 vif (decide (n3<(zJ q1:Int)))
 (vIdx q1 n3 4 λp7=>
 ∃n8 n9:Int,∃n10 n11:Int,zA h6 p7 4=some [.int .i64 n8,.int .i64 n9,.int .i64 n10,.int .i64 n11]/\
 vIdx q2 n3 4 λp12=>
 ∃n13 n14:Int,∃n15 n16:Int,zA h6 p12 4=some [.int .i64 n13,.int .i64 n14,.int .i64 n15,.int .i64 n16]/\
 vif (!(((n8==n13)&&((n9==n14)&&true))&&(((n10==n15)&&((n11==n16)&&true))&&true)))
 (Q (.bool false) h6)
 ((True)/\I4 [.int .i64 (zC .i64 (n3+1))] h6/\m5 [.int .i64 (zC .i64 (n3+1))] h6<m5 [.int .i64 n3] h6))
 (Q (.bool true) h6))
theorem ac25 {q1:OSl}{q2:OSl}{h:Heap}{Q:AHp}(hk:vc25 q1 q2 h Q):AC Tryz.prog 25 [.sl q1,.sl q2] h Q:=
 zK (H:=zE [] [(0,[5],[])]) (by kernel_rfl) (by kernel_rfl) hk
def vc159(p1:OPa)(s2:List UInt8)(h:Heap)(Q:AHp):Prop:=
 AC Tryz.prog 102 [.ptr p1] h λv3 h4=>∃b5:Bool,v3= .bool b5/\
 vif (!b5)
 (Q (.tup [.int .i64 0,.int .i64 6]) h4)
 (vPtr p1 λp6=>
 ∃m7:Option Nat,zA h4 ⟨p6.b,p6.o+0⟩ 1=some [.map m7]/\
 xO Tryz.prog 9 166 m7 (.str s2) false h4 λv8=>
 ∃p9:OPa,v8= .ptr p9/\
 vif (p9.isNone)
 (Q (.tup [.int .i64 0,.int .i64 4]) h4)
 (vPtr p9 λp10=>
 ∃q11:OSl,zA h4 ⟨p10.b,p10.o+1⟩ 1=some [.sl q11]/\
 Q (.tup [.int .i64 (zJ q11:Int),.int .i64 0]) h4))
theorem ac159 {p1:OPa}{s2:List UInt8}{h:Heap}{Q:AHp}(hk:vc159 p1 s2 h Q):AC Tryz.prog 159 [.ptr p1,.str s2] h Q:=
 zK (H:=zE [] []) (by kernel_rfl) (by kernel_rfl) hk
def vc290(p1:OPa)(s2:List UInt8)(n3:Int)(n4:Int)(h:Heap)(Q:AHp):Prop:=
 AC Tryz.prog 289 [.agg [.ptr p1,.str s2,.int .i64 n3],.int .i64 n4] h λv5 h6=>∃q7:OSl,∃n8:Int,v5= .tup [.sl q7,.int .i64 n8]/\
 vif (n8 !=0)
 (Q (.tup [.sl none,.int .i64 n8]) h6)
 (AC Tryz.prog 294 [.sl q7] h6 λv9 h10=>∃q11:OSl,∃n12:Int,v9= .tup [.sl q11,.int .i64 n12]/\
 vif (n12 !=0)
 (Q (.tup [.sl none,.int .i64 80]) h10)
 (Q (.tup [.sl q11,.int .i64 0]) h10))
theorem ac290 {p1:OPa}{s2:List UInt8}{n3:Int}{n4:Int}{h:Heap}{Q:AHp}(hk:vc290 p1 s2 n3 n4 h Q):AC Tryz.prog 290 [.agg [.ptr p1,.str s2,.int .i64 n3],.int .i64 n4] h Q:=
 zK (H:=zE [2] []) (by kernel_rfl) (by kernel_rfl) hk
def vc194(q1:OSl)(h:Heap)(Q:AHp):Prop:=
 AC Tryz.prog 265 [.sl q1,.func (.func 133) [] []] h λv2 h3=>∃b4:Bool,v2= .bool b4/\
 Q (.bool b4) h3
theorem ac194 {q1:OSl}{h:Heap}{Q:AHp}(hk:vc194 q1 h Q):AC Tryz.prog 194 [.sl q1] h Q:=
 zK (H:=zE [] []) (by kernel_rfl) (by kernel_rfl) hk
def vc193(n1:Int)(h:Heap)(Q:AHp):Prop:=
 vif (decide (n1≥1))
 (Q (.bool (decide (n1<=2305843009213693952))) h)
 (Q (.bool false) h)
theorem ac193 {n1:Int}{h:Heap}{Q:AHp}(hk:vc193 n1 h Q):AC Tryz.prog 193 [.int .i64 n1] h Q:=
 zK (H:=zE [] []) (by kernel_rfl) (by kernel_rfl) hk
def vc226(p1:OPa)(n2:Int)(h:Heap)(Q:AHp):Prop:=
 vif (n2==0)
 (Q (.tup [.int .i64 0,.int .i64 0,.int .i64 80]) h)
 (vPtr p1 λp3=>
 ∃p4:OPa,∃s5:List UInt8,∃n6:Int,zA h ⟨p3.b,p3.o+0⟩ 3=some [.ptr p4,.str s5,.int .i64 n6]/\
 AC Tryz.prog 289 [.agg [.ptr p4,.str s5,.int .i64 n6],.int .i64 (zC .i64 (n2-1))] h λv7 h8=>∃q9:OSl,∃n10:Int,v7= .tup [.sl q9,.int .i64 n10]/\
 vif (n10 !=0)
 (Q (.tup [.int .i64 0,.int .i64 0,.int .i64 n10]) h8)
 (AC Tryz.prog 247 [.sl q9] h8 λv11 h12=>∃p13:OPa,v11= .ptr p13/\
 AC Tryz.prog 249 [.ptr p13] h12 λv14 h15=>∃n16:Int,v14= .int .i64 n16/\
 AC Tryz.prog 249 [.ptr p13] h15 λv17 h18=>∃n19:Int,v17= .int .i64 n19/\
 AC Tryz.prog 249 [.ptr p13] h18 λv20 h21=>∃n22:Int,v20= .int .i64 n22/\
 AC Tryz.prog 250 [.ptr p13] h21 λv23 h24=>∃n25:Int,v23= .int .i64 n25/\
 vif (n25 !=0)
 (Q (.tup [.int .i64 0,.int .i64 0,.int .i64 80]) h24)
 (vif (decide (n19>n2))
 (Q (.tup [.int .i64 0,.int .i64 0,.int .i64 80]) h24)
 (vif (decide (n22>n2))
 (Q (.tup [.int .i64 0,.int .i64 0,.int .i64 80]) h24)
 (vif ((zC .i64 ((zC .i64 (n19+n22))+1))!=n2)
 (Q (.tup [.int .i64 0,.int .i64 0,.int .i64 80]) h24)
 (vPtr p1 λp26=>
 zL h24 ⟨p26.b,p26.o+3⟩ [.int .i64 n16] λh27=>
 Q (.tup [.int .i64 n19,.int .i64 n22,.int .i64 0]) h27))))))
theorem ac226 {p1:OPa}{n2:Int}{h:Heap}{Q:AHp}(hk:vc226 p1 n2 h Q):AC Tryz.prog 226 [.ptr p1,.int .i64 n2] h Q:=
 zK (H:=zE [] []) (by kernel_rfl) (by kernel_rfl) hk
def vc227(p1:OPa)(n2:Int)(n3:Int)(h:Heap)(Q:AHp):Prop:=
 ∃(I6:LHp) (m7:LHn),I6 [.sl none,.int .i64 n2] h/\
 ∀q4:OSl,∀n5:Int,∀h8:Heap,I6 [.sl q4,.int .i64 n5] h8->
 vif (decide (n5<(zC .i64 (n2+n3))))
 (vPtr p1 λp9=>
 ∃p10:OPa,∃s11:List UInt8,∃n12:Int,zA h8 ⟨p9.b,p9.o+0⟩ 3=some [.ptr p10,.str s11,.int .i64 n12]/\
 AC Tryz.prog 290 [.agg [.ptr p10,.str s11,.int .i64 n12],.int .i64 n5] h8 λv13 h14=>∃q15:OSl,∃n16:Int,v13= .tup [.sl q15,.int .i64 n16]/\
 vif (n16 !=0)
 (Q (.int .i64 n16) h14)
 (vPtr p1 λp17=>
 ∃q18:OSl,zA h14 ⟨p17.b,p17.o+4⟩ 1=some [.sl q18]/\
 zM 4 32 q18 q15 h14 λq19 h20=>
 vPtr p1 λp21=>
 zL h20 ⟨p21.b,p21.o+4⟩ [.sl q19] λh22=>
 PNew [.int .i64 (zJ q15:Int)] true h22 λa23 h24=>
 zM 1 8 q4 (some ⟨a23,0,1,1,0⟩) h24 λq25 h26=>
 (True)/\I6 [.sl q25,.int .i64 (zC .i64 (n5+1))] h26/\m7 [.sl q25,.int .i64 (zC .i64 (n5+1))] h26<m7 [.sl q4,.int .i64 n5] h8))
 (vPtr p1 λp27=>
 ∃q28:OSl,zA h8 ⟨p27.b,p27.o+4⟩ 1=some [.sl q28]/\
 vif ((zJ q28:Int)!=n2)
 (Q (.int .i64 80) h8)
 (vPtr p1 λp29=>
 ∃q30:OSl,zA h8 ⟨p29.b,p29.o+4⟩ 1=some [.sl q30]/\
 AC Tryz.prog 194 [.sl q30] h8 λv31 h32=>∃b33:Bool,v31= .bool b33/\
 vif (!b33)
 (Q (.int .i64 80) h32)
 (vPtr p1 λp34=>
 ∃q35:OSl,zA h32 ⟨p34.b,p34.o+4⟩ 1=some [.sl q35]/\
 AC Tryz.prog 291 [.sl q35,.sl q4] h32 λv36 h37=>∃b38:Bool,v36= .bool b38/\
 vif (!b38)
 (Q (.int .i64 80) h37)
 (Q (.int .i64 0) h37))))
theorem ac227 {p1:OPa}{n2:Int}{n3:Int}{h:Heap}{Q:AHp}(hk:vc227 p1 n2 n3 h Q):AC Tryz.prog 227 [.ptr p1,.int .i64 n2,.int .i64 n3] h Q:=
 zK (H:=zE [] [(0,[7,8],[])]) (by kernel_rfl) (by kernel_rfl) hk
def vc280(n1:Int)(p2:PA)(p3:PA)(h:Heap)(Q:AHp):Prop:=
 ∃p4:OPa,zA h p2 1=some [.ptr p4]/\
 vPtr p4 λp5=>
 ∃q6:OSl,zA h ⟨p5.b,p5.o+4⟩ 1=some [.sl q6]/\
 vIdx q6 n1 4 λp7=>
 ∃n8 n9:Int,∃n10 n11:Int,zA h p7 4=some [.int .i64 n8,.int .i64 n9,.int .i64 n10,.int .i64 n11]/\
 ∃n12 n13:Int,∃n14 n15:Int,zA h p3 4=some [.int .i64 n12,.int .i64 n13,.int .i64 n14,.int .i64 n15]/\
 AC Tryz.prog 133 [.agg [.int .i64 n8,.int .i64 n9,.int .i64 n10,.int .i64 n11],.agg [.int .i64 n12,.int .i64 n13,.int .i64 n14,.int .i64 n15]] h λv16 h17=>∃n18:Int,v16= .int .i64 n18/\
 Q (.bool (decide (n18≥0))) h17
theorem ac280 {n1:Int}{p2:PA}{p3:PA}{h:Heap}{Q:AHp}(hk:vc280 n1 p2 p3 h Q):AC Tryz.prog 280 [.int .i64 n1,.ptr (some p2),.ptr (some p3)] h Q:=
 zK (H:=zE [] []) (by kernel_rfl) (by kernel_rfl) hk
def vc133(n1:Int)(n2:Int)(n3:Int)(n4:Int)(n5:Int)(n6:Int)(n7:Int)(n8:Int)(h:Heap)(Q:AHp):Prop:=
 AC Tryz.prog 201 [.agg [.int .i64 n1,.int .i64 n2],.agg [.int .i64 n5,.int .i64 n6]] h λv9 h10=>∃n11:Int,v9= .int .i64 n11/\
 (LV.val (.agg [.int .i64 n7,.int .i64 n8])=LV.val (.agg [.int .i64 n7,.int .i64 n8]))/\
 (LV.val (.agg [.int .i64 n3,.int .i64 n4])=LV.val (.agg [.int .i64 n3,.int .i64 n4]))/\
 AC Tryz.prog 202 [.agg [.int .i64 n3,.int .i64 n4],.agg [.int .i64 n7,.int .i64 n8]] h10 λv12 h13=>∃n14:Int,v12= .int .i64 n14/\
 PNew [.int .i64 n11,.int .i64 n14] true h13 λa15 h16=>
 AC Tryz.prog 200 [.sl (some ⟨a15,0,2,2,0⟩)] h16 λv17 h18=>∃n19:Int,v17= .int .i64 n19/\
 Q (.int .i64 n19) h18
theorem ac133 {n1:Int}{n2:Int}{n3:Int}{n4:Int}{n5:Int}{n6:Int}{n7:Int}{n8:Int}{h:Heap}{Q:AHp}(hk:vc133 n1 n2 n3 n4 n5 n6 n7 n8 h Q):AC Tryz.prog 133 [.agg [.int .i64 n1,.int .i64 n2,.int .i64 n3,.int .i64 n4],.agg [.int .i64 n5,.int .i64 n6,.int .i64 n7,.int .i64 n8]] h Q:=
 zK (H:=zE [2,3] []) (by kernel_rfl) (by kernel_rfl) hk
def vc158(n1:Int)(q2:OSl)(h:Heap)(Q:AHp):Prop:=
 AC Tryz.prog 230 [.sl q2] h λv3 h4=>∃q5:OSl,∃n6:Int,v3= .tup [.sl q5,.int .i64 n6]/\
 vif (n6 !=0)
 (Q (.tup [.sl none,.int .i64 n6]) h4)
 (AC Tryz.prog 231 [.sl q5] h4 λv7 h8=>∃q9:OSl,v7= .sl q9/\
 AC Tryz.prog 230 [.sl q9] h8 λv10 h11=>∃q12:OSl,∃n13:Int,v10= .tup [.sl q12,.int .i64 n13]/\
 PNew [.int .i64 (zJ q2:Int),.int .i64 (zJ q5:Int),.int .i64 (zJ q12:Int)] true h11 λa14 h15=>
 AC Tryz.prog 233 [.sl (some ⟨a14,0,3,3,0⟩)] h15 λv16 h17=>∃q18:OSl,v16= .sl q18/\
 PNew [.sl q18] true h17 λa19 h20=>
 PNew [.sl q5,.sl q12,.sl (some ⟨a19,0,1,1,0⟩)] true h20 λa21 h22=>
 AC Tryz.prog 232 [.sl (some ⟨a21,0,3,3,0⟩)] h22 λv23 h24=>∃q25:OSl,v23= .sl q25/\
 ∃(I27:LHp) (m28:LHn),I27 [.int .i64 0] h24/\
 ∀n26:Int,∀h29:Heap,I27 [.int .i64 n26] h29->
 vif (decide (n26<(zJ q25:Int)))
 (vIdx q25 n26 1 λp30=>
 ∃q31:OSl,zA h29 p30 1=some [.sl q31]/\
 AC Tryz.prog 234 [.int .i64 (zC .i64 (n1+n26)),.sl q31] h29 λv32 h33=>∃q34:OSl,∃n35:Int,v32= .tup [.sl q34,.int .i64 n35]/\
 vIdx q25 n26 1 λp36=>
 zL h33 p36 [.sl q34] λh37=>
 (True)/\I27 [.int .i64 (zC .i64 (n26+1))] h37/\m28 [.int .i64 (zC .i64 (n26+1))] h37<m28 [.int .i64 n26] h29)
 (Q (.tup [.sl q25,.int .i64 0]) h29))
theorem ac158 {n1:Int}{q2:OSl}{h:Heap}{Q:AHp}(hk:vc158 n1 q2 h Q):AC Tryz.prog 158 [.int .i64 n1,.sl q2] h Q:=
 zK (H:=zE [] [(0,[42],[])]) (by kernel_rfl) (by kernel_rfl) hk
def vc161(q1:OSl)(q2:OSl)(h:Heap)(Q:AHp):Prop:=
 vif ((zJ q1:Int)!=(zJ q2:Int))
 (Q (.bool false) h)
 (∃(I4:LHp) (m5:LHn),I4 [.int .i64 0] h/\
 ∀n3:Int,∀h6:Heap,I4 [.int .i64 n3] h6->
 vif (decide (n3<(zJ q1:Int)))
 (vIdx q1 n3 1 λp7=>
 ∃n8:Int,zA h6 p7 1=some [.int .u8 n8]/\
 vIdx q2 n3 1 λp9=>
 ∃n10:Int,zA h6 p9 1=some [.int .u8 n10]/\
 vif (n8 !=n10)
 (Q (.bool false) h6)
 ((True)/\I4 [.int .i64 (zC .i64 (n3+1))] h6/\m5 [.int .i64 (zC .i64 (n3+1))] h6<m5 [.int .i64 n3] h6))
 (Q (.bool true) h6))
theorem ac161 {q1:OSl}{q2:OSl}{h:Heap}{Q:AHp}(hk:vc161 q1 q2 h Q):AC Tryz.prog 161 [.sl q1,.sl q2] h Q:=
 zK (H:=zE [] [(0,[13],[])]) (by kernel_rfl) (by kernel_rfl) hk
def vc195(p1:OPa)(s2:List UInt8)(h:Heap)(Q:AHp):Prop:=
 AC Tryz.prog 102 [.ptr p1] h λv3 h4=>∃b5:Bool,v3= .bool b5/\
 vif b5
 (AC Tryz.prog 266 [.str s2] h4 λv6 h7=>∃b8:Bool,v6= .bool b8/\
 vif (!b8)
 (Q (.int .i64 1) h7)
 (AC Tryz.prog 267 [.ptr p1] h7 λv9 h10=>∃n11:Int,v9= .int .i64 n11/\
 vif (n11 !=0)
 (Q (.int .i64 n11) h10)
 (vPtr p1 λp12=>
 ∃m13:Option Nat,zA h10 ⟨p12.b,p12.o+0⟩ 1=some [.map m13]/\
 xO Tryz.prog 9 166 m13 (.str s2) false h10 λv14=>
 ∃p15:OPa,v14= .ptr p15/\
 vif (!(p15.isNone))
 (Q (.int .i64 5) h10)
 (vPtr p1 λp16=>
 ∃m17:Option Nat,zA h10 ⟨p16.b,p16.o+0⟩ 1=some [.map m17]/\
 zI6 h10 m17 λe18=>
 vif (decide (((e18:Nat):Int)≥256))
 (Q (.int .i64 2) h10)
 (AC Tryz.prog 217 [.ptr p1] h10 λv19 h20=>∃n21:Int,v19= .int .i64 n21/\
 vif (n21==0)
 (vPtr p1 λp22=>
 ∃m23:Option Nat,zA h20 ⟨p22.b,p22.o+0⟩ 1=some [.map m23]/\
 PNew [.str s2,.sl none,.sl none] true h20 λa24 h25=>
 vMap m23 λa27=>vX Tryz.prog 9 a27 (.str s2) (.ptr (some ⟨a24,0⟩)) h25 λh26=>
 Q (.int .i64 n21) h26)
 (Q (.int .i64 n21) h20))))))
 (AC Tryz.prog 267 [.ptr p1] h4 λv28 h29=>∃n30:Int,v28= .int .i64 n30/\
 vif (n30 !=0)
 (Q (.int .i64 n30) h29)
 (vPtr p1 λp31=>
 ∃m32:Option Nat,zA h29 ⟨p31.b,p31.o+0⟩ 1=some [.map m32]/\
 xO Tryz.prog 9 166 m32 (.str s2) false h29 λv33=>
 ∃p34:OPa,v33= .ptr p34/\
 vif (!(p34.isNone))
 (Q (.int .i64 5) h29)
 (vPtr p1 λp35=>
 ∃m36:Option Nat,zA h29 ⟨p35.b,p35.o+0⟩ 1=some [.map m36]/\
 zI6 h29 m36 λe37=>
 vif (decide (((e37:Nat):Int)≥256))
 (Q (.int .i64 2) h29)
 (AC Tryz.prog 217 [.ptr p1] h29 λv38 h39=>∃n40:Int,v38= .int .i64 n40/\
 vif (n40==0)
 (vPtr p1 λp41=>
 ∃m42:Option Nat,zA h39 ⟨p41.b,p41.o+0⟩ 1=some [.map m42]/\
 PNew [.str s2,.sl none,.sl none] true h39 λa43 h44=>
 vMap m42 λa46=>vX Tryz.prog 9 a46 (.str s2) (.ptr (some ⟨a43,0⟩)) h44 λh45=>
 Q (.int .i64 n40) h45)
 (Q (.int .i64 n40) h39)))))
theorem ac195 {p1:OPa}{s2:List UInt8}{h:Heap}{Q:AHp}(hk:vc195 p1 s2 h Q):AC Tryz.prog 195 [.ptr p1,.str s2] h Q:=
 zK (H:=zE [] []) (by kernel_rfl) (by kernel_rfl) hk
def vc196(p1:OPa)(s2:List UInt8)(q3:OSl)(h:Heap)(Q:AHp):Prop:=
 AC Tryz.prog 102 [.ptr p1] h λv4 h5=>∃b6:Bool,v4= .bool b6/\
 vif b6
 (vif ((zJ q3:Int)!=64)
 (Q (.int .i64 1) h5)
 (AC Tryz.prog 216 [.ptr p1,.str s2] h5 λv7 h8=>∃p9:OPa,∃n10:Int,v7= .tup [.ptr p9,.int .i64 n10]/\
 vif (n10 !=0)
 (Q (.int .i64 n10) h8)
 (vPtr p1 λp11=>
 ∃n12:Int,zA h8 ⟨p11.b,p11.o+2⟩ 1=some [.int .i64 n12]/\
 AC Tryz.prog 268 [.ptr p1] h8 λv13 h14=>∃n15:Int,v13= .int .i64 n15/\
 (∃n33:Int,zA h14 ⟨p11.b,p11.o+2⟩ 1=some [.int .i64 n33]/\
 LV.val (.int .i64 n33)=LV.val (.int .i64 n12))/\
 vif (decide (n15≥n12))
 (Q (.int .i64 2) h14)
 (AC Tryz.prog 217 [.ptr p1] h14 λv16 h17=>∃n18:Int,v16= .int .i64 n18/\
 vif (n18 !=0)
 (Q (.int .i64 n18) h17)
 (vPtr p9 λp19=>
 ∃q20:OSl,zA h17 ⟨p19.b,p19.o+1⟩ 1=some [.sl q20]/\
 PNew (List.replicate 64 (AV.int .u8 0)) true h17 λa21 h22=>
 zM 64 64 q20 (some ⟨a21,0,1,1,0⟩) h22 λq23 h24=>
 vPtr p9 λp25=>
 zL h24 ⟨p25.b,p25.o+1⟩ [.sl q23] λh26=>
 vPtr p9 λp27=>
 ∃q28:OSl,zA h26 ⟨p27.b,p27.o+1⟩ 1=some [.sl q28]/\
 vSl q3 λs29=>need (decide (0<64)&&decide (64<=s29.len)) (exC .u8 64 λl30=>
 zA h26 ⟨s29.b,s29.o⟩ 64=some l30/\
 AC Tryz.prog 269 [.ptr p1,.ptr p9,.int .i64 (zC .i64 ((zJ q28:Int) - 1)),.agg l30] h26 λv31 h32=>v31= .tup []/\
 Q (.int .i64 0) h32))))))
 (AC Tryz.prog 216 [.ptr p1,.str s2] h5 λv34 h35=>∃p36:OPa,∃n37:Int,v34= .tup [.ptr p36,.int .i64 n37]/\
 vif (n37 !=0)
 (Q (.int .i64 n37) h35)
 (vPtr p1 λp38=>
 ∃n39:Int,zA h35 ⟨p38.b,p38.o+2⟩ 1=some [.int .i64 n39]/\
 AC Tryz.prog 268 [.ptr p1] h35 λv40 h41=>∃n42:Int,v40= .int .i64 n42/\
 (∃n60:Int,zA h41 ⟨p38.b,p38.o+2⟩ 1=some [.int .i64 n60]/\
 LV.val (.int .i64 n60)=LV.val (.int .i64 n39))/\
 vif (decide (n42≥n39))
 (Q (.int .i64 2) h41)
 (AC Tryz.prog 217 [.ptr p1] h41 λv43 h44=>∃n45:Int,v43= .int .i64 n45/\
 vif (n45 !=0)
 (Q (.int .i64 n45) h44)
 (vPtr p36 λp46=>
 ∃q47:OSl,zA h44 ⟨p46.b,p46.o+1⟩ 1=some [.sl q47]/\
 PNew (List.replicate 64 (AV.int .u8 0)) true h44 λa48 h49=>
 zM 64 64 q47 (some ⟨a48,0,1,1,0⟩) h49 λq50 h51=>
 vPtr p36 λp52=>
 zL h51 ⟨p52.b,p52.o+1⟩ [.sl q50] λh53=>
 vPtr p36 λp54=>
 ∃q55:OSl,zA h53 ⟨p54.b,p54.o+1⟩ 1=some [.sl q55]/\
 vSl q3 λs56=>need (decide (0<64)&&decide (64<=s56.len)) (exC .u8 64 λl57=>
 zA h53 ⟨s56.b,s56.o⟩ 64=some l57/\
 AC Tryz.prog 269 [.ptr p1,.ptr p36,.int .i64 (zC .i64 ((zJ q55:Int) - 1)),.agg l57] h53 λv58 h59=>v58= .tup []/\
 Q (.int .i64 0) h59)))))
theorem ac196 {p1:OPa}{s2:List UInt8}{q3:OSl}{h:Heap}{Q:AHp}(hk:vc196 p1 s2 q3 h Q):AC Tryz.prog 196 [.ptr p1,.str s2,.sl q3] h Q:=
 zK (H:=zE [] []) (by kernel_rfl) (by kernel_rfl) hk
def vc197(p1:OPa)(s2:List UInt8)(h:Heap)(Q:AHp):Prop:=
 AC Tryz.prog 216 [.ptr p1,.str s2] h λv3 h4=>∃p5:OPa,∃n6:Int,v3= .tup [.ptr p5,.int .i64 n6]/\
 vif (n6 !=0)
 (Q (.int .i64 n6) h4)
 (AC Tryz.prog 217 [.ptr p1] h4 λv7 h8=>∃n9:Int,v7= .int .i64 n9/\
 vif (n9 !=0)
 (Q (.int .i64 n9) h8)
 (vPtr p1 λp10=>
 ∃q11:OSl,zA h8 ⟨p10.b,p10.o+1⟩ 1=some [.sl q11]/\
 ∃(I13:LHp) (m14:LHn),I13 [.int .i64 0] h8/\
 ∀n12:Int,∀h15:Heap,I13 [.int .i64 n12] h15->
 vif (decide (n12<(zJ q11:Int)))
 (vIdx q11 n12 66 λp16=>
 ∃p17:OPa,∃n18:Int,exC .u8 64 λl19=>
 zA h15 p16 66=some ([.ptr p17,.int .i64 n18]++(l19))/\
 aEq Tryz.prog 166 h15 (.ptr p17) (.ptr p5) λb20=>
 vif b20
 (AC Tryz.prog 167 [.agg ([.ptr p17,.int .i64 n18]++(l19)),.int .i64 64] h15 λv21 h22=>v21= .tup []/\
 (True)/\I13 [.int .i64 (zC .i64 (n12+1))] h22/\m14 [.int .i64 (zC .i64 (n12+1))] h22<m14 [.int .i64 n12] h15)
 ((True)/\I13 [.int .i64 (zC .i64 (n12+1))] h15/\m14 [.int .i64 (zC .i64 (n12+1))] h15<m14 [.int .i64 n12] h15))
 (AC Tryz.prog 218 [.ptr p1,.ptr p5] h15 λv23 h24=>v23= .tup []/\
 Q (.int .i64 0) h24)))
theorem ac197 {p1:OPa}{s2:List UInt8}{h:Heap}{Q:AHp}(hk:vc197 p1 s2 h Q):AC Tryz.prog 197 [.ptr p1,.str s2] h Q:=
 zK (H:=zE [9] [(0,[29],[])]) (by kernel_rfl) (by kernel_rfl) hk
def vc102(p1:OPa)(h:Heap)(Q:AHp):Prop:=
 vif (!(p1.isNone))
 (vPtr p1 λp2=>
 ∃m3:Option Nat,zA h ⟨p2.b,p2.o+0⟩ 1=some [.map m3]/\
 Q (.bool (!(m3.isNone))) h)
 (Q (.bool false) h)
theorem ac102 {p1:OPa}{h:Heap}{Q:AHp}(hk:vc102 p1 h Q):AC Tryz.prog 102 [.ptr p1] h Q:=
 zK (H:=zE [] []) (by kernel_rfl) (by kernel_rfl) hk
def vc167(p1:OPa)(n2:Int)(l3:Nat->Int)(n4:Int)(h:Heap)(Q:AHp):Prop:=
 PNew ([.ptr p1,.int .i64 n2]++((cel .u8 64 l3))) true h λa5 h6=>
 vif (decide ((minI n4 64)<1))
 (Q (.tup []) h6)
 (∃(I7:LHp) (m8:LHn),I7 [] h6/\
 ∀h9:Heap,I7 [] h9->
 ∃p10:OPa,zA h9 ⟨a5,0⟩ 1=some [.ptr p10]/\
 vPtr p10 λp11=>
 ∃q12:OSl,zA h9 ⟨p11.b,p11.o+2⟩ 1=some [.sl q12]/\
 ∃n13:Int,zA h9 ⟨a5,1⟩ 1=some [.int .i64 n13]/\
 vif (decide ((zJ q12:Int)<=n13))
 (∃p14:OPa,zA h9 ⟨a5,0⟩ 1=some [.ptr p14]/\
 ∃p15:OPa,zA h9 ⟨a5,0⟩ 1=some [.ptr p15]/\
 vPtr p15 λp16=>
 ∃q17:OSl,zA h9 ⟨p16.b,p16.o+2⟩ 1=some [.sl q17]/\
 PNew (List.replicate 64 (AV.int .u8 0)) true h9 λa18 h19=>
 (∃q27:OSl,zA h19 ⟨p16.b,p16.o+2⟩ 1=some [.sl q27]/\
 LV.val (.sl q27)=LV.val (.sl q17))/\
 (∃p26:OPa,zA h19 ⟨a5,0⟩ 1=some [.ptr p26]/\
 LV.val (.ptr p26)=LV.val (.ptr p15))/\
 (∃p25:OPa,zA h19 ⟨a5,0⟩ 1=some [.ptr p25]/\
 LV.val (.ptr p25)=LV.val (.ptr p14))/\
 zM 64 64 q17 (some ⟨a18,0,1,1,0⟩) h19 λq20 h21=>
 (∃p24:OPa,zA h21 ⟨a5,0⟩ 1=some [.ptr p24]/\
 LV.val (.ptr p24)=LV.val (.ptr p14))/\
 vPtr p14 λp22=>
 zL h21 ⟨p22.b,p22.o+2⟩ [.sl q20] λh23=>
 (True)/\I7 [] h23/\m8 [] h23<m8 [] h9)
 (∃p28:OPa,zA h9 ⟨a5,0⟩ 1=some [.ptr p28]/\
 vPtr p28 λp29=>
 ∃q30:OSl,zA h9 ⟨p29.b,p29.o+2⟩ 1=some [.sl q30]/\
 ∃n31:Int,zA h9 ⟨a5,1⟩ 1=some [.int .i64 n31]/\
 vIdx q30 n31 64 λp32=>
 zW 1 (some ⟨p32.b,p32.o,64,64,0⟩) 0 (some (minI n4 64)) none λq33=>
 zW 1 (some ⟨a5,2,64,64,0⟩) 0 (some (minI n4 64)) none λq34=>
 zGH 1 q33 q34 h9 λn35 h36=>
 Q (.tup []) h36))
theorem ac167 {p1:OPa}{n2:Int}{l3:Nat->Int}{n4:Int}{h:Heap}{Q:AHp}(hk:vc167 p1 n2 l3 n4 h Q):AC Tryz.prog 167 [.agg ([.ptr p1,.int .i64 n2]++((cel .u8 64 l3))),.int .i64 n4] h Q:=
 zK (H:=zE [] [(0,[],[])]) (by kernel_rfl) (by kernel_rfl) hk
def vc216(p1:OPa)(s2:List UInt8)(h:Heap)(Q:AHp):Prop:=
 AC Tryz.prog 267 [.ptr p1] h λv3 h4=>∃n5:Int,v3= .int .i64 n5/\
 vif (n5 !=0)
 (Q (.tup [.ptr none,.int .i64 n5]) h4)
 (vPtr p1 λp6=>
 ∃m7:Option Nat,zA h4 ⟨p6.b,p6.o+0⟩ 1=some [.map m7]/\
 xO Tryz.prog 9 166 m7 (.str s2) false h4 λv8=>
 ∃p9:OPa,v8= .ptr p9/\
 vif (p9.isNone)
 (Q (.tup [.ptr none,.int .i64 4]) h4)
 (Q (.tup [.ptr p9,.int .i64 0]) h4))
theorem ac216 {p1:OPa}{s2:List UInt8}{h:Heap}{Q:AHp}(hk:vc216 p1 s2 h Q):AC Tryz.prog 216 [.ptr p1,.str s2] h Q:=
 zK (H:=zE [] []) (by kernel_rfl) (by kernel_rfl) hk
def vc235(q1:OSl)(h:Heap)(Q:AHp):Prop:=
 vif (q1.isNone)
 (Q (.sl none) h)
 (PNew [] true h λa2 h3=>
 zM 1 1 (some ⟨a2,0,0,0,0⟩) q1 h3 λq4 h5=>
 Q (.sl q4) h5)
theorem ac235 {q1:OSl}{h:Heap}{Q:AHp}(hk:vc235 q1 h Q):AC Tryz.prog 235 [.sl q1] h Q:=
 zK (H:=zE [] []) (by kernel_rfl) (by kernel_rfl) hk
def vc87(n1:Int)(n2:Int)(n3:Int)(n4:Int)(n5:Int)(n6:Int)(n7:Int)(n8:Int)(h:Heap)(Q:AHp):Prop:=
 AC Tryz.prog 153 [.agg [.int .i64 n1,.int .i64 n2],.agg [.int .i64 n5,.int .i64 n6]] h λv9 h10=>∃n11:Int,v9= .int .i64 n11/\
 vif (n11 !=0)
 (Q (.int .i64 n11) h10)
 (AC Tryz.prog 123 [.agg [.int .i64 n3,.int .i64 n4],.agg [.int .i64 n7,.int .i64 n8]] h10 λv12 h13=>∃n14:Int,v12= .int .i64 n14/\
 Q (.int .i64 n14) h13)
theorem ac87 {n1:Int}{n2:Int}{n3:Int}{n4:Int}{n5:Int}{n6:Int}{n7:Int}{n8:Int}{h:Heap}{Q:AHp}(hk:vc87 n1 n2 n3 n4 n5 n6 n7 n8 h Q):AC Tryz.prog 87 [.agg [.int .i64 n1,.int .i64 n2,.int .i64 n3,.int .i64 n4],.agg [.int .i64 n5,.int .i64 n6,.int .i64 n7,.int .i64 n8]] h Q:=
 zK (H:=zE [2,3] []) (by kernel_rfl) (by kernel_rfl) hk
def vc289(p1:OPa)(s2:List UInt8)(n3:Int)(n4:Int)(h:Heap)(Q:AHp):Prop:=
 AC Tryz.prog 160 [.ptr p1,.str s2,.int .i64 n4] h λv5 h6=>∃q7:OSl,∃n8:Int,v5= .tup [.sl q7,.int .i64 n8]/\
 vif (n8 !=0)
 (Q (.tup [.sl none,.int .i64 n8]) h6)
 (AC Tryz.prog 350 [.sl q7,.int .i64 (zC .i64 (n3+n4))] h6 λv9 h10=>∃q11:OSl,∃n12:Int,v9= .tup [.sl q11,.int .i64 n12]/\
 vif (n12 !=0)
 (Q (.tup [.sl none,.int .i64 80]) h10)
 (Q (.tup [.sl q11,.int .i64 0]) h10))
theorem ac289 {p1:OPa}{s2:List UInt8}{n3:Int}{n4:Int}{h:Heap}{Q:AHp}(hk:vc289 p1 s2 n3 n4 h Q):AC Tryz.prog 289 [.agg [.ptr p1,.str s2,.int .i64 n3],.int .i64 n4] h Q:=
 zK (H:=zE [2] []) (by kernel_rfl) (by kernel_rfl) hk
def vc294(q1:OSl)(h:Heap)(Q:AHp):Prop:=
 vif (decide ((zJ q1:Int)>43))
 (Q (.tup [.sl none,.int .i64 3]) h)
 (AC Tryz.prog 247 [.sl q1] h λv2 h3=>∃p4:OPa,v2= .ptr p4/\
 ∃(I6:LHp) (m7:LHn),I6 [.sl none] h3/\
 ∀q5:OSl,∀h8:Heap,I6 [.sl q5] h8->
 AC Tryz.prog 353 [.ptr p4] h8 λv9 h10=>∃n11:Int,v9= .int .i64 n11/\
 vif (decide (n11>0))
 (AC Tryz.prog 354 [.ptr p4] h10 λv12 h13=>∃n14 n15 n16:Int,v12= .tup [.agg [.int .i64 n14,.int .i64 n15],.int .i64 n16]/\
 AC Tryz.prog 355 [.ptr p4] h13 λv17 h18=>∃n19 n20 n21:Int,v17= .tup [.agg [.int .i64 n19,.int .i64 n20],.int .i64 n21]/\
 vif (n16 !=0)
 (Q (.tup [.sl none,.int .i64 10]) h18)
 (vif (n21 !=0)
 (Q (.tup [.sl none,.int .i64 10]) h18)
 (PNew [.int .i64 n14,.int .i64 n15,.int .i64 n19,.int .i64 n20] true h18 λa22 h23=>
 zM 4 32 q5 (some ⟨a22,0,1,1,0⟩) h23 λq24 h25=>
 (True)/\I6 [.sl q24] h25/\m7 [.sl q24] h25<m7 [.sl q5] h8)))
 (Q (.tup [.sl q5,.int .i64 0]) h10))
theorem ac294 {q1:OSl}{h:Heap}{Q:AHp}(hk:vc294 q1 h Q):AC Tryz.prog 294 [.sl q1] h Q:=
 zK (H:=zE [6,8] [(0,[4],[])]) (by kernel_rfl) (by kernel_rfl) hk
def vc265(q1:OSl)(h:Heap)(Q:AHp):Prop:=
 ∃(I3:LHp) (m4:LHn),I3 [.int .i64 (zC .i64 ((zJ q1:Int) - 1))] h/\
 ∀n2:Int,∀h5:Heap,I3 [.int .i64 n2] h5->
 vif (decide (n2>0))
 (vIdx q1 n2 4 λp6=>
 ∃n7 n8:Int,∃n9 n10:Int,zA h5 p6 4=some [.int .i64 n7,.int .i64 n8,.int .i64 n9,.int .i64 n10]/\
 vIdx q1 (zC .i64 (n2-1)) 4 λp11=>
 ∃n12 n13:Int,∃n14 n15:Int,zA h5 p11 4=some [.int .i64 n12,.int .i64 n13,.int .i64 n14,.int .i64 n15]/\
 AC Tryz.prog 133 [.agg [.int .i64 n7,.int .i64 n8,.int .i64 n9,.int .i64 n10],.agg [.int .i64 n12,.int .i64 n13,.int .i64 n14,.int .i64 n15]] h5 λv16 h17=>∃n18:Int,v16= .int .i64 n18/\
 vif (decide (n18<0))
 (Q (.bool false) h17)
 ((True)/\I3 [.int .i64 (zC .i64 (n2-1))] h17/\m4 [.int .i64 (zC .i64 (n2-1))] h17<m4 [.int .i64 n2] h5))
 (Q (.bool true) h5)
theorem ac265 {q1:OSl}{h:Heap}{Q:AHp}(hk:vc265 q1 h Q):AC Tryz.prog 265 [.sl q1,.func (.func 133) [] []] h Q:=
 zK (H:=zE [] [(0,[5],[])]) (by kernel_rfl) (by kernel_rfl) hk
def vc247(q1:OSl)(h:Heap)(Q:AHp):Prop:=
 AC Tryz.prog 235 [.sl q1] h λv2 h3=>∃q4:OSl,v2= .sl q4/\
 PNew [.sl q4,.bool false] true h3 λa5 h6=>
 Q (.ptr (some ⟨a5,0⟩)) h6
theorem ac247 {q1:OSl}{h:Heap}{Q:AHp}(hk:vc247 q1 h Q):AC Tryz.prog 247 [.sl q1] h Q:=
 zK (H:=zE [] []) (by kernel_rfl) (by kernel_rfl) hk
def vc249(p1:OPa)(h:Heap)(Q:AHp):Prop:=
 AC Tryz.prog 317 [.ptr p1,.int .i64 1] h λv2 h3=>∃n4:Int,v2= .int .i64 n4/\
 vif (decide (n4<240))
 (Q (.int .i64 n4) h3)
 (vif (decide (n4<248))
 (AC Tryz.prog 317 [.ptr p1,.int .i64 1] h3 λv5 h6=>∃n7:Int,v5= .int .i64 n7/\
 AC Tryz.prog 318 [.ptr p1,.int .i64 (zC .i64 ((zC .i64 (240+(shlK .i64 (zC .i64 (n4-240)) 8)))+n7)),.bool true] h6 λv8 h9=>∃n10:Int,v8= .int .i64 n10/\
 Q (.int .i64 n10) h9)
 (vif (decide (n4<=254))
 (AC Tryz.prog 317 [.ptr p1,.int .i64 (zC .i64 (n4-246))] h3 λv11 h12=>∃n13:Int,v11= .int .i64 n13/\
 vif (decide (n13≥2288))
 (AC Tryz.prog 319 [.int .i64 n13] h12 λv14 h15=>∃n16:Int,v14= .int .i64 n16/\
 AC Tryz.prog 318 [.ptr p1,.int .i64 n13,.bool (n16==(zC .i64 ((zC .i64 (n4-246))+1)))] h15 λv17 h18=>∃n19:Int,v17= .int .i64 n19/\
 Q (.int .i64 n19) h18)
 (AC Tryz.prog 318 [.ptr p1,.int .i64 n13,.bool false] h12 λv20 h21=>∃n22:Int,v20= .int .i64 n22/\
 Q (.int .i64 n22) h21))
 (AC Tryz.prog 320 [.ptr p1] h3 λv23 h24=>∃n25:Int,v23= .int .i64 n25/\
 Q (.int .i64 n25) h24)))
theorem ac249 {p1:OPa}{h:Heap}{Q:AHp}(hk:vc249 p1 h Q):AC Tryz.prog 249 [.ptr p1] h Q:=
 zK (H:=zE [] []) (by kernel_rfl) (by kernel_rfl) hk
def vc250(p1:OPa)(h:Heap)(Q:AHp):Prop:=
 AC Tryz.prog 315 [.ptr p1] h λv2 h3=>∃b4:Bool,v2= .bool b4/\
 vif b4
 (Q (.int .i64 10) h3)
 (vPtr p1 λp5=>
 ∃q6:OSl,zA h3 ⟨p5.b,p5.o+0⟩ 1=some [.sl q6]/\
 vif (decide ((zJ q6:Int)>0))
 (Q (.int .i64 10) h3)
 (Q (.int .i64 0) h3))
theorem ac250 {p1:OPa}{h:Heap}{Q:AHp}(hk:vc250 p1 h Q):AC Tryz.prog 250 [.ptr p1] h Q:=
 zK (H:=zE [] []) (by kernel_rfl) (by kernel_rfl) hk
def vc291(q1:OSl)(q2:OSl)(h:Heap)(Q:AHp):Prop:=
 AC Tryz.prog 230 [.sl q1] h λv3 h4=>∃q5:OSl,∃n6:Int,v3= .tup [.sl q5,.int .i64 n6]/\
 vif (n6 !=0)
 (Q (.bool false) h4)
 (vif ((zJ q5:Int)!=(zJ q2:Int))
 (Q (.bool false) h4)
 (∃(I8:LHp) (m9:LHn),I8 [.int .i64 0] h4/\
 ∀n7:Int,∀h10:Heap,I8 [.int .i64 n7] h10->
 vif (decide (n7<(zJ q5:Int)))
 (vIdx q5 n7 1 λp11=>
 ∃q12:OSl,zA h10 p11 1=some [.sl q12]/\
 AC Tryz.prog 294 [.sl q12] h10 λv13 h14=>∃q15:OSl,∃n16:Int,v13= .tup [.sl q15,.int .i64 n16]/\
 vIdx q2 n7 1 λp17=>
 ∃n18:Int,zA h14 p17 1=some [.int .i64 n18]/\
 vif ((zJ q15:Int)!=n18)
 (Q (.bool false) h14)
 ((True)/\I8 [.int .i64 (zC .i64 (n7+1))] h14/\m9 [.int .i64 (zC .i64 (n7+1))] h14<m9 [.int .i64 n7] h10))
 (Q (.bool true) h10)))
theorem ac291 {q1:OSl}{q2:OSl}{h:Heap}{Q:AHp}(hk:vc291 q1 q2 h Q):AC Tryz.prog 291 [.sl q1,.sl q2] h Q:=
 zK (H:=zE [] [(0,[27],[])]) (by kernel_rfl) (by kernel_rfl) hk
def vc200(q1:OSl)(h:Heap)(Q:AHp):Prop:=
 ∃(I3:LHp) (m4:LHn),I3 [.int .i64 0] h/\
 ∀n2:Int,∀h5:Heap,I3 [.int .i64 n2] h5->
 vif (decide (n2<(zJ q1:Int)))
 (vIdx q1 n2 1 λp6=>
 ∃n7:Int,zA h5 p6 1=some [.int .i64 n7]/\
 vif (n7 !=0)
 (Q (.int .i64 n7) h5)
 ((True)/\I3 [.int .i64 (zC .i64 (n2+1))] h5/\m4 [.int .i64 (zC .i64 (n2+1))] h5<m4 [.int .i64 n2] h5))
 (Q (.int .i64 0) h5)
theorem ac200 {q1:OSl}{h:Heap}{Q:AHp}(hk:vc200 q1 h Q):AC Tryz.prog 200 [.sl q1] h Q:=
 zK (H:=zE [] [(0,[8],[])]) (by kernel_rfl) (by kernel_rfl) hk
def vc201(n1:Int)(n2:Int)(n3:Int)(n4:Int)(h:Heap)(Q:AHp):Prop:=
 AC Tryz.prog 259 [.int .i64 n1,.int .i64 n3] h λv5 h6=>∃n7:Int,v5= .int .i64 n7/\
 (LV.val (.int .i64 n4)=LV.val (.int .i64 n4))/\
 (LV.val (.int .i64 n2)=LV.val (.int .i64 n2))/\
 AC Tryz.prog 259 [.int .i64 n2,.int .i64 n4] h6 λv8 h9=>∃n10:Int,v8= .int .i64 n10/\
 PNew [.int .i64 n7,.int .i64 n10] true h9 λa11 h12=>
 AC Tryz.prog 200 [.sl (some ⟨a11,0,2,2,0⟩)] h12 λv13 h14=>∃n15:Int,v13= .int .i64 n15/\
 Q (.int .i64 n15) h14
theorem ac201 {n1:Int}{n2:Int}{n3:Int}{n4:Int}{h:Heap}{Q:AHp}(hk:vc201 n1 n2 n3 n4 h Q):AC Tryz.prog 201 [.agg [.int .i64 n1,.int .i64 n2],.agg [.int .i64 n3,.int .i64 n4]] h Q:=
 zK (H:=zE [2,3] []) (by kernel_rfl) (by kernel_rfl) hk
def vc202(n1:Int)(n2:Int)(n3:Int)(n4:Int)(h:Heap)(Q:AHp):Prop:=
 AC Tryz.prog 259 [.int .i64 n1,.int .i64 n3] h λv5 h6=>∃n7:Int,v5= .int .i64 n7/\
 (LV.val (.int .i64 n4)=LV.val (.int .i64 n4))/\
 (LV.val (.int .i64 n2)=LV.val (.int .i64 n2))/\
 AC Tryz.prog 259 [.int .i64 n2,.int .i64 n4] h6 λv8 h9=>∃n10:Int,v8= .int .i64 n10/\
 PNew [.int .i64 n7,.int .i64 n10] true h9 λa11 h12=>
 AC Tryz.prog 200 [.sl (some ⟨a11,0,2,2,0⟩)] h12 λv13 h14=>∃n15:Int,v13= .int .i64 n15/\
 Q (.int .i64 n15) h14
theorem ac202 {n1:Int}{n2:Int}{n3:Int}{n4:Int}{h:Heap}{Q:AHp}(hk:vc202 n1 n2 n3 n4 h Q):AC Tryz.prog 202 [.agg [.int .i64 n1,.int .i64 n2],.agg [.int .i64 n3,.int .i64 n4]] h Q:=
 zK (H:=zE [2,3] []) (by kernel_rfl) (by kernel_rfl) hk
def vc230(q1:OSl)(h:Heap)(Q:AHp):Prop:=
 AC Tryz.prog 215 [.sl q1] h λv2 h3=>∃n4:Int,v2= .int .i64 n4/\
 vif (n4 !=0)
 (Q (.tup [.sl none,.int .i64 n4]) h3)
 (∃(I8:LHp) (m9:LHn),I8 [.sl none,.sl none,.int .i64 0] h3/\
 ∀q5 q6:OSl,∀n7:Int,∀h10:Heap,I8 [.sl q5,.sl q6,.int .i64 n7] h10->
 vif (decide (n7<(zJ q1:Int)))
 (vIdx q1 n7 4 λp11=>
 ∃n12 n13:Int,∃n14 n15:Int,zA h10 p11 4=some [.int .i64 n12,.int .i64 n13,.int .i64 n14,.int .i64 n15]/\
 AC Tryz.prog 293 [.agg [.int .i64 n12,.int .i64 n13,.int .i64 n14,.int .i64 n15]] h10 λv16 h17=>∃q18:OSl,v16= .sl q18/\
 vif (decide ((zC .i64 ((zJ q6:Int)+(zJ q18:Int)))>43))
 (PNew [.sl q6] true h17 λa19 h20=>
 zM 1 24 q5 (some ⟨a19,0,1,1,0⟩) h20 λq21 h22=>
 zM 1 1 none q18 h22 λq23 h24=>
 (True)/\I8 [.sl q21,.sl q23,.int .i64 (zC .i64 (n7+1))] h24/\m9 [.sl q21,.sl q23,.int .i64 (zC .i64 (n7+1))] h24<m9 [.sl q5,.sl q6,.int .i64 n7] h10)
 (zM 1 1 q6 q18 h17 λq25 h26=>
 (True)/\I8 [.sl q5,.sl q25,.int .i64 (zC .i64 (n7+1))] h26/\m9 [.sl q5,.sl q25,.int .i64 (zC .i64 (n7+1))] h26<m9 [.sl q5,.sl q6,.int .i64 n7] h10))
 (vif (decide ((zJ q6:Int)>0))
 (PNew [.sl q6] true h10 λa27 h28=>
 zM 1 24 q5 (some ⟨a27,0,1,1,0⟩) h28 λq29 h30=>
 Q (.tup [.sl q29,.int .i64 0]) h30)
 (Q (.tup [.sl q5,.int .i64 0]) h10)))
theorem ac230 {q1:OSl}{h:Heap}{Q:AHp}(hk:vc230 q1 h Q):AC Tryz.prog 230 [.sl q1] h Q:=
 zK (H:=zE [8] [(0,[5,6,17],[])]) (by kernel_rfl) (by kernel_rfl) hk
def vc231(q1:OSl)(h:Heap)(Q:AHp):Prop:=
 ∃(I4:LHp) (m5:LHn),I4 [.sl none,.int .i64 0] h/\
 ∀q2:OSl,∀n3:Int,∀h6:Heap,I4 [.sl q2,.int .i64 n3] h6->
 vif (decide (n3<(zJ q1:Int)))
 (vIdx q1 n3 1 λp7=>
 ∃q8:OSl,zA h6 p7 1=some [.sl q8]/\
 AC Tryz.prog 294 [.sl q8] h6 λv9 h10=>∃q11:OSl,∃n12:Int,v9= .tup [.sl q11,.int .i64 n12]/\
 vIdx q11 0 4 λp13=>
 ∃n14 n15:Int,∃n16 n17:Int,zA h10 p13 4=some [.int .i64 n14,.int .i64 n15,.int .i64 n16,.int .i64 n17]/\
 PNew [.int .i64 n14,.int .i64 n15,.int .i64 n16,.int .i64 n17] true h10 λa18 h19=>
 zM 4 32 q2 (some ⟨a18,0,1,1,0⟩) h19 λq20 h21=>
 (True)/\I4 [.sl q20,.int .i64 (zC .i64 (n3+1))] h21/\m5 [.sl q20,.int .i64 (zC .i64 (n3+1))] h21<m5 [.sl q2,.int .i64 n3] h6)
 (Q (.sl q2) h6)
theorem ac231 {q1:OSl}{h:Heap}{Q:AHp}(hk:vc231 q1 h Q):AC Tryz.prog 231 [.sl q1] h Q:=
 zK (H:=zE [] [(0,[3,10],[])]) (by kernel_rfl) (by kernel_rfl) hk
def vc232(q1:OSl)(h:Heap)(Q:AHp):Prop:=
 ∃(I4:LHp) (m5:LHn),I4 [.int .i64 0,.int .i64 0] h/\
 ∀n2 n3:Int,∀h6:Heap,I4 [.int .i64 n2,.int .i64 n3] h6->
 vif (decide (n3<(zJ q1:Int)))
 (vIdx q1 n3 1 λp7=>
 ∃q8:OSl,zA h6 p7 1=some [.sl q8]/\
 vif (decide ((zC .i64 (n2+(zJ q8:Int)))<0))
 (False)
 ((True)/\I4 [.int .i64 (zC .i64 (n2+(zJ q8:Int))),.int .i64 (zC .i64 (n3+1))] h6/\m5 [.int .i64 (zC .i64 (n2+(zJ q8:Int))),.int .i64 (zC .i64 (n3+1))] h6<m5 [.int .i64 n2,.int .i64 n3] h6))
 (AC Tryz.prog 295 [.sl none,.int .i64 n2] h6 λv9 h10=>∃q11:OSl,v9= .sl q11/\
 ∃(I14:LHp) (m15:LHn),I14 [.sl q11,.int .i64 0] h10/\
 ∀q12:OSl,∀n13:Int,∀h16:Heap,I14 [.sl q12,.int .i64 n13] h16->
 vif (decide (n13<(zJ q1:Int)))
 (vIdx q1 n13 1 λp17=>
 ∃q18:OSl,zA h16 p17 1=some [.sl q18]/\
 zM 1 24 q12 q18 h16 λq19 h20=>
 (True)/\I14 [.sl q19,.int .i64 (zC .i64 (n13+1))] h20/\m15 [.sl q19,.int .i64 (zC .i64 (n13+1))] h20<m15 [.sl q12,.int .i64 n13] h16)
 (Q (.sl q12) h16))
theorem ac232 {q1:OSl}{h:Heap}{Q:AHp}(hk:vc232 q1 h Q):AC Tryz.prog 232 [.sl q1] h Q:=
 zK (H:=zE [] [(0,[3,11],[]),(2,[6,27],[])]) (by kernel_rfl) (by kernel_rfl) hk
def vc233(q1:OSl)(h:Heap)(Q:AHp):Prop:=
 ∃(I4:LHp) (m5:LHn),I4 [.sl none,.int .i64 0] h/\
 ∀q2:OSl,∀n3:Int,∀h6:Heap,I4 [.sl q2,.int .i64 n3] h6->
 vif (decide (n3<(zJ q1:Int)))
 (vIdx q1 n3 1 λp7=>
 ∃n8:Int,zA h6 p7 1=some [.int .i64 n8]/\
 AC Tryz.prog 296 [.int .i64 n8] h6 λv9 h10=>∃q11:OSl,∃n12:Int,v9= .tup [.sl q11,.int .i64 n12]/\
 zM 1 1 q2 q11 h10 λq13 h14=>
 (True)/\I4 [.sl q13,.int .i64 (zC .i64 (n3+1))] h14/\m5 [.sl q13,.int .i64 (zC .i64 (n3+1))] h14<m5 [.sl q2,.int .i64 n3] h6)
 (Q (.sl q2) h6)
theorem ac233 {q1:OSl}{h:Heap}{Q:AHp}(hk:vc233 q1 h Q):AC Tryz.prog 233 [.sl q1] h Q:=
 zK (H:=zE [] [(0,[3,10],[])]) (by kernel_rfl) (by kernel_rfl) hk
def vc234(n1:Int)(q2:OSl)(h:Heap)(Q:AHp):Prop:=
 AC Tryz.prog 297 [.int .i64 n1] h λv3 h4=>∃b5:Bool,v3= .bool b5/\
 vif (!b5)
 (Q (.tup [.sl none,.int .i64 1]) h4)
 (vif (decide ((zJ q2:Int)>43))
 (Q (.tup [.sl none,.int .i64 3]) h4)
 (AC Tryz.prog 298 [.int .i64 n1,.int .i64 8] h4 λv6 h7=>∃q8:OSl,∃n9:Int,v6= .tup [.sl q8,.int .i64 n9]/\
 zML [.int .u8 0] 1 52 52 h7 λq10 h11=>
 zGH 1 q10 q8 h11 λn12 h13=>
 vIdx q10 8 1 λp14=>
 zL h13 p14 [.int .u8 (zC .u8 (zJ q2:Int))] λh15=>
 zW 1 q10 9 none none λq16=>
 zGH 1 q16 q2 h15 λn17 h18=>
 AC Tryz.prog 300 [.sl q10] h18 λv19 h20=>∃q21:OSl,v19= .sl q21/\
 PNew [.sl q21,.sl q8] true h20 λa22 h23=>
 AC Tryz.prog 299 [.sl (some ⟨a22,0,2,2,0⟩)] h23 λv24 h25=>∃q26:OSl,v24= .sl q26/\
 Q (.tup [.sl q26,.int .i64 0]) h25))
theorem ac234 {n1:Int}{q2:OSl}{h:Heap}{Q:AHp}(hk:vc234 n1 q2 h Q):AC Tryz.prog 234 [.int .i64 n1,.sl q2] h Q:=
 zK (H:=zE [] []) (by kernel_rfl) (by kernel_rfl) hk
def vc266(s1:List UInt8)(h:Heap)(Q:AHp):Prop:=
 vif (decide ((s1.length:Int)≥1))
 (Q (.bool (decide ((s1.length:Int)<=24))) h)
 (Q (.bool false) h)
theorem ac266 {s1:List UInt8}{h:Heap}{Q:AHp}(hk:vc266 s1 h Q):AC Tryz.prog 266 [.str s1] h Q:=
 zK (H:=zE [] []) (by kernel_rfl) (by kernel_rfl) hk
def vc267(p1:OPa)(h:Heap)(Q:AHp):Prop:=
 AC Tryz.prog 102 [.ptr p1] h λv2 h3=>∃b4:Bool,v2= .bool b4/\
 vif (!b4)
 (Q (.int .i64 6) h3)
 (vPtr p1 λp5=>
 ∃b6:Bool,zA h3 ⟨p5.b,p5.o+4⟩ 1=some [.bool b6]/\
 vif b6
 (Q (.int .i64 50) h3)
 (Q (.int .i64 0) h3))
theorem ac267 {p1:OPa}{h:Heap}{Q:AHp}(hk:vc267 p1 h Q):AC Tryz.prog 267 [.ptr p1] h Q:=
 zK (H:=zE [] []) (by kernel_rfl) (by kernel_rfl) hk
def vc217(p1:OPa)(h:Heap)(Q:AHp):Prop:=
 vPtr p1 λp2=>
 ∃n3:Int,zA h ⟨p2.b,p2.o+3⟩ 1=some [.int .i64 n3]/\
 vif (n3==0)
 (vPtr p1 λp4=>
 zL h ⟨p4.b,p4.o+4⟩ [.bool true] λh5=>
 Q (.int .i64 50) h5)
 (vPtr p1 λp6=>
 ∃n7:Int,zA h ⟨p6.b,p6.o+3⟩ 1=some [.int .i64 n7]/\
 vif (decide (n7>0))
 (vPtr p1 λp8=>
 ∃n9:Int,zA h ⟨p8.b,p8.o+3⟩ 1=some [.int .i64 n9]/\
 vPtr p1 λp10=>
 zL h ⟨p10.b,p10.o+3⟩ [.int .i64 (zC .i64 (n9-1))] λh11=>
 Q (.int .i64 0) h11)
 (Q (.int .i64 0) h))
theorem ac217 {p1:OPa}{h:Heap}{Q:AHp}(hk:vc217 p1 h Q):AC Tryz.prog 217 [.ptr p1] h Q:=
 zK (H:=zE [] []) (by kernel_rfl) (by kernel_rfl) hk
def vc269(p1:OPa)(p2:OPa)(n3:Int)(l4:Nat->Int)(h:Heap)(Q:AHp):Prop:=
 vPtr p2 λp5=>
 ∃q6:OSl,zA h ⟨p5.b,p5.o+1⟩ 1=some [.sl q6]/\
 vIdx q6 n3 64 λp7=>
 zL h p7 (cel .u8 64 l4) λh8=>
 vPtr p1 λp9=>
 ∃q10:OSl,zA h8 ⟨p9.b,p9.o+1⟩ 1=some [.sl q10]/\
 PNew ([.ptr p2,.int .i64 n3]++((cel .u8 64 l4))) true h8 λa11 h12=>
 (∃q17:OSl,zA h12 ⟨p9.b,p9.o+1⟩ 1=some [.sl q17]/\
 LV.val (.sl q17)=LV.val (.sl q10))/\
 zM 66 80 q10 (some ⟨a11,0,1,1,0⟩) h12 λq13 h14=>
 vPtr p1 λp15=>
 zL h14 ⟨p15.b,p15.o+1⟩ [.sl q13] λh16=>
 Q (.tup []) h16
theorem ac269 {p1:OPa}{p2:OPa}{n3:Int}{l4:Nat->Int}{h:Heap}{Q:AHp}(hk:vc269 p1 p2 n3 l4 h Q):AC Tryz.prog 269 [.ptr p1,.ptr p2,.int .i64 n3,.agg (cel .u8 64 l4)] h Q:=
 zK (H:=zE [7] []) (by kernel_rfl) (by kernel_rfl) hk
def vc153(n1:Int)(n2:Int)(n3:Int)(n4:Int)(h:Heap)(Q:AHp):Prop:=
 vif (decide (n1<n3))
 (Q (.int .i64 (-1)) h)
 (vif (n1==n3)
 (vif (decide (n2<n4))
 (Q (.int .i64 (-1)) h)
 (vif ((n1==n3)&&((n2==n4)&&true))
 (Q (.int .i64 0) h)
 (Q (.int .i64 1) h)))
 (vif ((n1==n3)&&((n2==n4)&&true))
 (Q (.int .i64 0) h)
 (Q (.int .i64 1) h)))
theorem ac153 {n1:Int}{n2:Int}{n3:Int}{n4:Int}{h:Heap}{Q:AHp}(hk:vc153 n1 n2 n3 n4 h Q):AC Tryz.prog 153 [.agg [.int .i64 n1,.int .i64 n2],.agg [.int .i64 n3,.int .i64 n4]] h Q:=
 zK (H:=zE [2,3] []) (by kernel_rfl) (by kernel_rfl) hk
def vc123(n1:Int)(n2:Int)(n3:Int)(n4:Int)(h:Heap)(Q:AHp):Prop:=
 vif (decide (n1<n3))
 (Q (.int .i64 (-1)) h)
 (vif (n1==n3)
 (vif (decide (n2<n4))
 (Q (.int .i64 (-1)) h)
 (vif ((n1==n3)&&((n2==n4)&&true))
 (Q (.int .i64 0) h)
 (Q (.int .i64 1) h)))
 (vif ((n1==n3)&&((n2==n4)&&true))
 (Q (.int .i64 0) h)
 (Q (.int .i64 1) h)))
theorem ac123 {n1:Int}{n2:Int}{n3:Int}{n4:Int}{h:Heap}{Q:AHp}(hk:vc123 n1 n2 n3 n4 h Q):AC Tryz.prog 123 [.agg [.int .i64 n1,.int .i64 n2],.agg [.int .i64 n3,.int .i64 n4]] h Q:=
 zK (H:=zE [2,3] []) (by kernel_rfl) (by kernel_rfl) hk
def vc350(q1:OSl)(n2:Int)(h:Heap)(Q:AHp):Prop:=
 AC Tryz.prog 395 [.sl q1] h λv3 h4=>∃n5:Int,∃b6:Bool,v3= .tup [.int .i64 n5,.bool b6]/\
 vif (!b6)
 (Q (.tup [.sl none,.int .i64 60]) h4)
 (vif (n5 !=n2)
 (Q (.tup [.sl none,.int .i64 60]) h4)
 (vIdx q1 8 1 λp7=>
 ∃n8:Int,zA h4 p7 1=some [.int .u8 n8]/\
 vif (decide ((zC .i64 n8)>43))
 (Q (.tup [.sl none,.int .i64 20]) h4)
 (zW 1 q1 9 (some (zC .i64 (9+(zC .i64 n8)))) none λq9=>
 AC Tryz.prog 234 [.int .i64 n2,.sl q9] h4 λv10 h11=>∃q12:OSl,∃n13:Int,v10= .tup [.sl q12,.int .i64 n13]/\
 AC Tryz.prog 161 [.sl q12,.sl q1] h11 λv14 h15=>∃b16:Bool,v14= .bool b16/\
 vif (!b16)
 (Q (.tup [.sl none,.int .i64 20]) h15)
 (AC Tryz.prog 235 [.sl q9] h15 λv17 h18=>∃q19:OSl,v17= .sl q19/\
 Q (.tup [.sl q19,.int .i64 0]) h18))))
theorem ac350 {q1:OSl}{n2:Int}{h:Heap}{Q:AHp}(hk:vc350 q1 n2 h Q):AC Tryz.prog 350 [.sl q1,.int .i64 n2] h Q:=
 zK (H:=zE [] []) (by kernel_rfl) (by kernel_rfl) hk
def vc353(p1:OPa)(h:Heap)(Q:AHp):Prop:=
 AC Tryz.prog 315 [.ptr p1] h λv2 h3=>∃b4:Bool,v2= .bool b4/\
 vif b4
 (Q (.int .i64 0) h3)
 (vPtr p1 λp5=>
 ∃q6:OSl,zA h3 ⟨p5.b,p5.o+0⟩ 1=some [.sl q6]/\
 Q (.int .i64 (zJ q6:Int)) h3)
theorem ac353 {p1:OPa}{h:Heap}{Q:AHp}(hk:vc353 p1 h Q):AC Tryz.prog 353 [.ptr p1] h Q:=
 zK (H:=zE [] []) (by kernel_rfl) (by kernel_rfl) hk
def vc354(p1:OPa)(h:Heap)(Q:AHp):Prop:=
 AC Tryz.prog 249 [.ptr p1] h λv2 h3=>∃n4:Int,v2= .int .i64 n4/\
 AC Tryz.prog 249 [.ptr p1] h3 λv5 h6=>∃n7:Int,v5= .int .i64 n7/\
 AC Tryz.prog 315 [.ptr p1] h6 λv8 h9=>∃b10:Bool,v8= .bool b10/\
 vif b10
 (Q (.tup [.agg [.int .i64 0,.int .i64 0],.int .i64 10]) h9)
 (AC Tryz.prog 127 [.agg [.int .i64 n4,.int .i64 n7]] h9 λv11 h12=>∃n13:Int,v11= .int .i64 n13/\
 vif (n13 !=0)
 (Q (.tup [.agg [.int .i64 0,.int .i64 0],.int .i64 n13]) h12)
 (Q (.tup [.agg [.int .i64 n4,.int .i64 n7],.int .i64 0]) h12))
theorem ac354 {p1:OPa}{h:Heap}{Q:AHp}(hk:vc354 p1 h Q):AC Tryz.prog 354 [.ptr p1] h Q:=
 zK (H:=zE [2,4] []) (by kernel_rfl) (by kernel_rfl) hk
def vc355(p1:OPa)(h:Heap)(Q:AHp):Prop:=
 AC Tryz.prog 249 [.ptr p1] h λv2 h3=>∃n4:Int,v2= .int .i64 n4/\
 AC Tryz.prog 249 [.ptr p1] h3 λv5 h6=>∃n7:Int,v5= .int .i64 n7/\
 AC Tryz.prog 315 [.ptr p1] h6 λv8 h9=>∃b10:Bool,v8= .bool b10/\
 vif b10
 (Q (.tup [.agg [.int .i64 0,.int .i64 0],.int .i64 10]) h9)
 (AC Tryz.prog 128 [.agg [.int .i64 n4,.int .i64 n7]] h9 λv11 h12=>∃n13:Int,v11= .int .i64 n13/\
 vif (n13 !=0)
 (Q (.tup [.agg [.int .i64 0,.int .i64 0],.int .i64 n13]) h12)
 (Q (.tup [.agg [.int .i64 n4,.int .i64 n7],.int .i64 0]) h12))
theorem ac355 {p1:OPa}{h:Heap}{Q:AHp}(hk:vc355 p1 h Q):AC Tryz.prog 355 [.ptr p1] h Q:=
 zK (H:=zE [2,4] []) (by kernel_rfl) (by kernel_rfl) hk
def vc317(p1:OPa)(n2:Int)(h:Heap)(Q:AHp):Prop:=
 vif (decide (n2<1))
 (AC Tryz.prog 320 [.ptr p1] h λv3 h4=>∃n5:Int,v3= .int .i64 n5/\
 Q (.int .i64 n5) h4)
 (vif (decide (n2>8))
 (AC Tryz.prog 320 [.ptr p1] h λv6 h7=>∃n8:Int,v6= .int .i64 n8/\
 Q (.int .i64 n8) h7)
 (AC Tryz.prog 366 [.ptr p1,.int .i64 n2] h λv9 h10=>∃q11:OSl,v9= .sl q11/\
 ∃(I14:LHp) (m15:LHn),I14 [.int .u64 0,.int .i64 0] h10/\
 ∀n12 n13:Int,∀h16:Heap,I14 [.int .u64 n12,.int .i64 n13] h16->
 vif (decide (n13<(zJ q11:Int)))
 (vIdx q11 n13 1 λp17=>
 ∃n18:Int,zA h16 p17 1=some [.int .u8 n18]/\
 (True)/\I14 [.int .u64 (zHK .u64 (shlK .u64 n12 8) (zC .u64 n18)),.int .i64 (zC .i64 (n13+1))] h16/\m15 [.int .u64 (zHK .u64 (shlK .u64 n12 8) (zC .u64 n18)),.int .i64 (zC .i64 (n13+1))] h16<m15 [.int .u64 n12,.int .i64 n13] h16)
 (AC Tryz.prog 315 [.ptr p1] h16 λv19 h20=>∃b21:Bool,v19= .bool b21/\
 vif b21
 (AC Tryz.prog 320 [.ptr p1] h20 λv22 h23=>∃n24:Int,v22= .int .i64 n24/\
 Q (.int .i64 n24) h23)
 (vif (decide (n12>9223372036854775807))
 (AC Tryz.prog 320 [.ptr p1] h20 λv25 h26=>∃n27:Int,v25= .int .i64 n27/\
 Q (.int .i64 n27) h26)
 (Q (.int .i64 (zC .i64 n12)) h20)))))
theorem ac317 {p1:OPa}{n2:Int}{h:Heap}{Q:AHp}(hk:vc317 p1 n2 h Q):AC Tryz.prog 317 [.ptr p1,.int .i64 n2] h Q:=
 zK (H:=zE [] [(0,[5,20],[])]) (by kernel_rfl) (by kernel_rfl) hk
def vc318(p1:OPa)(n2:Int)(b3:Bool)(h:Heap)(Q:AHp):Prop:=
 AC Tryz.prog 315 [.ptr p1] h λv4 h5=>∃b6:Bool,v4= .bool b6/\
 vif b6
 (AC Tryz.prog 320 [.ptr p1] h5 λv7 h8=>∃n9:Int,v7= .int .i64 n9/\
 Q (.int .i64 n9) h8)
 (vif (!b3)
 (AC Tryz.prog 320 [.ptr p1] h5 λv10 h11=>∃n12:Int,v10= .int .i64 n12/\
 Q (.int .i64 n12) h11)
 (Q (.int .i64 n2) h5))
theorem ac318 {p1:OPa}{n2:Int}{b3:Bool}{h:Heap}{Q:AHp}(hk:vc318 p1 n2 b3 h Q):AC Tryz.prog 318 [.ptr p1,.int .i64 n2,.bool b3] h Q:=
 zK (H:=zE [] []) (by kernel_rfl) (by kernel_rfl) hk
def vc319(n1:Int)(h:Heap)(Q:AHp):Prop:=
 vif (decide (n1<0))
 (Q (.int .i64 0) h)
 (vif (decide (n1<240))
 (Q (.int .i64 1) h)
 (vif (decide (n1<2288))
 (Q (.int .i64 2) h)
 (AC Tryz.prog 356 [.int .i64 n1] h λv2 h3=>∃n4:Int,v2= .int .i64 n4/\
 Q (.int .i64 (zC .i64 (1+n4))) h3)))
theorem ac319 {n1:Int}{h:Heap}{Q:AHp}(hk:vc319 n1 h Q):AC Tryz.prog 319 [.int .i64 n1] h Q:=
 zK (H:=zE [] []) (by kernel_rfl) (by kernel_rfl) hk
def vc320(p1:OPa)(h:Heap)(Q:AHp):Prop:=
 vif (!(p1.isNone))
 (vPtr p1 λp2=>
 zL h ⟨p2.b,p2.o+1⟩ [.bool true] λh3=>
 Q (.int .i64 0) h3)
 (Q (.int .i64 0) h)
theorem ac320 {p1:OPa}{h:Heap}{Q:AHp}(hk:vc320 p1 h Q):AC Tryz.prog 320 [.ptr p1] h Q:=
 zK (H:=zE [] []) (by kernel_rfl) (by kernel_rfl) hk
def vc315(p1:OPa)(h:Heap)(Q:AHp):Prop:=
 vif (p1.isNone)
 (Q (.bool true) h)
 (vPtr p1 λp2=>
 ∃b3:Bool,zA h ⟨p2.b,p2.o+1⟩ 1=some [.bool b3]/\
 Q (.bool b3) h)
theorem ac315 {p1:OPa}{h:Heap}{Q:AHp}(hk:vc315 p1 h Q):AC Tryz.prog 315 [.ptr p1] h Q:=
 zK (H:=zE [] []) (by kernel_rfl) (by kernel_rfl) hk
def vc259(n1:Int)(n2:Int)(h:Heap)(Q:AHp):Prop:=
 AC Tryz.prog 325 [.int .i64 n1] h λv3 h4=>∃b5:Bool,v3= .bool b5/\
 AC Tryz.prog 325 [.int .i64 n2] h4 λv6 h7=>∃b8:Bool,v6= .bool b8/\
 vif b5
 (vif b8
 (Q (.int .i64 0) h7)
 (Q (.int .i64 (-1)) h7))
 (vif b8
 (Q (.int .i64 1) h7)
 (vif (decide (n1<n2))
 (Q (.int .i64 (-1)) h7)
 (vif (decide (n1>n2))
 (Q (.int .i64 1) h7)
 (Q (.int .i64 0) h7))))
theorem ac259 {n1:Int}{n2:Int}{h:Heap}{Q:AHp}(hk:vc259 n1 n2 h Q):AC Tryz.prog 259 [.int .i64 n1,.int .i64 n2] h Q:=
 zK (H:=zE [] []) (by kernel_rfl) (by kernel_rfl) hk
def vc215(q1:OSl)(h:Heap)(Q:AHp):Prop:=
 ∃(I3:LHp) (m4:LHn),I3 [.int .i64 0] h/\
 ∀n2:Int,∀h5:Heap,I3 [.int .i64 n2] h5->
 vif (decide (n2<(zJ q1:Int)))
 (vIdx q1 n2 4 λp6=>
 ∃n7 n8:Int,∃n9 n10:Int,zA h5 p6 4=some [.int .i64 n7,.int .i64 n8,.int .i64 n9,.int .i64 n10]/\
 AC Tryz.prog 69 [.agg [.int .i64 n7,.int .i64 n8,.int .i64 n9,.int .i64 n10]] h5 λv11 h12=>∃n13:Int,v11= .int .i64 n13/\
 vif (n13 !=0)
 (Q (.int .i64 n13) h12)
 ((True)/\I3 [.int .i64 (zC .i64 (n2+1))] h12/\m4 [.int .i64 (zC .i64 (n2+1))] h12<m4 [.int .i64 n2] h5))
 (vif (decide ((zJ q1:Int)>16384))
 (Q (.int .i64 3) h5)
 (Q (.int .i64 0) h5))
theorem ac215 {q1:OSl}{h:Heap}{Q:AHp}(hk:vc215 q1 h Q):AC Tryz.prog 215 [.sl q1] h Q:=
 zK (H:=zE [4] [(0,[8],[])]) (by kernel_rfl) (by kernel_rfl) hk
def vc293(n1:Int)(n2:Int)(n3:Int)(n4:Int)(h:Heap)(Q:AHp):Prop:=
 AC Tryz.prog 351 [.agg [.int .i64 n1,.int .i64 n2]] h λv5 h6=>∃q7:OSl,∃n8:Int,v5= .tup [.sl q7,.int .i64 n8]/\
 AC Tryz.prog 352 [.agg [.int .i64 n3,.int .i64 n4]] h6 λv9 h10=>∃q11:OSl,∃n12:Int,v9= .tup [.sl q11,.int .i64 n12]/\
 PNew [.sl q7,.sl q11] true h10 λa13 h14=>
 AC Tryz.prog 299 [.sl (some ⟨a13,0,2,2,0⟩)] h14 λv15 h16=>∃q17:OSl,v15= .sl q17/\
 Q (.sl q17) h16
theorem ac293 {n1:Int}{n2:Int}{n3:Int}{n4:Int}{h:Heap}{Q:AHp}(hk:vc293 n1 n2 n3 n4 h Q):AC Tryz.prog 293 [.agg [.int .i64 n1,.int .i64 n2,.int .i64 n3,.int .i64 n4]] h Q:=
 zK (H:=zE [1] []) (by kernel_rfl) (by kernel_rfl) hk
def vc295(n1:Int)(h:Heap)(Q:AHp):Prop:=
 vif (decide (n1<0))
 (False)
 (vif (decide ((zC .i64 (n1-0))>0))
 (zW 1 none 0 (some 0) none λq2=>
 0<=(zC .i64 (n1-0))/\(zC .i64 (n1-0))<=maxI/\(zC .i64 (n1-0))*24<=140737488355328/\vZ 1 24 q2 (zC .i64 (n1-0)).toNat (List.replicate (zC .i64 (n1-0)).toNat [.sl none]).flatten h λq3 h4=>
 zW 1 q3 0 (some 0) none λq5=>
 Q (.sl q5) h4)
 (Q (.sl none) h))
theorem ac295 {n1:Int}{h:Heap}{Q:AHp}(hk:vc295 n1 h Q):AC Tryz.prog 295 [.sl none,.int .i64 n1] h Q:=
 zK (H:=zE [] []) (by kernel_rfl) (by kernel_rfl) hk
def vc296(n1:Int)(h:Heap)(Q:AHp):Prop:=
 vif (decide (n1<0))
 (Q (.tup [.sl none,.int .i64 1]) h)
 (vif (decide (n1<240))
 (PNew [.int .u8 (zC .u8 n1)] true h λa2 h3=>
 Q (.tup [.sl (some ⟨a2,0,1,1,0⟩),.int .i64 0]) h3)
 (vif (decide (n1<2288))
 (PNew [.int .u8 (zC .u8 (zC .i64 (240+(shrK .i64 (zC .i64 (n1-240)) 8)))),.int .u8 (zC .u8 (zC .i64 (n1-240)))] true h λa4 h5=>
 Q (.tup [.sl (some ⟨a4,0,2,2,0⟩),.int .i64 0]) h5)
 (AC Tryz.prog 356 [.int .i64 n1] h λv6 h7=>∃n8:Int,v6= .int .i64 n8/\
 PNew [.int .u8 (zC .u8 (zC .i64 (246+n8)))] true h7 λa9 h10=>
 AC Tryz.prog 357 [.int .i64 n1,.int .i64 n8] h10 λv11 h12=>∃q13:OSl,v11= .sl q13/\
 zM 1 1 (some ⟨a9,0,1,1,0⟩) q13 h12 λq14 h15=>
 Q (.tup [.sl q14,.int .i64 0]) h15)))
theorem ac296 {n1:Int}{h:Heap}{Q:AHp}(hk:vc296 n1 h Q):AC Tryz.prog 296 [.int .i64 n1] h Q:=
 zK (H:=zE [] []) (by kernel_rfl) (by kernel_rfl) hk
def vc297(n1:Int)(h:Heap)(Q:AHp):Prop:=
 vif (decide (n1≥1))
 (Q (.bool (decide (n1<=4611686018427387903))) h)
 (Q (.bool false) h)
theorem ac297 {n1:Int}{h:Heap}{Q:AHp}(hk:vc297 n1 h Q):AC Tryz.prog 297 [.int .i64 n1] h Q:=
 zK (H:=zE [] []) (by kernel_rfl) (by kernel_rfl) hk
def vc298(n1:Int)(n2:Int)(h:Heap)(Q:AHp):Prop:=
 vif (decide (n1<0))
 (Q (.tup [.sl none,.int .i64 1]) h)
 (vif (decide (n2<1))
 (Q (.tup [.sl none,.int .i64 1]) h)
 (vif (decide (n2>8))
 (Q (.tup [.sl none,.int .i64 1]) h)
 (AC Tryz.prog 356 [.int .i64 n1] h λv3 h4=>∃n5:Int,v3= .int .i64 n5/\
 vif (decide (n5>n2))
 (Q (.tup [.sl none,.int .i64 1]) h4)
 (AC Tryz.prog 357 [.int .i64 n1,.int .i64 n2] h4 λv6 h7=>∃q8:OSl,v6= .sl q8/\
 Q (.tup [.sl q8,.int .i64 0]) h7))))
theorem ac298 {n1:Int}{n2:Int}{h:Heap}{Q:AHp}(hk:vc298 n1 n2 h Q):AC Tryz.prog 298 [.int .i64 n1,.int .i64 n2] h Q:=
 zK (H:=zE [] []) (by kernel_rfl) (by kernel_rfl) hk
def vc299(q1:OSl)(h:Heap)(Q:AHp):Prop:=
 ∃(I4:LHp) (m5:LHn),I4 [.int .i64 0,.int .i64 0] h/\
 ∀n2 n3:Int,∀h6:Heap,I4 [.int .i64 n2,.int .i64 n3] h6->
 vif (decide (n3<(zJ q1:Int)))
 (vIdx q1 n3 1 λp7=>
 ∃q8:OSl,zA h6 p7 1=some [.sl q8]/\
 vif (decide ((zC .i64 (n2+(zJ q8:Int)))<0))
 (False)
 ((True)/\I4 [.int .i64 (zC .i64 (n2+(zJ q8:Int))),.int .i64 (zC .i64 (n3+1))] h6/\m5 [.int .i64 (zC .i64 (n2+(zJ q8:Int))),.int .i64 (zC .i64 (n3+1))] h6<m5 [.int .i64 n2,.int .i64 n3] h6))
 (AC Tryz.prog 358 [.sl none,.int .i64 n2] h6 λv9 h10=>∃q11:OSl,v9= .sl q11/\
 ∃(I14:LHp) (m15:LHn),I14 [.sl q11,.int .i64 0] h10/\
 ∀q12:OSl,∀n13:Int,∀h16:Heap,I14 [.sl q12,.int .i64 n13] h16->
 vif (decide (n13<(zJ q1:Int)))
 (vIdx q1 n13 1 λp17=>
 ∃q18:OSl,zA h16 p17 1=some [.sl q18]/\
 zM 1 1 q12 q18 h16 λq19 h20=>
 (True)/\I14 [.sl q19,.int .i64 (zC .i64 (n13+1))] h20/\m15 [.sl q19,.int .i64 (zC .i64 (n13+1))] h20<m15 [.sl q12,.int .i64 n13] h16)
 (Q (.sl q12) h16))
theorem ac299 {q1:OSl}{h:Heap}{Q:AHp}(hk:vc299 q1 h Q):AC Tryz.prog 299 [.sl q1] h Q:=
 zK (H:=zE [] [(0,[3,11],[]),(2,[6,27],[])]) (by kernel_rfl) (by kernel_rfl) hk
def vc300(q1:OSl)(h:Heap)(Q:AHp):Prop:=
 AC Tryz.prog 360 [.sl q1] h λv2 h3=>∃n4:Int,v2= .int .u32 n4/\
 AC Tryz.prog 359 [.int .u32 n4] h3 λv5 h6=>∃q7:OSl,v5= .sl q7/\
 PNew [.sl q1,.sl q7] true h6 λa8 h9=>
 AC Tryz.prog 299 [.sl (some ⟨a8,0,2,2,0⟩)] h9 λv10 h11=>∃q12:OSl,v10= .sl q12/\
 Q (.sl q12) h11
theorem ac300 {q1:OSl}{h:Heap}{Q:AHp}(hk:vc300 q1 h Q):AC Tryz.prog 300 [.sl q1] h Q:=
 zK (H:=zE [] []) (by kernel_rfl) (by kernel_rfl) hk
def vc395(q1:OSl)(h:Heap)(Q:AHp):Prop:=
 vif ((zJ q1:Int)!=64)
 (Q (.tup [.int .i64 0,.bool false]) h)
 (zW 1 q1 0 (some 8) none λq2=>
 zW 1 q1 56 none none λq3=>
 AC Tryz.prog 161 [.sl q2,.sl q3] h λv4 h5=>∃b6:Bool,v4= .bool b6/\
 vif (!b6)
 (Q (.tup [.int .i64 0,.bool false]) h5)
 (zW 1 q1 0 (some 8) none λq7=>
 AC Tryz.prog 247 [.sl q7] h5 λv8 h9=>∃p10:OPa,v8= .ptr p10/\
 AC Tryz.prog 317 [.ptr p10,.int .i64 8] h9 λv11 h12=>∃n13:Int,v11= .int .i64 n13/\
 AC Tryz.prog 297 [.int .i64 n13] h12 λv14 h15=>∃b16:Bool,v14= .bool b16/\
 vif (!b16)
 (Q (.tup [.int .i64 0,.bool false]) h15)
 (Q (.tup [.int .i64 n13,.bool true]) h15)))
theorem ac395 {q1:OSl}{h:Heap}{Q:AHp}(hk:vc395 q1 h Q):AC Tryz.prog 395 [.sl q1] h Q:=
 zK (H:=zE [] []) (by kernel_rfl) (by kernel_rfl) hk
def vc128(n1:Int)(n2:Int)(h:Heap)(Q:AHp):Prop:=
 AC Tryz.prog 192 [.int .i64 n1] h λv3 h4=>∃b5:Bool,v3= .bool b5/\
 vif (!b5)
 (Q (.int .i64 30) h4)
 (AC Tryz.prog 192 [.int .i64 n2] h4 λv6 h7=>∃b8:Bool,v6= .bool b8/\
 vif (!b8)
 (Q (.int .i64 30) h7)
 (Q (.int .i64 0) h7))
theorem ac128 {n1:Int}{n2:Int}{h:Heap}{Q:AHp}(hk:vc128 n1 n2 h Q):AC Tryz.prog 128 [.agg [.int .i64 n1,.int .i64 n2]] h Q:=
 zK (H:=zE [1] []) (by kernel_rfl) (by kernel_rfl) hk
def vc366(p1:OPa)(n2:Int)(h:Heap)(Q:AHp):Prop:=
 AC Tryz.prog 315 [.ptr p1] h λv3 h4=>∃b5:Bool,v3= .bool b5/\
 vif b5
 (AC Tryz.prog 320 [.ptr p1] h4 λv6 h7=>∃n8:Int,v6= .int .i64 n8/\
 Q (.sl none) h7)
 (vif (decide (n2<0))
 (AC Tryz.prog 320 [.ptr p1] h4 λv9 h10=>∃n11:Int,v9= .int .i64 n11/\
 Q (.sl none) h10)
 (vPtr p1 λp12=>
 ∃q13:OSl,zA h4 ⟨p12.b,p12.o+0⟩ 1=some [.sl q13]/\
 vif (decide (n2>(zJ q13:Int)))
 (AC Tryz.prog 320 [.ptr p1] h4 λv14 h15=>∃n16:Int,v14= .int .i64 n16/\
 Q (.sl none) h15)
 (vPtr p1 λp17=>
 ∃q18:OSl,zA h4 ⟨p17.b,p17.o+0⟩ 1=some [.sl q18]/\
 zW 1 q18 0 (some n2) none λq19=>
 AC Tryz.prog 235 [.sl q19] h4 λv20 h21=>∃q22:OSl,v20= .sl q22/\
 vPtr p1 λp23=>
 ∃q24:OSl,zA h21 ⟨p23.b,p23.o+0⟩ 1=some [.sl q24]/\
 zW 1 q24 n2 none none λq25=>
 vPtr p1 λp26=>
 zL h21 ⟨p26.b,p26.o+0⟩ [.sl q25] λh27=>
 Q (.sl q22) h27)))
theorem ac366 {p1:OPa}{n2:Int}{h:Heap}{Q:AHp}(hk:vc366 p1 n2 h Q):AC Tryz.prog 366 [.ptr p1,.int .i64 n2] h Q:=
 zK (H:=zE [] []) (by kernel_rfl) (by kernel_rfl) hk
def vc356(n1:Int)(h:Heap)(Q:AHp):Prop:=
 ∃(I4:LHp) (m5:LHn),I4 [.int .i64 (shrK .i64 n1 8),.int .i64 1] h/\
 ∀n2 n3:Int,∀h6:Heap,I4 [.int .i64 n2,.int .i64 n3] h6->
 vif (decide (n2>0))
 ((True)/\I4 [.int .i64 (shrK .i64 n2 8),.int .i64 (zC .i64 (n3+1))] h6/\m5 [.int .i64 (shrK .i64 n2 8),.int .i64 (zC .i64 (n3+1))] h6<m5 [.int .i64 n2,.int .i64 n3] h6)
 (Q (.int .i64 n3) h6)
theorem ac356 {n1:Int}{h:Heap}{Q:AHp}(hk:vc356 n1 h Q):AC Tryz.prog 356 [.int .i64 n1] h Q:=
 zK (H:=zE [] [(0,[0,3],[])]) (by kernel_rfl) (by kernel_rfl) hk
def vc325(n1:Int)(h:Heap)(Q:AHp):Prop:=
 Q (.bool (n1 !=n1)) h
theorem ac325 {n1:Int}{h:Heap}{Q:AHp}(hk:vc325 n1 h Q):AC Tryz.prog 325 [.int .i64 n1] h Q:=
 zK (H:=zE [] []) (by kernel_rfl) (by kernel_rfl) hk
def vc69(n1:Int)(n2:Int)(n3:Int)(n4:Int)(h:Heap)(Q:AHp):Prop:=
 AC Tryz.prog 127 [.agg [.int .i64 n1,.int .i64 n2]] h λv5 h6=>∃n7:Int,v5= .int .i64 n7/\
 vif (n7 !=0)
 (Q (.int .i64 n7) h6)
 (AC Tryz.prog 128 [.agg [.int .i64 n3,.int .i64 n4]] h6 λv8 h9=>∃n10:Int,v8= .int .i64 n10/\
 Q (.int .i64 n10) h9)
theorem ac69 {n1:Int}{n2:Int}{n3:Int}{n4:Int}{h:Heap}{Q:AHp}(hk:vc69 n1 n2 n3 n4 h Q):AC Tryz.prog 69 [.agg [.int .i64 n1,.int .i64 n2,.int .i64 n3,.int .i64 n4]] h Q:=
 zK (H:=zE [1] []) (by kernel_rfl) (by kernel_rfl) hk
def vc351(n1:Int)(n2:Int)(h:Heap)(Q:AHp):Prop:=
 AC Tryz.prog 127 [.agg [.int .i64 n1,.int .i64 n2]] h λv3 h4=>∃n5:Int,v3= .int .i64 n5/\
 vif (n5 !=0)
 (Q (.tup [.sl none,.int .i64 n5]) h4)
 (AC Tryz.prog 296 [.int .i64 n1] h4 λv6 h7=>∃q8:OSl,∃n9:Int,v6= .tup [.sl q8,.int .i64 n9]/\
 AC Tryz.prog 296 [.int .i64 n2] h7 λv10 h11=>∃q12:OSl,∃n13:Int,v10= .tup [.sl q12,.int .i64 n13]/\
 PNew [.sl q8,.sl q12] true h11 λa14 h15=>
 AC Tryz.prog 299 [.sl (some ⟨a14,0,2,2,0⟩)] h15 λv16 h17=>∃q18:OSl,v16= .sl q18/\
 Q (.tup [.sl q18,.int .i64 0]) h17)
theorem ac351 {n1:Int}{n2:Int}{h:Heap}{Q:AHp}(hk:vc351 n1 n2 h Q):AC Tryz.prog 351 [.agg [.int .i64 n1,.int .i64 n2]] h Q:=
 zK (H:=zE [1] []) (by kernel_rfl) (by kernel_rfl) hk
def vc352(n1:Int)(n2:Int)(h:Heap)(Q:AHp):Prop:=
 AC Tryz.prog 128 [.agg [.int .i64 n1,.int .i64 n2]] h λv3 h4=>∃n5:Int,v3= .int .i64 n5/\
 vif (n5 !=0)
 (Q (.tup [.sl none,.int .i64 n5]) h4)
 (AC Tryz.prog 296 [.int .i64 n1] h4 λv6 h7=>∃q8:OSl,∃n9:Int,v6= .tup [.sl q8,.int .i64 n9]/\
 AC Tryz.prog 296 [.int .i64 n2] h7 λv10 h11=>∃q12:OSl,∃n13:Int,v10= .tup [.sl q12,.int .i64 n13]/\
 PNew [.sl q8,.sl q12] true h11 λa14 h15=>
 AC Tryz.prog 299 [.sl (some ⟨a14,0,2,2,0⟩)] h15 λv16 h17=>∃q18:OSl,v16= .sl q18/\
 Q (.tup [.sl q18,.int .i64 0]) h17)
theorem ac352 {n1:Int}{n2:Int}{h:Heap}{Q:AHp}(hk:vc352 n1 n2 h Q):AC Tryz.prog 352 [.agg [.int .i64 n1,.int .i64 n2]] h Q:=
 zK (H:=zE [1] []) (by kernel_rfl) (by kernel_rfl) hk
def vc357(n1:Int)(n2:Int)(h:Heap)(Q:AHp):Prop:=
 zML [.int .u8 0] 1 n2 n2 h λq3 h4=>
 ∃(I6:LHp) (m7:LHn),I6 [.int .i64 0] h4/\
 ∀n5:Int,∀h8:Heap,I6 [.int .i64 n5] h8->
 vif (decide (n5<(zJ q3:Int)))
 (need (decide (0<=(zC .i64 (8*(zC .i64 ((zC .i64 (n2-1)) - n5))))))
 (vIdx q3 n5 1 λp9=>
 zL h8 p9 [.int .u8 (zC .u8 (shrK .i64 n1 (zC .i64 (8*(zC .i64 ((zC .i64 (n2-1)) - n5))))))] λh10=>
 (True)/\I6 [.int .i64 (zC .i64 (n5+1))] h10/\m7 [.int .i64 (zC .i64 (n5+1))] h10<m7 [.int .i64 n5] h8))
 (Q (.sl q3) h8)
theorem ac357 {n1:Int}{n2:Int}{h:Heap}{Q:AHp}(hk:vc357 n1 n2 h Q):AC Tryz.prog 357 [.int .i64 n1,.int .i64 n2] h Q:=
 zK (H:=zE [] [(0,[11],[])]) (by kernel_rfl) (by kernel_rfl) hk
def vc358(n1:Int)(h:Heap)(Q:AHp):Prop:=
 vif (decide (n1<0))
 (False)
 (vif (decide ((zC .i64 (n1-0))>0))
 (zW 1 none 0 (some 0) none λq2=>
 0<=(zC .i64 (n1-0))/\(zC .i64 (n1-0))<=maxI/\(zC .i64 (n1-0))*1<=140737488355328/\vZ 1 1 q2 (zC .i64 (n1-0)).toNat (List.replicate (zC .i64 (n1-0)).toNat [.int .u8 0]).flatten h λq3 h4=>
 zW 1 q3 0 (some 0) none λq5=>
 Q (.sl q5) h4)
 (Q (.sl none) h))
theorem ac358 {n1:Int}{h:Heap}{Q:AHp}(hk:vc358 n1 h Q):AC Tryz.prog 358 [.sl none,.int .i64 n1] h Q:=
 zK (H:=zE [] []) (by kernel_rfl) (by kernel_rfl) hk
def vc359(n1:Int)(h:Heap)(Q:AHp):Prop:=
 PNew [.int .u8 (zC .u8 n1),.int .u8 (zC .u8 (shrK .u32 n1 8)),.int .u8 (zC .u8 (shrK .u32 n1 16)),.int .u8 (zC .u8 (shrK .u32 n1 24))] true h λa2 h3=>
 Q (.sl (some ⟨a2,0,4,4,0⟩)) h3
theorem ac359 {n1:Int}{h:Heap}{Q:AHp}(hk:vc359 n1 h Q):AC Tryz.prog 359 [.int .u32 n1] h Q:=
 zK (H:=zE [] []) (by kernel_rfl) (by kernel_rfl) hk
def vc360(q1:OSl)(h:Heap)(Q:AHp):Prop:=
 AC Tryz.prog 396 [.int .u32 0,.sl q1] h λv2 h3=>∃n4:Int,v2= .int .u32 n4/\
 Q (.int .u32 n4) h3
theorem ac360 {q1:OSl}{h:Heap}{Q:AHp}(hk:vc360 q1 h Q):AC Tryz.prog 360 [.sl q1] h Q:=
 zK (H:=zE [] []) (by kernel_rfl) (by kernel_rfl) hk
def vc192(n1:Int)(h:Heap)(Q:AHp):Prop:=
 vif (decide (n1≥0))
 (Q (.bool (decide (n1<=1048575))) h)
 (Q (.bool false) h)
theorem ac192 {n1:Int}{h:Heap}{Q:AHp}(hk:vc192 n1 h Q):AC Tryz.prog 192 [.int .i64 n1] h Q:=
 zK (H:=zE [] []) (by kernel_rfl) (by kernel_rfl) hk
def vc396(n1:Int)(q2:OSl)(h:Heap)(Q:AHp):Prop:=
 ∃(I5:LHp) (m6:LHn),I5 [.int .u32 (yU .u32 4294967295 n1),.int .i64 0] h/\
 ∀n3 n4:Int,∀h7:Heap,I5 [.int .u32 n3,.int .i64 n4] h7->
 vif (decide (n4<(zJ q2:Int)))
 (vIdx q2 n4 1 λp8=>
 ∃n9:Int,zA h7 p8 1=some [.int .u8 n9]/\
 need (decide (0<=(kY .u32 (yU .u32 n3 (zC .u32 n9)) 15))&&decide ((kY .u32 (yU .u32 n3 (zC .u32 n9)) 15)<16))
 (∃a10 j11:Nat,h7[a10]?=some (.gm 1 j11)/\
 ∃n12:Int,zA h7 ⟨j11,(kY .u32 (yU .u32 n3 (zC .u32 n9)) 15).toNat*1⟩ 1=some [.int .u32 n12]/\
 need (decide (0<=(kY .u32 (yU .u32 n12 (shrK .u32 (yU .u32 n3 (zC .u32 n9)) 4)) 15))&&decide ((kY .u32 (yU .u32 n12 (shrK .u32 (yU .u32 n3 (zC .u32 n9)) 4)) 15)<16))
 (∃a13 j14:Nat,h7[a13]?=some (.gm 1 j14)/\
 ∃n15:Int,zA h7 ⟨j14,(kY .u32 (yU .u32 n12 (shrK .u32 (yU .u32 n3 (zC .u32 n9)) 4)) 15).toNat*1⟩ 1=some [.int .u32 n15]/\
 (True)/\I5 [.int .u32 (yU .u32 n15 (shrK .u32 (yU .u32 n12 (shrK .u32 (yU .u32 n3 (zC .u32 n9)) 4)) 4)),.int .i64 (zC .i64 (n4+1))] h7/\m6 [.int .u32 (yU .u32 n15 (shrK .u32 (yU .u32 n12 (shrK .u32 (yU .u32 n3 (zC .u32 n9)) 4)) 4)),.int .i64 (zC .i64 (n4+1))] h7<m6 [.int .u32 n3,.int .i64 n4] h7)))
 (Q (.int .u32 (yU .u32 4294967295 n3)) h7)
theorem ac396 {n1:Int}{q2:OSl}{h:Heap}{Q:AHp}(hk:vc396 n1 q2 h Q):AC Tryz.prog 396 [.int .u32 n1,.sl q2] h Q:=
 zK (H:=zE [] [(0,[5,12],[])]) (by kernel_rfl) (by kernel_rfl) hk
def vc127(n1:Int)(n2:Int)(h:Heap)(Q:AHp):Prop:=
 vif (decide (n1<0))
 (Q (.int .i64 40) h)
 (vif (decide (n1≥65536))
 (Q (.int .i64 40) h)
 (vif (decide (n2<0))
 (Q (.int .i64 40) h)
 (vif (decide (n2≥65536))
 (Q (.int .i64 40) h)
 (Q (.int .i64 0) h))))
theorem ac127 {n1:Int}{n2:Int}{h:Heap}{Q:AHp}(hk:vc127 n1 n2 h Q):AC Tryz.prog 127 [.agg [.int .i64 n1,.int .i64 n2]] h Q:=
 zK (H:=zE [1] []) (by kernel_rfl) (by kernel_rfl) hk
def vc206b(n1:Int)(p2:PA)(p3:PA)(h:Heap)(Q:AHp):Prop:=
 ∃(I6:LHp) (m7:LHn),I6 [.int .i64 0,.int .i64 n1] h/\
 ∀n4 n5:Int,∀h8:Heap,I6 [.int .i64 n4,.int .i64 n5] h8->
 vif (decide (n4<n5))
 (AC Tryz.prog 280 [.int .i64 (zC .i64 (shrK .u64 (zC .u64 (zC .i64 (n4+n5))) 1)),.ptr (some p2),.ptr (some p3)] h8 λv9 h10=>∃b11:Bool,v9= .bool b11/\
 vif (!b11)
 ((True)/\I6 [.int .i64 (zC .i64 ((zC .i64 (shrK .u64 (zC .u64 (zC .i64 (n4+n5))) 1))+1)),.int .i64 n5] h10/\m7 [.int .i64 (zC .i64 ((zC .i64 (shrK .u64 (zC .u64 (zC .i64 (n4+n5))) 1))+1)),.int .i64 n5] h10<m7 [.int .i64 n4,.int .i64 n5] h8)
 ((True)/\I6 [.int .i64 n4,.int .i64 (zC .i64 (shrK .u64 (zC .u64 (zC .i64 (n4+n5))) 1))] h10/\m7 [.int .i64 n4,.int .i64 (zC .i64 (shrK .u64 (zC .u64 (zC .i64 (n4+n5))) 1))] h10<m7 [.int .i64 n4,.int .i64 n5] h8))
 (Q (.int .i64 n4) h8)
theorem ac206b {n1:Int}{p2:PA}{p3:PA}{h:Heap}{Q:AHp}(hk:vc206b n1 p2 p3 h Q):AC Tryz.prog 206 [.int .i64 n1,.func (.func 280) [] [.ptr (some p2),.ptr (some p3)]] h Q:=
 zK (H:=zE [] [(0,[5,6],[])]) (by kernel_rfl) (by kernel_rfl) hk
def vc62(p1:OPa)(h:Heap)(Q:AHp):Prop:=
 AC Tryz.prog 102 [.ptr p1] h λv2 h3=>∃b4:Bool,v2= .bool b4/\
 vif (!b4)
 (Q (.sl none) h3)
 (vPtr p1 λp5=>
 ∃m6:Option Nat,zA h3 ⟨p5.b,p5.o+0⟩ 1=some [.map m6]/\
 AC Tryz.prog 125 [.map m6] h3 λv7 h8=>∃v9:AV,v9.one=true/\v7=v9/\
 AC Tryz.prog 124 [v9] h8 λv10 h11=>∃q12:OSl,v10= .sl q12/\
 ∃(I15:LHp) (m16:LHn),I15 [.sl none,.int .i64 0] h11/\
 ∀q13:OSl,∀n14:Int,∀h17:Heap,I15 [.sl q13,.int .i64 n14] h17->
 vif (decide (n14<(zJ q12:Int)))
 (vIdx q12 n14 1 λp18=>
 ∃s19:List UInt8,zA h17 p18 1=some [.str s19]/\
 vPtr p1 λp20=>
 ∃m21:Option Nat,zA h17 ⟨p20.b,p20.o+0⟩ 1=some [.map m21]/\
 xO Tryz.prog 9 166 m21 (.str s19) false h17 λv22=>
 ∃p23:OPa,v22= .ptr p23/\
 vPtr p23 λp24=>
 ∃q25:OSl,zA h17 ⟨p24.b,p24.o+1⟩ 1=some [.sl q25]/\
 PNew [.str s19,.int .i64 (zJ q25:Int)] true h17 λa26 h27=>
 zM 2 24 q13 (some ⟨a26,0,1,1,0⟩) h27 λq28 h29=>
 (True)/\I15 [.sl q28,.int .i64 (zC .i64 (n14+1))] h29/\m16 [.sl q28,.int .i64 (zC .i64 (n14+1))] h29<m16 [.sl q13,.int .i64 n14] h17)
 (Q (.sl q13) h17))
theorem ac62 {p1:OPa}{h:Heap}{Q:AHp}(hk:vc62 p1 h Q):AC Tryz.prog 62 [.ptr p1] h Q:=
 zK (H:=zE [] [(0,[3,16],[])]) (by kernel_rfl) (by kernel_rfl) hk
def vc218(p1:OPa)(p2:OPa)(h:Heap)(Q:AHp):Prop:=
 PNew [.ptr p2] true h λa3 h4=>
 vPtr p1 λp5=>
 ∃q6:OSl,zA h4 ⟨p5.b,p5.o+1⟩ 1=some [.sl q6]/\
 AC Tryz.prog 284 [.sl q6,.func (.func 285) [] [.ptr (some ⟨a3,0⟩)]] h4 λv7 h8=>∃q9:OSl,v7= .sl q9/\
 vPtr p1 λp10=>
 zL h8 ⟨p10.b,p10.o+1⟩ [.sl q9] λh11=>
 Q (.tup []) h11
theorem ac218 {p1:OPa}{p2:OPa}{h:Heap}{Q:AHp}(hk:vc218 p1 p2 h Q):AC Tryz.prog 218 [.ptr p1,.ptr p2] h Q:=
 zK (H:=zE [] []) (by kernel_rfl) (by kernel_rfl) hk
def vc284(q1:OSl)(p2:OPa)(h:Heap)(Q:AHp):Prop:=
 AC Tryz.prog 348 [.sl q1,.func (.func 285) [] [.ptr p2]] h λv3 h4=>∃n5:Int,v3= .int .i64 n5/\
 vif (n5==(-1))
 (Q (.sl q1) h4)
 (∃(I8:LHp) (m9:LHn),I8 [.int .i64 n5,.int .i64 (zC .i64 (n5+1))] h4/\
 ∀n6 n7:Int,∀h10:Heap,I8 [.int .i64 n6,.int .i64 n7] h10->
 vif (decide (n7<(zJ q1:Int)))
 (vIdx q1 n7 66 λp11=>
 ∃p12:OPa,∃n13:Int,exC .u8 64 λl14=>
 zA h10 p11 66=some ([.ptr p12,.int .i64 n13]++(l14))/\
 AC Tryz.prog 285 [.agg ([.ptr p12,.int .i64 n13]++(l14)),.ptr p2] h10 λv15 h16=>∃b17:Bool,v15= .bool b17/\
 vif (!b17)
 (vIdx q1 n6 66 λp18=>
 zL h16 p18 ([.ptr p12,.int .i64 n13]++(l14)) λh19=>
 (True)/\I8 [.int .i64 (zC .i64 (n6+1)),.int .i64 (zC .i64 (n7+1))] h19/\m9 [.int .i64 (zC .i64 (n6+1)),.int .i64 (zC .i64 (n7+1))] h19<m9 [.int .i64 n6,.int .i64 n7] h10)
 ((True)/\I8 [.int .i64 n6,.int .i64 (zC .i64 (n7+1))] h16/\m9 [.int .i64 n6,.int .i64 (zC .i64 (n7+1))] h16<m9 [.int .i64 n6,.int .i64 n7] h10))
 (zW 66 q1 n6 none none λq20=>
 zGI ([.ptr none,.int .i64 0]++((List.replicate 64 (AV.int .u8 0)))) q20 h10 λh21=>
 zW 66 q1 0 (some n6) none λq22=>
 Q (.sl q22) h21))
theorem ac284 {q1:OSl}{p2:OPa}{h:Heap}{Q:AHp}(hk:vc284 q1 p2 h Q):AC Tryz.prog 284 [.sl q1,.func (.func 285) [] [.ptr p2]] h Q:=
 zK (H:=zE [7] [(0,[5,6],[])]) (by kernel_rfl) (by kernel_rfl) hk
def vc285(p1:OPa)(n2:Int)(l3:Nat->Int)(p4:OPa)(h:Heap)(Q:AHp):Prop:=
 vPtr p4 λp5=>
 ∃p6:OPa,zA h p5 1=some [.ptr p6]/\
 aEq Tryz.prog 166 h (.ptr p1) (.ptr p6) λb7=>
 Q (.bool b7) h
theorem ac285 {p1:OPa}{n2:Int}{l3:Nat->Int}{p4:OPa}{h:Heap}{Q:AHp}(hk:vc285 p1 n2 l3 p4 h Q):AC Tryz.prog 285 [.agg ([.ptr p1,.int .i64 n2]++((cel .u8 64 l3))),.ptr p4] h Q:=
 zK (H:=zE [2] []) (by kernel_rfl) (by kernel_rfl) hk
def vc348(q1:OSl)(p2:OPa)(h:Heap)(Q:AHp):Prop:=
 ∃(I4:LHp) (m5:LHn),I4 [.int .i64 0] h/\
 ∀n3:Int,∀h6:Heap,I4 [.int .i64 n3] h6->
 vif (decide (n3<(zJ q1:Int)))
 (vIdx q1 n3 66 λp7=>
 ∃p8:OPa,∃n9:Int,exC .u8 64 λl10=>
 zA h6 p7 66=some ([.ptr p8,.int .i64 n9]++(l10))/\
 AC Tryz.prog 285 [.agg ([.ptr p8,.int .i64 n9]++(l10)),.ptr p2] h6 λv11 h12=>∃b13:Bool,v11= .bool b13/\
 vif b13
 (Q (.int .i64 n3) h12)
 ((True)/\I4 [.int .i64 (zC .i64 (n3+1))] h12/\m5 [.int .i64 (zC .i64 (n3+1))] h12<m5 [.int .i64 n3] h6))
 (Q (.int .i64 (-1)) h6)
theorem ac348 {q1:OSl}{p2:OPa}{h:Heap}{Q:AHp}(hk:vc348 q1 p2 h Q):AC Tryz.prog 348 [.sl q1,.func (.func 285) [] [.ptr p2]] h Q:=
 zK (H:=zE [] [(0,[8],[])]) (by kernel_rfl) (by kernel_rfl) hk
def vc64(n1:Int)(h:Heap)(Q:AHp):Prop:=
 vif (decide (n1<0))
 (Q (.tup [.ptr none,.int .i64 1]) h)
 (vif (decide (n1>1024))
 (Q (.tup [.ptr none,.int .i64 1]) h)
 (zML [.str [],.int .i64 0,.sl none,.int .i64 0,.bool false,.bool false] 64 n1 n1 h λq2 h3=>
 PNew [.sl q2,.map (some (List.length h3)),.int .i64 0,.int .i64 0,.int .i64 0,.int .i64 0] true (h3++[.mp [] 0]) λa4 h5=>
 Q (.tup [.ptr (some ⟨a4,0⟩),.int .i64 0]) h5))
theorem ac64 {n1:Int}{h:Heap}{Q:AHp}(hk:vc64 n1 h Q):AC Tryz.prog 64 [.int .i64 n1] h Q:=
 zK (H:=zE [] []) (by kernel_rfl) (by kernel_rfl) hk
def vc281(p1:OPa)(p2:OPa)(n3:Int)(h:Heap)(Q:AHp):Prop:=
 AC Tryz.prog 171 [.ptr p1] h λv4 h5=>∃b6:Bool,v4= .bool b6/\
 vif (!b6)
 (Q (.tup [.sl none,.int .i64 6]) h5)
 (AC Tryz.prog 141 [.ptr p2] h5 λv7 h8=>∃s9:List UInt8,v7= .str s9/\
 AC Tryz.prog 345 [.ptr p1,.str s9,.int .i64 n3] h8 λv10 h11=>∃p12:OPa,v10= .ptr p12/\
 vif (!(p12.isNone))
 (vif (!(p2.isNone))
 (AC Tryz.prog 346 [.ptr p1,.ptr p12] h11 λv13 h14=>∃q15:OSl,v13= .sl q15/\
 Q (.tup [.sl q15,.int .i64 0]) h14)
 (AC Tryz.prog 228 [.ptr p2,.int .i64 n3] h11 λv16 h17=>∃q18:OSl,∃n19:Int,v16= .tup [.sl q18,.int .i64 n19]/\
 vif (n19 !=0)
 (Q (.tup [.sl none,.int .i64 n19]) h17)
 (AC Tryz.prog 347 [.ptr p1] h17 λv20 h21=>∃n22:Int,∃b23:Bool,v20= .tup [.int .i64 n22,.bool b23]/\
 vif (!b23)
 (Q (.tup [.sl none,.int .i64 90]) h21)
 (AC Tryz.prog 141 [.ptr p2] h21 λv24 h25=>∃s26:List UInt8,v24= .str s26/\
 vPtr p1 λp27=>
 ∃q28:OSl,zA h25 ⟨p27.b,p27.o+0⟩ 1=some [.sl q28]/\
 vIdx q28 n22 6 λp29=>
 zL h25 p29 [.str s26,.int .i64 n3,.sl q18,.int .i64 1,.bool true,.bool true] λh30=>
 vPtr p1 λp31=>
 ∃m32:Option Nat,zA h30 ⟨p31.b,p31.o+1⟩ 1=some [.map m32]/\
 vMap m32 λa34=>vX Tryz.prog 180 a34 (.agg [.str s26,.int .i64 n3]) (.int .i64 n22) h30 λh33=>
 vPtr p1 λp35=>
 ∃n36:Int,zA h33 ⟨p35.b,(p35.o+3)+1⟩ 1=some [.int .i64 n36]/\
 vPtr p1 λp37=>
 zL h33 ⟨p37.b,(p37.o+3)+1⟩ [.int .i64 (zC .i64 (n36+1))] λh38=>
 AC Tryz.prog 131 [.sl q18] h38 λv39 h40=>∃q41:OSl,v39= .sl q41/\
 Q (.tup [.sl q41,.int .i64 0]) h40))))
 (AC Tryz.prog 228 [.ptr p2,.int .i64 n3] h11 λv42 h43=>∃q44:OSl,∃n45:Int,v42= .tup [.sl q44,.int .i64 n45]/\
 vif (n45 !=0)
 (Q (.tup [.sl none,.int .i64 n45]) h43)
 (AC Tryz.prog 347 [.ptr p1] h43 λv46 h47=>∃n48:Int,∃b49:Bool,v46= .tup [.int .i64 n48,.bool b49]/\
 vif (!b49)
 (Q (.tup [.sl none,.int .i64 90]) h47)
 (AC Tryz.prog 141 [.ptr p2] h47 λv50 h51=>∃s52:List UInt8,v50= .str s52/\
 vPtr p1 λp53=>
 ∃q54:OSl,zA h51 ⟨p53.b,p53.o+0⟩ 1=some [.sl q54]/\
 vIdx q54 n48 6 λp55=>
 zL h51 p55 [.str s52,.int .i64 n3,.sl q44,.int .i64 1,.bool true,.bool true] λh56=>
 vPtr p1 λp57=>
 ∃m58:Option Nat,zA h56 ⟨p57.b,p57.o+1⟩ 1=some [.map m58]/\
 vMap m58 λa60=>vX Tryz.prog 180 a60 (.agg [.str s52,.int .i64 n3]) (.int .i64 n48) h56 λh59=>
 vPtr p1 λp61=>
 ∃n62:Int,zA h59 ⟨p61.b,(p61.o+3)+1⟩ 1=some [.int .i64 n62]/\
 vPtr p1 λp63=>
 zL h59 ⟨p63.b,(p63.o+3)+1⟩ [.int .i64 (zC .i64 (n62+1))] λh64=>
 AC Tryz.prog 131 [.sl q44] h64 λv65 h66=>∃q67:OSl,v65= .sl q67/\
 Q (.tup [.sl q67,.int .i64 0]) h66))))
theorem ac281 {p1:OPa}{p2:OPa}{n3:Int}{h:Heap}{Q:AHp}(hk:vc281 p1 p2 n3 h Q):AC Tryz.prog 281 [.ptr p1,.ptr p2,.int .i64 n3] h Q:=
 zK (H:=zE [13] []) (by kernel_rfl) (by kernel_rfl) hk
def vc282(p1:OPa)(s2:List UInt8)(n3:Int)(h:Heap)(Q:AHp):Prop:=
 AC Tryz.prog 171 [.ptr p1] h λv4 h5=>∃b6:Bool,v4= .bool b6/\
 vif (!b6)
 (Q (.int .i64 6) h5)
 (AC Tryz.prog 345 [.ptr p1,.str s2,.int .i64 n3] h5 λv7 h8=>∃p9:OPa,v7= .ptr p9/\
 vif (p9.isNone)
 (Q (.int .i64 4) h8)
 (vPtr p9 λp10=>
 ∃n11:Int,zA h8 ⟨p10.b,p10.o+3⟩ 1=some [.int .i64 n11]/\
 vif (n11==0)
 (Q (.int .i64 4) h8)
 (vPtr p9 λp12=>
 ∃n13:Int,zA h8 ⟨p12.b,p12.o+3⟩ 1=some [.int .i64 n13]/\
 vPtr p9 λp14=>
 zL h8 ⟨p14.b,p14.o+3⟩ [.int .i64 (zC .i64 (n13-1))] λh15=>
 Q (.int .i64 0) h15)))
theorem ac282 {p1:OPa}{s2:List UInt8}{n3:Int}{h:Heap}{Q:AHp}(hk:vc282 p1 s2 n3 h Q):AC Tryz.prog 282 [.ptr p1,.str s2,.int .i64 n3] h Q:=
 zK (H:=zE [] []) (by kernel_rfl) (by kernel_rfl) hk
def vc38(p1:OPa)(h:Heap)(Q:AHp):Prop:=
 AC Tryz.prog 104 [.ptr p1,.func (.func 105) [] []] h λv2 h3=>∃n4:Int,v2= .int .i64 n4/\
 Q (.int .i64 n4) h3
theorem ac38 {p1:OPa}{h:Heap}{Q:AHp}(hk:vc38 p1 h Q):AC Tryz.prog 38 [.ptr p1] h Q:=
 zK (H:=zE [] []) (by kernel_rfl) (by kernel_rfl) hk
def vc171(p1:OPa)(h:Heap)(Q:AHp):Prop:=
 vif (!(p1.isNone))
 (vPtr p1 λp2=>
 ∃m3:Option Nat,zA h ⟨p2.b,p2.o+1⟩ 1=some [.map m3]/\
 Q (.bool (!(m3.isNone))) h)
 (Q (.bool false) h)
theorem ac171 {p1:OPa}{h:Heap}{Q:AHp}(hk:vc171 p1 h Q):AC Tryz.prog 171 [.ptr p1] h Q:=
 zK (H:=zE [] []) (by kernel_rfl) (by kernel_rfl) hk
def vc345(p1:OPa)(s2:List UInt8)(n3:Int)(h:Heap)(Q:AHp):Prop:=
 AC Tryz.prog 171 [.ptr p1] h λv4 h5=>∃b6:Bool,v4= .bool b6/\
 vif (!b6)
 (Q (.ptr none) h5)
 (vPtr p1 λp7=>
 ∃m8:Option Nat,zA h5 ⟨p7.b,p7.o+1⟩ 1=some [.map m8]/\
 xO Tryz.prog 180 3 m8 (.agg [.str s2,.int .i64 n3]) true h5 λv9=>
 ∃n10:Int,∃b11:Bool,v9= .tup [.int .i64 n10,.bool b11]/\
 vif (!b11)
 (Q (.ptr none) h5)
 (vPtr p1 λp12=>
 ∃q13:OSl,zA h5 ⟨p12.b,p12.o+0⟩ 1=some [.sl q13]/\
 vIdx q13 n10 6 λp14=>
 Q (.ptr (some p14)) h5))
theorem ac345 {p1:OPa}{s2:List UInt8}{n3:Int}{h:Heap}{Q:AHp}(hk:vc345 p1 s2 n3 h Q):AC Tryz.prog 345 [.ptr p1,.str s2,.int .i64 n3] h Q:=
 zK (H:=zE [] []) (by kernel_rfl) (by kernel_rfl) hk
def vc346(p1:OPa)(p2:OPa)(h:Heap)(Q:AHp):Prop:=
 vPtr p2 λp3=>
 ∃n4:Int,zA h ⟨p3.b,p3.o+3⟩ 1=some [.int .i64 n4]/\
 vPtr p2 λp5=>
 zL h ⟨p5.b,p5.o+3⟩ [.int .i64 (zC .i64 (n4+1))] λh6=>
 vPtr p2 λp7=>
 zL h6 ⟨p7.b,p7.o+4⟩ [.bool true] λh8=>
 vPtr p1 λp9=>
 ∃n10:Int,zA h8 ⟨p9.b,p9.o+3+0⟩ 1=some [.int .i64 n10]/\
 vPtr p1 λp11=>
 zL h8 ⟨p11.b,p11.o+3+0⟩ [.int .i64 (zC .i64 (n10+1))] λh12=>
 vPtr p2 λp13=>
 ∃q14:OSl,zA h12 ⟨p13.b,p13.o+2⟩ 1=some [.sl q14]/\
 AC Tryz.prog 131 [.sl q14] h12 λv15 h16=>∃q17:OSl,v15= .sl q17/\
 Q (.sl q17) h16
theorem ac346 {p1:OPa}{p2:OPa}{h:Heap}{Q:AHp}(hk:vc346 p1 p2 h Q):AC Tryz.prog 346 [.ptr p1,.ptr p2] h Q:=
 zK (H:=zE [] []) (by kernel_rfl) (by kernel_rfl) hk
def vc347(p1:OPa)(h:Heap)(Q:AHp):Prop:=
 vPtr p1 λp2=>
 ∃q3:OSl,zA h ⟨p2.b,p2.o+0⟩ 1=some [.sl q3]/\
 AC Tryz.prog 393 [.sl q3,.func (.func 392) [] []] h λv4 h5=>∃n6:Int,v4= .int .i64 n6/\
 vif (decide (n6≥0))
 (Q (.tup [.int .i64 n6,.bool true]) h5)
 (vPtr p1 λp7=>
 ∃q8:OSl,zA h5 ⟨p7.b,p7.o+0⟩ 1=some [.sl q8]/\
 AC Tryz.prog 38 [.ptr p1] h5 λv9 h10=>∃n11:Int,v9= .int .i64 n11/\
 (∃q33:OSl,zA h10 ⟨p7.b,p7.o+0⟩ 1=some [.sl q33]/\
 LV.val (.sl q33)=LV.val (.sl q8))/\
 vif (n11==(zJ q8:Int))
 (Q (.tup [.int .i64 0,.bool false]) h10)
 (∃(I12:LHp) (m13:LHn),I12 [] h10/\
 ∀h14:Heap,I12 [] h14->
 AC Tryz.prog 394 [.ptr p1] h14 λv15 h16=>∃n17:Int,v15= .int .i64 n17/\
 vPtr p1 λp18=>
 ∃q19:OSl,zA h16 ⟨p18.b,p18.o+0⟩ 1=some [.sl q19]/\
 vIdx q19 n17 6 λp20=>
 ∃n21:Int,zA h16 ⟨p20.b,p20.o+3⟩ 1=some [.int .i64 n21]/\
 vif (decide (n21>0))
 ((True)/\I12 [] h16/\m13 [] h16<m13 [] h14)
 (∃b22:Bool,zA h16 ⟨p20.b,p20.o+4⟩ 1=some [.bool b22]/\
 vif b22
 (zL h16 ⟨p20.b,p20.o+4⟩ [.bool false] λh23=>
 (True)/\I12 [] h23/\m13 [] h23<m13 [] h14)
 (vPtr p1 λp24=>
 ∃m25:Option Nat,zA h16 ⟨p24.b,p24.o+1⟩ 1=some [.map m25]/\
 ∃s26:List UInt8,∃n27:Int,zA h16 ⟨p20.b,p20.o+0⟩ 2=some [.str s26,.int .i64 n27]/\
 vY Tryz.prog 180 m25 (.agg [.str s26,.int .i64 n27]) h16 λh28=>
 vPtr p1 λp29=>
 ∃n30:Int,zA h28 ⟨p29.b,(p29.o+3)+2⟩ 1=some [.int .i64 n30]/\
 vPtr p1 λp31=>
 zL h28 ⟨p31.b,(p31.o+3)+2⟩ [.int .i64 (zC .i64 (n30+1))] λh32=>
 Q (.tup [.int .i64 n17,.bool true]) h32))))
theorem ac347 {p1:OPa}{h:Heap}{Q:AHp}(hk:vc347 p1 h Q):AC Tryz.prog 347 [.ptr p1] h Q:=
 zK (H:=zE [] [(0,[],[])]) (by kernel_rfl) (by kernel_rfl) hk
def vc131(q1:OSl)(h:Heap)(Q:AHp):Prop:=
 vif (q1.isNone)
 (Q (.sl none) h)
 (PNew [] true h λa2 h3=>
 zM 4 32 (some ⟨a2,0,0,0,0⟩) q1 h3 λq4 h5=>
 Q (.sl q4) h5)
theorem ac131 {q1:OSl}{h:Heap}{Q:AHp}(hk:vc131 q1 h Q):AC Tryz.prog 131 [.sl q1] h Q:=
 zK (H:=zE [] []) (by kernel_rfl) (by kernel_rfl) hk
def vc104h(p1:OPa)(h:Heap)(Q:AHp):Prop:=
 AC Tryz.prog 171 [.ptr p1] h λv2 h3=>∃b4:Bool,v2= .bool b4/\
 vif (!b4)
 (Q (.int .i64 0) h3)
 (vPtr p1 λp5=>
 ∃q6:OSl,zA h3 ⟨p5.b,p5.o+0⟩ 1=some [.sl q6]/\
 ∃(I9:LHp) (m10:LHn),I9 [.int .i64 0,.int .i64 0] h3/\
 ∀n7 n8:Int,∀h11:Heap,I9 [.int .i64 n7,.int .i64 n8] h11->
 vif (decide (n8<(zJ q6:Int)))
 (vPtr p1 λp12=>
 ∃q13:OSl,zA h11 ⟨p12.b,p12.o+0⟩ 1=some [.sl q13]/\
 vIdx q13 n8 6 λp14=>
 AC Tryz.prog 105 [.ptr (some p14)] h11 λv15 h16=>∃b17:Bool,v15= .bool b17/\
 vif b17
 ((True)/\I9 [.int .i64 (zC .i64 (n7+1)),.int .i64 (zC .i64 (n8+1))] h16/\m10 [.int .i64 (zC .i64 (n7+1)),.int .i64 (zC .i64 (n8+1))] h16<m10 [.int .i64 n7,.int .i64 n8] h11)
 ((True)/\I9 [.int .i64 n7,.int .i64 (zC .i64 (n8+1))] h16/\m10 [.int .i64 n7,.int .i64 (zC .i64 (n8+1))] h16<m10 [.int .i64 n7,.int .i64 n8] h11))
 (Q (.int .i64 n7) h11))
theorem ac104h {p1:OPa}{h:Heap}{Q:AHp}(hk:vc104h p1 h Q):AC Tryz.prog 104 [.ptr p1,.func (.func 105) [] []] h Q:=
 zK (H:=zE [] [(0,[5,15],[])]) (by kernel_rfl) (by kernel_rfl) hk
def vc105(p1:OPa)(h:Heap)(Q:AHp):Prop:=
 vPtr p1 λp2=>
 ∃n3:Int,zA h ⟨p2.b,p2.o+3⟩ 1=some [.int .i64 n3]/\
 Q (.bool (decide (n3>0))) h
theorem ac105 {p1:OPa}{h:Heap}{Q:AHp}(hk:vc105 p1 h Q):AC Tryz.prog 105 [.ptr p1] h Q:=
 zK (H:=zE [] []) (by kernel_rfl) (by kernel_rfl) hk
def vc392(s1:List UInt8)(n2:Int)(q3:OSl)(n4:Int)(b5:Bool)(b6:Bool)(h:Heap)(Q:AHp):Prop:=
 Q (.bool (!b6)) h
theorem ac392 {s1:List UInt8}{n2:Int}{q3:OSl}{n4:Int}{b5:Bool}{b6:Bool}{h:Heap}{Q:AHp}(hk:vc392 s1 n2 q3 n4 b5 b6 h Q):AC Tryz.prog 392 [.agg [.str s1,.int .i64 n2,.sl q3,.int .i64 n4,.bool b5,.bool b6]] h Q:=
 zK (H:=zE [1] []) (by kernel_rfl) (by kernel_rfl) hk
def vc393(q1:OSl)(h:Heap)(Q:AHp):Prop:=
 ∃(I3:LHp) (m4:LHn),I3 [.int .i64 0] h/\
 ∀n2:Int,∀h5:Heap,I3 [.int .i64 n2] h5->
 vif (decide (n2<(zJ q1:Int)))
 (vIdx q1 n2 6 λp6=>
 ∃s7:List UInt8,∃n8:Int,∃q9:OSl,∃n10:Int,∃b11 b12:Bool,zA h5 p6 6=some [.str s7,.int .i64 n8,.sl q9,.int .i64 n10,.bool b11,.bool b12]/\
 AC Tryz.prog 392 [.agg [.str s7,.int .i64 n8,.sl q9,.int .i64 n10,.bool b11,.bool b12]] h5 λv13 h14=>∃b15:Bool,v13= .bool b15/\
 vif b15
 (Q (.int .i64 n2) h14)
 ((True)/\I3 [.int .i64 (zC .i64 (n2+1))] h14/\m4 [.int .i64 (zC .i64 (n2+1))] h14<m4 [.int .i64 n2] h5))
 (Q (.int .i64 (-1)) h5)
theorem ac393 {q1:OSl}{h:Heap}{Q:AHp}(hk:vc393 q1 h Q):AC Tryz.prog 393 [.sl q1,.func (.func 392) [] []] h Q:=
 zK (H:=zE [] [(0,[8],[])]) (by kernel_rfl) (by kernel_rfl) hk
def vc394(p1:OPa)(h:Heap)(Q:AHp):Prop:=
 vPtr p1 λp2=>
 ∃n3:Int,zA h ⟨p2.b,p2.o+2⟩ 1=some [.int .i64 n3]/\
 vPtr p1 λp4=>
 ∃n5:Int,zA h ⟨p4.b,p4.o+2⟩ 1=some [.int .i64 n5]/\
 vPtr p1 λp6=>
 ∃q7:OSl,zA h ⟨p6.b,p6.o+0⟩ 1=some [.sl q7]/\
 need (!((zJ q7:Int)==0))
 (vPtr p1 λp8=>
 zL h ⟨p8.b,p8.o+2⟩ [.int .i64 (Int.tmod (zC .i64 (n5+1)) (zJ q7:Int))] λh9=>
 Q (.int .i64 n3) h9)
theorem ac394 {p1:OPa}{h:Heap}{Q:AHp}(hk:vc394 p1 h Q):AC Tryz.prog 394 [.ptr p1] h Q:=
 zK (H:=zE [] []) (by kernel_rfl) (by kernel_rfl) hk
def vc134(p1:OPa)(p2:OPa)(n3:Int)(n4:Int)(n5:Int)(n6:Int)(h:Heap)(Q:AHp):Prop:=
 PNew [.int .i64 n3,.int .i64 n4,.int .i64 n5,.int .i64 n6] true h λa7 h8=>
 vif (p1.isNone)
 (Q (.tup [.ptr none,.int .i64 6]) h8)
 (vif (p2.isNone)
 (Q (.tup [.ptr none,.int .i64 6]) h8)
 (∃n9 n10:Int,∃n11 n12:Int,zA h8 ⟨a7,0⟩ 4=some [.int .i64 n9,.int .i64 n10,.int .i64 n11,.int .i64 n12]/\
 AC Tryz.prog 203 [.ptr p2,.agg [.int .i64 n9,.int .i64 n10,.int .i64 n11,.int .i64 n12]] h8 λv13 h14=>∃n15:Int,v13= .int .i64 n15/\
 PNew [.ptr p1,.ptr p2,.int .i64 n15,.sl none,.int .i64 0,.int .i64 0] true h14 λa16 h17=>
 PNew [.ptr none] true h17 λa18 h19=>
 zL h19 ⟨a18,0⟩ [.ptr (some ⟨a16,0⟩)] λh20=>
 AC Tryz.prog 204 [.ptr p2] h20 λv21 h22=>∃n23:Int,v21= .int .i64 n23/\
 vif (n23==0)
 (∃p24:OPa,zA h22 ⟨a18,0⟩ 1=some [.ptr p24]/\
 Q (.tup [.ptr p24,.int .i64 0]) h22)
 (∃(I25:LHp) (m26:LHn),I25 [] h22/\
 ∀h27:Heap,I25 [] h27->
 ∃p28:OPa,zA h27 ⟨a18,0⟩ 1=some [.ptr p28]/\
 AC Tryz.prog 205 [.ptr p28] h27 λv29 h30=>∃n31:Int,v29= .int .i64 n31/\
 vif (n31 !=0)
 (Q (.tup [.ptr none,.int .i64 n31]) h30)
 (∃p32:OPa,zA h30 ⟨a18,0⟩ 1=some [.ptr p32]/\
 ∃p33:OPa,zA h30 ⟨a18,0⟩ 1=some [.ptr p33]/\
 vPtr p33 λp34=>
 ∃q35:OSl,zA h30 ⟨p34.b,p34.o+3⟩ 1=some [.sl q35]/\
 AC Tryz.prog 206 [.int .i64 (zJ q35:Int),.func (.func 207) [] [.ptr (some ⟨a18,0⟩),.ptr (some ⟨a7,0⟩)]] h30 λv36 h37=>∃n38:Int,v36= .int .i64 n38/\
 (∃p68:OPa,zA h37 ⟨a18,0⟩ 1=some [.ptr p68]/\
 LV.val (.ptr p68)=LV.val (.ptr p32))/\
 vPtr p32 λp39=>
 zL h37 ⟨p39.b,p39.o+4⟩ [.int .i64 n38] λh40=>
 ∃p41:OPa,zA h40 ⟨a18,0⟩ 1=some [.ptr p41]/\
 vPtr p41 λp42=>
 ∃n43:Int,zA h40 ⟨p42.b,p42.o+4⟩ 1=some [.int .i64 n43]/\
 ∃p44:OPa,zA h40 ⟨a18,0⟩ 1=some [.ptr p44]/\
 vPtr p44 λp45=>
 ∃q46:OSl,zA h40 ⟨p45.b,p45.o+3⟩ 1=some [.sl q46]/\
 vif (decide (n43<(zJ q46:Int)))
 (∃p47:OPa,zA h40 ⟨a18,0⟩ 1=some [.ptr p47]/\
 Q (.tup [.ptr p47,.int .i64 0]) h40)
 (∃p48:OPa,zA h40 ⟨a18,0⟩ 1=some [.ptr p48]/\
 vPtr p48 λp49=>
 ∃n50:Int,zA h40 ⟨p49.b,p49.o+2⟩ 1=some [.int .i64 n50]/\
 AC Tryz.prog 204 [.ptr p2] h40 λv51 h52=>∃n53:Int,v51= .int .i64 n53/\
 (∃n67:Int,zA h52 ⟨p49.b,p49.o+2⟩ 1=some [.int .i64 n67]/\
 LV.val (.int .i64 n67)=LV.val (.int .i64 n50))/\
 (∃p66:OPa,zA h52 ⟨a18,0⟩ 1=some [.ptr p66]/\
 LV.val (.ptr p66)=LV.val (.ptr p48))/\
 vif (decide ((zC .i64 (n50+1))≥n53))
 (∃p54:OPa,zA h52 ⟨a18,0⟩ 1=some [.ptr p54]/\
 AC Tryz.prog 208 [.ptr p54] h52 λv55 h56=>v55= .tup []/\
 ∃p57:OPa,zA h56 ⟨a18,0⟩ 1=some [.ptr p57]/\
 Q (.tup [.ptr p57,.int .i64 0]) h56)
 (∃p58:OPa,zA h52 ⟨a18,0⟩ 1=some [.ptr p58]/\
 AC Tryz.prog 209 [.ptr p58] h52 λv59 h60=>v59= .tup []/\
 ∃p61:OPa,zA h60 ⟨a18,0⟩ 1=some [.ptr p61]/\
 vPtr p61 λp62=>
 ∃n63:Int,zA h60 ⟨p62.b,p62.o+2⟩ 1=some [.int .i64 n63]/\
 vPtr p61 λp64=>
 zL h60 ⟨p64.b,p64.o+2⟩ [.int .i64 (zC .i64 (n63+1))] λh65=>
 (True)/\I25 [] h65/\m26 [] h65<m26 [] h27))))))
theorem ac134 {p1:OPa}{p2:OPa}{n3:Int}{n4:Int}{n5:Int}{n6:Int}{h:Heap}{Q:AHp}(hk:vc134 p1 p2 n3 n4 n5 n6 h Q):AC Tryz.prog 134 [.ptr p1,.ptr p2,.agg [.int .i64 n3,.int .i64 n4,.int .i64 n5,.int .i64 n6]] h Q:=
 zK (H:=zE [] [(0,[],[])]) (by kernel_rfl) (by kernel_rfl) hk
def vc210(p1:OPa)(h:Heap)(Q:AHp):Prop:=
 vif (p1.isNone)
 (Q (.tup [.agg [.int .i64 0,.int .i64 0,.int .i64 0,.int .i64 0],.bool false]) h)
 (vPtr p1 λp2=>
 ∃n3:Int,zA h ⟨p2.b,p2.o+4⟩ 1=some [.int .i64 n3]/\
 vPtr p1 λp4=>
 ∃q5:OSl,zA h ⟨p4.b,p4.o+3⟩ 1=some [.sl q5]/\
 vif (decide (n3≥(zJ q5:Int)))
 (Q (.tup [.agg [.int .i64 0,.int .i64 0,.int .i64 0,.int .i64 0],.bool false]) h)
 (vPtr p1 λp6=>
 ∃q7:OSl,zA h ⟨p6.b,p6.o+3⟩ 1=some [.sl q7]/\
 vPtr p1 λp8=>
 ∃n9:Int,zA h ⟨p8.b,p8.o+4⟩ 1=some [.int .i64 n9]/\
 vIdx q7 n9 4 λp10=>
 ∃n11 n12:Int,∃n13 n14:Int,zA h p10 4=some [.int .i64 n11,.int .i64 n12,.int .i64 n13,.int .i64 n14]/\
 Q (.tup [.agg [.int .i64 n11,.int .i64 n12,.int .i64 n13,.int .i64 n14],.bool true]) h))
theorem ac210 {p1:OPa}{h:Heap}{Q:AHp}(hk:vc210 p1 h Q):AC Tryz.prog 210 [.ptr p1] h Q:=
 zK (H:=zE [2] []) (by kernel_rfl) (by kernel_rfl) hk
def vc211(p1:OPa)(h:Heap)(Q:AHp):Prop:=
 vif (p1.isNone)
 (Q (.int .i64 6) h)
 (vPtr p1 λp2=>
 ∃q3:OSl,zA h ⟨p2.b,p2.o+3⟩ 1=some [.sl q3]/\
 vif ((zJ q3:Int)==0)
 (Q (.int .i64 4) h)
 (vPtr p1 λp4=>
 ∃n5:Int,zA h ⟨p4.b,p4.o+4⟩ 1=some [.int .i64 n5]/\
 vPtr p1 λp6=>
 zL h ⟨p6.b,p6.o+4⟩ [.int .i64 (zC .i64 (n5+1))] λh7=>
 vPtr p1 λp8=>
 ∃n9:Int,zA h7 ⟨p8.b,p8.o+4⟩ 1=some [.int .i64 n9]/\
 vPtr p1 λp10=>
 ∃q11:OSl,zA h7 ⟨p10.b,p10.o+3⟩ 1=some [.sl q11]/\
 vif (decide (n9<(zJ q11:Int)))
 (Q (.int .i64 0) h7)
 (AC Tryz.prog 208 [.ptr p1] h7 λv12 h13=>v12= .tup []/\
 vPtr p1 λp14=>
 ∃n15:Int,zA h13 ⟨p14.b,p14.o+2⟩ 1=some [.int .i64 n15]/\
 vPtr p1 λp16=>
 ∃p17:OPa,zA h13 ⟨p16.b,p16.o+1⟩ 1=some [.ptr p17]/\
 AC Tryz.prog 204 [.ptr p17] h13 λv18 h19=>∃n20:Int,v18= .int .i64 n20/\
 (∃n28:Int,zA h19 ⟨p14.b,p14.o+2⟩ 1=some [.int .i64 n28]/\
 LV.val (.int .i64 n28)=LV.val (.int .i64 n15))/\
 vif (decide ((zC .i64 (n15+1))≥n20))
 (Q (.int .i64 0) h19)
 (vPtr p1 λp21=>
 ∃n22:Int,zA h19 ⟨p21.b,p21.o+2⟩ 1=some [.int .i64 n22]/\
 vPtr p1 λp23=>
 zL h19 ⟨p23.b,p23.o+2⟩ [.int .i64 (zC .i64 (n22+1))] λh24=>
 AC Tryz.prog 205 [.ptr p1] h24 λv25 h26=>∃n27:Int,v25= .int .i64 n27/\
 Q (.int .i64 n27) h26))))
theorem ac211 {p1:OPa}{h:Heap}{Q:AHp}(hk:vc211 p1 h Q):AC Tryz.prog 211 [.ptr p1] h Q:=
 zK (H:=zE [] []) (by kernel_rfl) (by kernel_rfl) hk
def vc135(p1:OPa)(h:Heap)(Q:AHp):Prop:=
 vif (p1.isNone)
 (Q (.tup [.sl none,.int .i64 6]) h)
 (∃(I3:LHp) (m4:LHn),I3 [.sl none] h/\
 ∀q2:OSl,∀h5:Heap,I3 [.sl q2] h5->
 AC Tryz.prog 210 [.ptr p1] h5 λv6 h7=>∃n8 n9:Int,∃n10 n11:Int,∃b12:Bool,v6= .tup [.agg [.int .i64 n8,.int .i64 n9,.int .i64 n10,.int .i64 n11],.bool b12]/\
 vif (!b12)
 (Q (.tup [.sl q2,.int .i64 0]) h7)
 (PNew [.int .i64 n8,.int .i64 n9,.int .i64 n10,.int .i64 n11] true h7 λa13 h14=>
 zM 4 32 q2 (some ⟨a13,0,1,1,0⟩) h14 λq15 h16=>
 AC Tryz.prog 211 [.ptr p1] h16 λv17 h18=>∃n19:Int,v17= .int .i64 n19/\
 vif (n19 !=0)
 (Q (.tup [.sl none,.int .i64 n19]) h18)
 ((True)/\I3 [.sl q15] h18/\m4 [.sl q15] h18<m4 [.sl q2] h5)))
theorem ac135 {p1:OPa}{h:Heap}{Q:AHp}(hk:vc135 p1 h Q):AC Tryz.prog 135 [.ptr p1] h Q:=
 zK (H:=zE [5] [(0,[4],[])]) (by kernel_rfl) (by kernel_rfl) hk
def vc208(p1:OPa)(h:Heap)(Q:AHp):Prop:=
 vif (!(p1.isNone))
 (vPtr p1 λp2=>
 ∃q3:OSl,zA h ⟨p2.b,p2.o+3⟩ 1=some [.sl q3]/\
 vif (decide ((zJ q3:Int)>0))
 (AC Tryz.prog 209 [.ptr p1] h λv4 h5=>v4= .tup []/\
 vPtr p1 λp6=>
 zL h5 ⟨p6.b,p6.o+4⟩ [.int .i64 0] λh7=>
 Q (.tup []) h7)
 (Q (.tup []) h))
 (Q (.tup []) h)
theorem ac208 {p1:OPa}{h:Heap}{Q:AHp}(hk:vc208 p1 h Q):AC Tryz.prog 208 [.ptr p1] h Q:=
 zK (H:=zE [] []) (by kernel_rfl) (by kernel_rfl) hk
def vc205(p1:OPa)(h:Heap)(Q:AHp):Prop:=
 vPtr p1 λp2=>
 ∃p3:OPa,zA h ⟨p2.b,p2.o+0⟩ 1=some [.ptr p3]/\
 vPtr p1 λp4=>
 ∃p5:OPa,zA h ⟨p4.b,p4.o+1⟩ 1=some [.ptr p5]/\
 vPtr p1 λp6=>
 ∃n7:Int,zA h ⟨p6.b,p6.o+2⟩ 1=some [.int .i64 n7]/\
 AC Tryz.prog 281 [.ptr p3,.ptr p5,.int .i64 n7] h λv8 h9=>∃q10:OSl,∃n11:Int,v8= .tup [.sl q10,.int .i64 n11]/\
 vPtr p1 λp12=>
 zL h9 ⟨p12.b,p12.o+5⟩ [.int .i64 n11] λh13=>
 vPtr p1 λp14=>
 zL h13 ⟨p14.b,p14.o+3⟩ [.sl q10] λh15=>
 vPtr p1 λp16=>
 zL h15 ⟨p16.b,p16.o+4⟩ [.int .i64 0] λh17=>
 Q (.int .i64 n11) h17
theorem ac205 {p1:OPa}{h:Heap}{Q:AHp}(hk:vc205 p1 h Q):AC Tryz.prog 205 [.ptr p1] h Q:=
 zK (H:=zE [] []) (by kernel_rfl) (by kernel_rfl) hk
def vc206c(n1:Int)(p2:PA)(p3:PA)(h:Heap)(Q:AHp):Prop:=
 ∃(I6:LHp) (m7:LHn),I6 [.int .i64 0,.int .i64 n1] h/\
 ∀n4 n5:Int,∀h8:Heap,I6 [.int .i64 n4,.int .i64 n5] h8->
 vif (decide (n4<n5))
 (AC Tryz.prog 207 [.int .i64 (zC .i64 (shrK .u64 (zC .u64 (zC .i64 (n4+n5))) 1)),.ptr (some p2),.ptr (some p3)] h8 λv9 h10=>∃b11:Bool,v9= .bool b11/\
 vif (!b11)
 ((True)/\I6 [.int .i64 (zC .i64 ((zC .i64 (shrK .u64 (zC .u64 (zC .i64 (n4+n5))) 1))+1)),.int .i64 n5] h10/\m7 [.int .i64 (zC .i64 ((zC .i64 (shrK .u64 (zC .u64 (zC .i64 (n4+n5))) 1))+1)),.int .i64 n5] h10<m7 [.int .i64 n4,.int .i64 n5] h8)
 ((True)/\I6 [.int .i64 n4,.int .i64 (zC .i64 (shrK .u64 (zC .u64 (zC .i64 (n4+n5))) 1))] h10/\m7 [.int .i64 n4,.int .i64 (zC .i64 (shrK .u64 (zC .u64 (zC .i64 (n4+n5))) 1))] h10<m7 [.int .i64 n4,.int .i64 n5] h8))
 (Q (.int .i64 n4) h8)
theorem ac206c {n1:Int}{p2:PA}{p3:PA}{h:Heap}{Q:AHp}(hk:vc206c n1 p2 p3 h Q):AC Tryz.prog 206 [.int .i64 n1,.func (.func 207) [] [.ptr (some p2),.ptr (some p3)]] h Q:=
 zK (H:=zE [] [(0,[5,6],[])]) (by kernel_rfl) (by kernel_rfl) hk
def vc207(n1:Int)(p2:PA)(p3:PA)(h:Heap)(Q:AHp):Prop:=
 ∃p4:OPa,zA h p2 1=some [.ptr p4]/\
 vPtr p4 λp5=>
 ∃q6:OSl,zA h ⟨p5.b,p5.o+3⟩ 1=some [.sl q6]/\
 vIdx q6 n1 4 λp7=>
 ∃n8 n9:Int,∃n10 n11:Int,zA h p7 4=some [.int .i64 n8,.int .i64 n9,.int .i64 n10,.int .i64 n11]/\
 ∃n12 n13:Int,∃n14 n15:Int,zA h p3 4=some [.int .i64 n12,.int .i64 n13,.int .i64 n14,.int .i64 n15]/\
 AC Tryz.prog 133 [.agg [.int .i64 n8,.int .i64 n9,.int .i64 n10,.int .i64 n11],.agg [.int .i64 n12,.int .i64 n13,.int .i64 n14,.int .i64 n15]] h λv16 h17=>∃n18:Int,v16= .int .i64 n18/\
 Q (.bool (decide (n18≥0))) h17
theorem ac207 {n1:Int}{p2:PA}{p3:PA}{h:Heap}{Q:AHp}(hk:vc207 n1 p2 p3 h Q):AC Tryz.prog 207 [.int .i64 n1,.ptr (some p2),.ptr (some p3)] h Q:=
 zK (H:=zE [] []) (by kernel_rfl) (by kernel_rfl) hk
def vc209(p1:OPa)(h:Heap)(Q:AHp):Prop:=
 vPtr p1 λp2=>
 ∃p3:OPa,zA h ⟨p2.b,p2.o+0⟩ 1=some [.ptr p3]/\
 vPtr p1 λp4=>
 ∃p5:OPa,zA h ⟨p4.b,p4.o+1⟩ 1=some [.ptr p5]/\
 vPtr p1 λp6=>
 ∃n7:Int,zA h ⟨p6.b,p6.o+2⟩ 1=some [.int .i64 n7]/\
 AC Tryz.prog 141 [.ptr p5] h λv8 h9=>∃s10:List UInt8,v8= .str s10/\
 (∃n17:Int,zA h9 ⟨p6.b,p6.o+2⟩ 1=some [.int .i64 n17]/\
 LV.val (.int .i64 n17)=LV.val (.int .i64 n7))/\
 (∃p16:OPa,zA h9 ⟨p2.b,p2.o+0⟩ 1=some [.ptr p16]/\
 LV.val (.ptr p16)=LV.val (.ptr p3))/\
 AC Tryz.prog 282 [.ptr p3,.str s10,.int .i64 n7] h9 λv11 h12=>∃n13:Int,v11= .int .i64 n13/\
 vPtr p1 λp14=>
 zL h12 ⟨p14.b,p14.o+3⟩ [.sl none] λh15=>
 Q (.tup []) h15
theorem ac209 {p1:OPa}{h:Heap}{Q:AHp}(hk:vc209 p1 h Q):AC Tryz.prog 209 [.ptr p1] h Q:=
 zK (H:=zE [] []) (by kernel_rfl) (by kernel_rfl) hk
end Go.Proofs
