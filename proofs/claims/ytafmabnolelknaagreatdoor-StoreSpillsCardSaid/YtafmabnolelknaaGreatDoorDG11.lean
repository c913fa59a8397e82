import Derived.Test.YtafmabnolelknaaGreatDoorDG8
import Derived.Test.YtafmabnolelknaaGreatDoorProg
import Derived.KernelRfl
namespace Go.Proofs
open Go.Ab
set_option maxRecDepth 100000
set_option linter.unusedVariables false
def vc150(q1:OSl)(q2:OSl)(h:Heap)(Q:AHp):Prop:=
 AC Tryz.prog 221 [.sl q1,.sl q2] h λv3 h4=>∃n5:Int,v3= .int .i64 n5/\
 vif (n5 !=0)
 (Q (.tup [.ptr none,.int .i64 n5]) h4)
 (PNew [.sl none,.sl none,.int .i64 0] true h4 λa6 h7=>
 ∃(I9:LHp) (m10:LHn),I9 [.int .i64 0] h7/\
 ∀n8:Int,∀h11:Heap,I9 [.int .i64 n8] h11->
 vif (decide (n8<(zJ q1:Int)))
 (vIdx q1 n8 1 λp12=>
 ∃q13:OSl,zA h11 p12 1=some [.sl q13]/\
 PNew [] true h11 λa14 h15=>
 zM 4 32 (some ⟨a14,0,0,0,0⟩) q13 h15 λq16 h17=>
 PNew [.sl q16] true h17 λa18 h19=>
 AC Tryz.prog 222 [.ptr (some ⟨a6,0⟩),.iface 322 (.ptr (some ⟨a18,0⟩))] h19 λv20 h21=>v20= .tup []/\
 (True)/\I9 [.int .i64 (zC .i64 (n8+1))] h21/\m10 [.int .i64 (zC .i64 (n8+1))] h21<m10 [.int .i64 n8] h11)
 (∃(I23:LHp) (m24:LHn),I23 [.int .i64 0] h11/\
 ∀n22:Int,∀h25:Heap,I23 [.int .i64 n22] h25->
 vif (decide (n22<(zJ q2:Int)))
 (vIdx q2 n22 1 λp26=>
 ∃p27:OPa,zA h25 p26 1=some [.ptr p27]/\
 ∃q28:OSl,zA h25 ⟨a6,1⟩ 1=some [.sl q28]/\
 PNew [.ptr p27] true h25 λa29 h30=>
 zM 1 8 q28 (some ⟨a29,0,1,1,0⟩) h30 λq31 h32=>
 zL h32 ⟨a6,1⟩ [.sl q31] λh33=>
 AC Tryz.prog 222 [.ptr (some ⟨a6,0⟩),.iface 233 (.ptr p27)] h33 λv34 h35=>v34= .tup []/\
 (True)/\I23 [.int .i64 (zC .i64 (n22+1))] h35/\m24 [.int .i64 (zC .i64 (n22+1))] h35<m24 [.int .i64 n22] h25)
 (AC Tryz.prog 223 [.iface 326 (.ptr (some ⟨a6,0⟩))] h25 λv36 h37=>v36= .tup []/\
 Q (.tup [.ptr (some ⟨a6,0⟩),.int .i64 0]) h37)))
theorem ac150 {q1:OSl}{q2:OSl}{h:Heap}{Q:AHp}(hk:vc150 q1 q2 h Q):AC Tryz.prog 150 [.sl q1,.sl q2] h Q:=
 zK (H:=zE [] [(0,[22],[]),(2,[37],[])]) (by kernel_rfl) (by kernel_rfl) hk
def vc151(p1:OPa)(h:Heap)(Q:AHp):Prop:=
 vif (p1.isNone)
 (Q (.tup []) h)
 (vPtr p1 λp2=>
 ∃q3:OSl,zA h ⟨p2.b,p2.o+1⟩ 1=some [.sl q3]/\
 ∃(I5:LHp) (m6:LHn),I5 [.int .i64 0] h/\
 ∀n4:Int,∀h7:Heap,I5 [.int .i64 n4] h7->
 vif (decide (n4<(zJ q3:Int)))
 (vIdx q3 n4 1 λp8=>
 ∃p9:OPa,zA h7 p8 1=some [.ptr p9]/\
 AC Tryz.prog 208 [.ptr p9] h7 λv10 h11=>v10= .tup []/\
 (True)/\I5 [.int .i64 (zC .i64 (n4+1))] h11/\m6 [.int .i64 (zC .i64 (n4+1))] h11<m6 [.int .i64 n4] h7)
 (vPtr p1 λp12=>
 zL h7 ⟨p12.b,p12.o+0⟩ [.sl none] λh13=>
 Q (.tup []) h13))
def vc224(p1:OPa)(h:Heap)(Q:AHp):Prop:=
 vif (p1.isNone)
 (Q (.tup [.agg [.int .i64 0,.int .i64 0,.int .i64 0,.int .i64 0],.bool false]) h)
 (vPtr p1 λp2=>
 ∃n3:Int,zA h ⟨p2.b,p2.o+2⟩ 1=some [.int .i64 n3]/\
 vif (n3 !=0)
 (Q (.tup [.agg [.int .i64 0,.int .i64 0,.int .i64 0,.int .i64 0],.bool false]) h)
 (vPtr p1 λp4=>
 ∃q5:OSl,zA h ⟨p4.b,p4.o+0⟩ 1=some [.sl q5]/\
 vif ((zJ q5:Int)==0)
 (Q (.tup [.agg [.int .i64 0,.int .i64 0,.int .i64 0,.int .i64 0],.bool false]) h)
 (vPtr p1 λp6=>
 ∃q7:OSl,zA h ⟨p6.b,p6.o+0⟩ 1=some [.sl q7]/\
 vIdx q7 0 1 λp8=>
 ∃p9:OPa,zA h p8 1=some [.ptr p9]/\
 vPtr p9 λp10=>
 ∃n11 n12:Int,∃n13 n14:Int,zA h ⟨p10.b,p10.o+0⟩ 4=some [.int .i64 n11,.int .i64 n12,.int .i64 n13,.int .i64 n14]/\
 Q (.tup [.agg [.int .i64 n11,.int .i64 n12,.int .i64 n13,.int .i64 n14],.bool true]) h)))
theorem ac224 {p1:OPa}{h:Heap}{Q:AHp}(hk:vc224 p1 h Q):AC Tryz.prog 224 [.ptr p1] h Q:=
 zK (H:=zE [2] []) (by kernel_rfl) (by kernel_rfl) hk
def vc221(q1:OSl)(q2:OSl)(h:Heap)(Q:AHp):Prop:=
 vif (decide ((zC .i64 ((zJ q1:Int)+(zJ q2:Int)))>64))
 (Q (.int .i64 31) h)
 (∃(I4:LHp) (m5:LHn),I4 [.int .i64 0] h/\
 ∀n3:Int,∀h6:Heap,I4 [.int .i64 n3] h6->
 vif (decide (n3<(zJ q1:Int)))
 (vIdx q1 n3 1 λp7=>
 ∃q8:OSl,zA h6 p7 1=some [.sl q8]/\
 AC Tryz.prog 194 [.sl q8] h6 λv9 h10=>∃b11:Bool,v9= .bool b11/\
 vif (!b11)
 (Q (.int .i64 1) h10)
 ((True)/\I4 [.int .i64 (zC .i64 (n3+1))] h10/\m5 [.int .i64 (zC .i64 (n3+1))] h10<m5 [.int .i64 n3] h6))
 (∃(I13:LHp) (m14:LHn),I13 [.int .i64 0] h6/\
 ∀n12:Int,∀h15:Heap,I13 [.int .i64 n12] h15->
 vif (decide (n12<(zJ q2:Int)))
 (vIdx q2 n12 1 λp16=>
 ∃p17:OPa,zA h15 p16 1=some [.ptr p17]/\
 vif (p17.isNone)
 (Q (.int .i64 6) h15)
 ((True)/\I13 [.int .i64 (zC .i64 (n12+1))] h15/\m14 [.int .i64 (zC .i64 (n12+1))] h15<m14 [.int .i64 n12] h15))
 (Q (.int .i64 0) h15)))
theorem ac221 {q1:OSl}{q2:OSl}{h:Heap}{Q:AHp}(hk:vc221 q1 q2 h Q):AC Tryz.prog 221 [.sl q1,.sl q2] h Q:=
 zK (H:=zE [] [(0,[17],[]),(2,[27],[])]) (by kernel_rfl) (by kernel_rfl) hk
def vc222(p1:OPa)(p2:PA)(h:Heap)(Q:AHp):Prop:=
 AC Tryz.prog 451 [.ptr (some p2)] h λv3 h4=>∃n5 n6:Int,∃n7 n8:Int,∃b9:Bool,v3= .tup [.agg [.int .i64 n5,.int .i64 n6,.int .i64 n7,.int .i64 n8],.bool b9]/\
 vif b9
 (vPtr p1 λp10=>
 ∃q11:OSl,zA h4 ⟨p10.b,p10.o+0⟩ 1=some [.sl q11]/\
 PNew [.int .i64 n5,.int .i64 n6,.int .i64 n7,.int .i64 n8,.iface 322 (.ptr (some p2)),.func (.method "Next") [.iface 322 (.ptr (some p2))] []] true h4 λa12 h13=>
 (∃q21:OSl,zA h13 ⟨p10.b,p10.o+0⟩ 1=some [.sl q21]/\
 LV.val (.sl q21)=LV.val (.sl q11))/\
 PNew [.ptr (some ⟨a12,0⟩)] true h13 λa14 h15=>
 (∃q20:OSl,zA h15 ⟨p10.b,p10.o+0⟩ 1=some [.sl q20]/\
 LV.val (.sl q20)=LV.val (.sl q11))/\
 zM 1 8 q11 (some ⟨a14,0,1,1,0⟩) h15 λq16 h17=>
 vPtr p1 λp18=>
 zL h17 ⟨p18.b,p18.o+0⟩ [.sl q16] λh19=>
 Q (.tup []) h19)
 (Q (.tup []) h4)
theorem ac222 {p1:OPa}{p2:PA}{h:Heap}{Q:AHp}(hk:vc222 p1 p2 h Q):AC Tryz.prog 222 [.ptr p1,.iface 322 (.ptr (some p2))] h Q:=
 zK (H:=zE [4] []) (by kernel_rfl) (by kernel_rfl) hk
def vc222c(p1:OPa)(p2:PA)(h:Heap)(Q:AHp):Prop:=
 AC Tryz.prog 210 [.ptr (some p2)] h λv3 h4=>∃n5 n6:Int,∃n7 n8:Int,∃b9:Bool,v3= .tup [.agg [.int .i64 n5,.int .i64 n6,.int .i64 n7,.int .i64 n8],.bool b9]/\
 vif b9
 (vPtr p1 λp10=>
 ∃q11:OSl,zA h4 ⟨p10.b,p10.o+0⟩ 1=some [.sl q11]/\
 PNew [.int .i64 n5,.int .i64 n6,.int .i64 n7,.int .i64 n8,.iface 233 (.ptr (some p2)),.func (.method "Next") [.iface 233 (.ptr (some p2))] []] true h4 λa12 h13=>
 (∃q21:OSl,zA h13 ⟨p10.b,p10.o+0⟩ 1=some [.sl q21]/\
 LV.val (.sl q21)=LV.val (.sl q11))/\
 PNew [.ptr (some ⟨a12,0⟩)] true h13 λa14 h15=>
 (∃q20:OSl,zA h15 ⟨p10.b,p10.o+0⟩ 1=some [.sl q20]/\
 LV.val (.sl q20)=LV.val (.sl q11))/\
 zM 1 8 q11 (some ⟨a14,0,1,1,0⟩) h15 λq16 h17=>
 vPtr p1 λp18=>
 zL h17 ⟨p18.b,p18.o+0⟩ [.sl q16] λh19=>
 Q (.tup []) h19)
 (Q (.tup []) h4)
theorem ac222c {p1:OPa}{p2:PA}{h:Heap}{Q:AHp}(hk:vc222c p1 p2 h Q):AC Tryz.prog 222 [.ptr p1,.iface 233 (.ptr (some p2))] h Q:=
 zK (H:=zE [4] []) (by kernel_rfl) (by kernel_rfl) hk
def vc223(p1:PA)(h:Heap)(Q:AHp):Prop:=
 ∃q4:OSl,zA h p1 1=some [.sl q4]/\
 AC Tryz.prog 447 [.sl q4] h λv2 h3=>∃n5:Int,v2= .int .i64 n5/\
 ∃(I7:LHp) (m8:LHn),I7 [.int .i64 (zC .i64 ((zC .i64 (Int.tdiv n5 2)) - 1))] h3/\
 ∀n6:Int,∀h9:Heap,I7 [.int .i64 n6] h9->
 vif (decide (n6≥0))
 (AC Tryz.prog 286 [.iface 326 (.ptr (some p1)),.int .i64 n6,.int .i64 n5] h9 λv10 h11=>∃b12:Bool,v10= .bool b12/\
 (True)/\I7 [.int .i64 (zC .i64 (n6-1))] h11/\m8 [.int .i64 (zC .i64 (n6-1))] h11<m8 [.int .i64 n6] h9)
 (Q (.tup []) h9)
theorem ac223 {p1:PA}{h:Heap}{Q:AHp}(hk:vc223 p1 h Q):AC Tryz.prog 223 [.iface 326 (.ptr (some p1))] h Q:=
 zK (H:=zE [] [(0,[3],[])]) (by kernel_rfl) (by kernel_rfl) hk
def vc225(p1:OPa)(h:Heap)(Q:AHp):Prop:=
 vPtr p1 λp2=>
 ∃q3:OSl,zA h ⟨p2.b,p2.o+0⟩ 1=some [.sl q3]/\
 vIdx q3 0 1 λp4=>
 ∃p5:OPa,zA h p4 1=some [.ptr p5]/\
 vPtr p5 λp6=>
 ∃v7:AV,v7.one=true/\zA h ⟨p6.b,p6.o+5⟩ 1=some (AV.cells v7)/\
 yV Tryz.prog (AC Tryz.prog) v7 [] h λv8 h9=>∃n10:Int,v8= .int .i64 n10/\
 vPtr p1 λp11=>
 zL h9 ⟨p11.b,p11.o+2⟩ [.int .i64 n10] λh12=>
 vPtr p5 λp13=>
 ∃v14:AV,v14.one=true/\zA h12 ⟨p13.b,p13.o+4⟩ 1=some (AV.cells v14)/\
 kD Tryz.prog (AC Tryz.prog) v14 "Peek" [] h12 λv15 h16=>∃n17 n18:Int,∃n19 n20:Int,∃b21:Bool,v15= .tup [.agg [.int .i64 n17,.int .i64 n18,.int .i64 n19,.int .i64 n20],.bool b21]/\
 vif (!b21)
 (vPtr p1 λp22=>
 AC Tryz.prog 287 [.iface 326 (.ptr (some ⟨p22.b,p22.o+0⟩))] h16 λv23 h24=>∃v25:AV,v25.one=true/\v23=v25/\
 Q (.tup []) h24)
 (vPtr p5 λp26=>
 zL h16 ⟨p26.b,p26.o+0⟩ [.int .i64 n17,.int .i64 n18,.int .i64 n19,.int .i64 n20] λh27=>
 vPtr p1 λp28=>
 AC Tryz.prog 288 [.iface 326 (.ptr (some ⟨p28.b,p28.o+0⟩)),.int .i64 0] h27 λv29 h30=>v29= .tup []/\
 Q (.tup []) h30)
theorem ac225 {p1:OPa}{h:Heap}{Q:AHp}(hk:vc225 p1 h Q):AC Tryz.prog 225 [.ptr p1] h Q:=
 zK (H:=zE [3] []) (by kernel_rfl) (by kernel_rfl) hk
def vc286(p1:PA)(n2:Int)(n3:Int)(h:Heap)(Q:AHp):Prop:=
 ∃(I5:LHp) (m6:LHn),I5 [.int .i64 n2] h/\
 ∀n4:Int,∀h7:Heap,I5 [.int .i64 n4] h7->
 vif (decide ((zC .i64 ((zC .i64 (2*n4))+1))≥n3))
 (Q (.bool (decide (n4>n2))) h7)
 (vif (decide ((zC .i64 ((zC .i64 (2*n4))+1))<0))
 (Q (.bool (decide (n4>n2))) h7)
 (vif (decide ((zC .i64 ((zC .i64 ((zC .i64 (2*n4))+1))+1))<n3))
 (∃q10:OSl,zA h7 p1 1=some [.sl q10]/\
 AC Tryz.prog 448 [.sl q10,.int .i64 (zC .i64 ((zC .i64 ((zC .i64 (2*n4))+1))+1)),.int .i64 (zC .i64 ((zC .i64 (2*n4))+1))] h7 λv8 h9=>∃b11:Bool,v8= .bool b11/\
 vif b11
 (∃q14:OSl,zA h9 p1 1=some [.sl q14]/\
 AC Tryz.prog 448 [.sl q14,.int .i64 (zC .i64 ((zC .i64 ((zC .i64 (2*n4))+1))+1)),.int .i64 n4] h9 λv12 h13=>∃b15:Bool,v12= .bool b15/\
 vif (!b15)
 (Q (.bool (decide (n4>n2))) h13)
 (∃q18:OSl,zA h13 p1 1=some [.sl q18]/\
 AC Tryz.prog 449 [.sl q18,.int .i64 n4,.int .i64 (zC .i64 ((zC .i64 ((zC .i64 (2*n4))+1))+1))] h13 λv16 h17=>v16= .tup []/\
 (True)/\I5 [.int .i64 (zC .i64 ((zC .i64 ((zC .i64 (2*n4))+1))+1))] h17/\m6 [.int .i64 (zC .i64 ((zC .i64 ((zC .i64 (2*n4))+1))+1))] h17<m6 [.int .i64 n4] h7))
 (∃q21:OSl,zA h9 p1 1=some [.sl q21]/\
 AC Tryz.prog 448 [.sl q21,.int .i64 (zC .i64 ((zC .i64 (2*n4))+1)),.int .i64 n4] h9 λv19 h20=>∃b22:Bool,v19= .bool b22/\
 vif (!b22)
 (Q (.bool (decide (n4>n2))) h20)
 (∃q25:OSl,zA h20 p1 1=some [.sl q25]/\
 AC Tryz.prog 449 [.sl q25,.int .i64 n4,.int .i64 (zC .i64 ((zC .i64 (2*n4))+1))] h20 λv23 h24=>v23= .tup []/\
 (True)/\I5 [.int .i64 (zC .i64 ((zC .i64 (2*n4))+1))] h24/\m6 [.int .i64 (zC .i64 ((zC .i64 (2*n4))+1))] h24<m6 [.int .i64 n4] h7)))
 (∃q28:OSl,zA h7 p1 1=some [.sl q28]/\
 AC Tryz.prog 448 [.sl q28,.int .i64 (zC .i64 ((zC .i64 (2*n4))+1)),.int .i64 n4] h7 λv26 h27=>∃b29:Bool,v26= .bool b29/\
 vif (!b29)
 (Q (.bool (decide (n4>n2))) h27)
 (∃q32:OSl,zA h27 p1 1=some [.sl q32]/\
 AC Tryz.prog 449 [.sl q32,.int .i64 n4,.int .i64 (zC .i64 ((zC .i64 (2*n4))+1))] h27 λv30 h31=>v30= .tup []/\
 (True)/\I5 [.int .i64 (zC .i64 ((zC .i64 (2*n4))+1))] h31/\m6 [.int .i64 (zC .i64 ((zC .i64 (2*n4))+1))] h31<m6 [.int .i64 n4] h7))))
theorem ac286 {p1:PA}{n2:Int}{n3:Int}{h:Heap}{Q:AHp}(hk:vc286 p1 n2 n3 h Q):AC Tryz.prog 286 [.iface 326 (.ptr (some p1)),.int .i64 n2,.int .i64 n3] h Q:=
 zK (H:=zE [] [(0,[7],[])]) (by kernel_rfl) (by kernel_rfl) hk
def vc287(p1:PA)(h:Heap)(Q:AHp):Prop:=
 ∃q4:OSl,zA h p1 1=some [.sl q4]/\
 AC Tryz.prog 447 [.sl q4] h λv2 h3=>∃n5:Int,v2= .int .i64 n5/\
 ∃q8:OSl,zA h3 p1 1=some [.sl q8]/\
 AC Tryz.prog 449 [.sl q8,.int .i64 0,.int .i64 (zC .i64 (n5-1))] h3 λv6 h7=>v6= .tup []/\
 AC Tryz.prog 286 [.iface 326 (.ptr (some p1)),.int .i64 0,.int .i64 (zC .i64 (n5-1))] h7 λv9 h10=>∃b11:Bool,v9= .bool b11/\
 AC Tryz.prog 452 [.ptr (some p1)] h10 λv12 h13=>∃v14:AV,v14.one=true/\v12=v14/\
 Q (v14) h13
theorem ac287 {p1:PA}{h:Heap}{Q:AHp}(hk:vc287 p1 h Q):AC Tryz.prog 287 [.iface 326 (.ptr (some p1))] h Q:=
 zK (H:=zE [] []) (by kernel_rfl) (by kernel_rfl) hk
def vc288(p1:PA)(n2:Int)(h:Heap)(Q:AHp):Prop:=
 ∃q5:OSl,zA h p1 1=some [.sl q5]/\
 AC Tryz.prog 447 [.sl q5] h λv3 h4=>∃n6:Int,v3= .int .i64 n6/\
 AC Tryz.prog 286 [.iface 326 (.ptr (some p1)),.int .i64 n2,.int .i64 n6] h4 λv7 h8=>∃b9:Bool,v7= .bool b9/\
 vif (!b9)
 (AC Tryz.prog 349 [.iface 326 (.ptr (some p1)),.int .i64 n2] h8 λv10 h11=>v10= .tup []/\
 Q (.tup []) h11)
 (Q (.tup []) h8)
theorem ac288 {p1:PA}{n2:Int}{h:Heap}{Q:AHp}(hk:vc288 p1 n2 h Q):AC Tryz.prog 288 [.iface 326 (.ptr (some p1)),.int .i64 n2] h Q:=
 zK (H:=zE [] []) (by kernel_rfl) (by kernel_rfl) hk
def vc349(p1:PA)(n2:Int)(h:Heap)(Q:AHp):Prop:=
 ∃(I4:LHp) (m5:LHn),I4 [.int .i64 n2] h/\
 ∀n3:Int,∀h6:Heap,I4 [.int .i64 n3] h6->
 vif ((zC .i64 (Int.tdiv (zC .i64 (n3-1)) 2))==n3)
 (Q (.tup []) h6)
 (∃q9:OSl,zA h6 p1 1=some [.sl q9]/\
 AC Tryz.prog 448 [.sl q9,.int .i64 n3,.int .i64 (zC .i64 (Int.tdiv (zC .i64 (n3-1)) 2))] h6 λv7 h8=>∃b10:Bool,v7= .bool b10/\
 vif (!b10)
 (Q (.tup []) h8)
 (∃q13:OSl,zA h8 p1 1=some [.sl q13]/\
 AC Tryz.prog 449 [.sl q13,.int .i64 (zC .i64 (Int.tdiv (zC .i64 (n3-1)) 2)),.int .i64 n3] h8 λv11 h12=>v11= .tup []/\
 (True)/\I4 [.int .i64 (zC .i64 (Int.tdiv (zC .i64 (n3-1)) 2))] h12/\m5 [.int .i64 (zC .i64 (Int.tdiv (zC .i64 (n3-1)) 2))] h12<m5 [.int .i64 n3] h6))
theorem ac349 {p1:PA}{n2:Int}{h:Heap}{Q:AHp}(hk:vc349 p1 n2 h Q):AC Tryz.prog 349 [.iface 326 (.ptr (some p1)),.int .i64 n2] h Q:=
 zK (H:=zE [] [(0,[1],[])]) (by kernel_rfl) (by kernel_rfl) hk
def vc447(q1:OSl)(h:Heap)(Q:AHp):Prop:=
 Q (.int .i64 (zJ q1:Int)) h
theorem ac447 {q1:OSl}{h:Heap}{Q:AHp}(hk:vc447 q1 h Q):AC Tryz.prog 447 [.sl q1] h Q:=
 zK (H:=zE [] []) (by kernel_rfl) (by kernel_rfl) hk
def vc448(q1:OSl)(n2:Int)(n3:Int)(h:Heap)(Q:AHp):Prop:=
 vIdx q1 n2 1 λp4=>
 ∃p5:OPa,zA h p4 1=some [.ptr p5]/\
 vPtr p5 λp6=>
 ∃n7 n8:Int,∃n9 n10:Int,zA h ⟨p6.b,p6.o+0⟩ 4=some [.int .i64 n7,.int .i64 n8,.int .i64 n9,.int .i64 n10]/\
 vIdx q1 n3 1 λp11=>
 ∃p12:OPa,zA h p11 1=some [.ptr p12]/\
 vPtr p12 λp13=>
 ∃n14 n15:Int,∃n16 n17:Int,zA h ⟨p13.b,p13.o+0⟩ 4=some [.int .i64 n14,.int .i64 n15,.int .i64 n16,.int .i64 n17]/\
 AC Tryz.prog 133 [.agg [.int .i64 n7,.int .i64 n8,.int .i64 n9,.int .i64 n10],.agg [.int .i64 n14,.int .i64 n15,.int .i64 n16,.int .i64 n17]] h λv18 h19=>∃n20:Int,v18= .int .i64 n20/\
 Q (.bool (decide (n20<0))) h19
theorem ac448 {q1:OSl}{n2:Int}{n3:Int}{h:Heap}{Q:AHp}(hk:vc448 q1 n2 n3 h Q):AC Tryz.prog 448 [.sl q1,.int .i64 n2,.int .i64 n3] h Q:=
 zK (H:=zE [] []) (by kernel_rfl) (by kernel_rfl) hk
def vc449(q1:OSl)(n2:Int)(n3:Int)(h:Heap)(Q:AHp):Prop:=
 vIdx q1 n3 1 λp4=>
 ∃p5:OPa,zA h p4 1=some [.ptr p5]/\
 vIdx q1 n2 1 λp6=>
 ∃p7:OPa,zA h p6 1=some [.ptr p7]/\
 vIdx q1 n2 1 λp8=>
 zL h p8 [.ptr p5] λh9=>
 vIdx q1 n3 1 λp10=>
 zL h9 p10 [.ptr p7] λh11=>
 Q (.tup []) h11
theorem ac449 {q1:OSl}{n2:Int}{n3:Int}{h:Heap}{Q:AHp}(hk:vc449 q1 n2 n3 h Q):AC Tryz.prog 449 [.sl q1,.int .i64 n2,.int .i64 n3] h Q:=
 zK (H:=zE [] []) (by kernel_rfl) (by kernel_rfl) hk
def vc450(p1:OPa)(h:Heap)(Q:AHp):Prop:=
 vPtr p1 λp2=>
 ∃q3:OSl,zA h ⟨p2.b,p2.o+0⟩ 1=some [.sl q3]/\
 vif ((zJ q3:Int)==0)
 (Q (.int .i64 4) h)
 (vPtr p1 λp4=>
 ∃q5:OSl,zA h ⟨p4.b,p4.o+0⟩ 1=some [.sl q5]/\
 zW 4 q5 1 none none λq6=>
 vPtr p1 λp7=>
 zL h ⟨p7.b,p7.o+0⟩ [.sl q6] λh8=>
 Q (.int .i64 0) h8)
theorem ac450 {p1:OPa}{h:Heap}{Q:AHp}(hk:vc450 p1 h Q):AC Tryz.prog 450 [.ptr p1] h Q:=
 zK (H:=zE [] []) (by kernel_rfl) (by kernel_rfl) hk
def vc451(p1:OPa)(h:Heap)(Q:AHp):Prop:=
 vPtr p1 λp2=>
 ∃q3:OSl,zA h ⟨p2.b,p2.o+0⟩ 1=some [.sl q3]/\
 vif ((zJ q3:Int)==0)
 (Q (.tup [.agg [.int .i64 0,.int .i64 0,.int .i64 0,.int .i64 0],.bool false]) h)
 (vPtr p1 λp4=>
 ∃q5:OSl,zA h ⟨p4.b,p4.o+0⟩ 1=some [.sl q5]/\
 vIdx q5 0 4 λp6=>
 ∃n7 n8:Int,∃n9 n10:Int,zA h p6 4=some [.int .i64 n7,.int .i64 n8,.int .i64 n9,.int .i64 n10]/\
 Q (.tup [.agg [.int .i64 n7,.int .i64 n8,.int .i64 n9,.int .i64 n10],.bool true]) h)
theorem ac451 {p1:OPa}{h:Heap}{Q:AHp}(hk:vc451 p1 h Q):AC Tryz.prog 451 [.ptr p1] h Q:=
 zK (H:=zE [2] []) (by kernel_rfl) (by kernel_rfl) hk
def vc452(p1:OPa)(h:Heap)(Q:AHp):Prop:=
 vPtr p1 λp2=>
 ∃q3:OSl,zA h p2 1=some [.sl q3]/\
 vPtr p1 λp4=>
 ∃q5:OSl,zA h p4 1=some [.sl q5]/\
 vIdx q5 (zC .i64 ((zJ q3:Int) - 1)) 1 λp6=>
 ∃p7:OPa,zA h p6 1=some [.ptr p7]/\
 vPtr p1 λp8=>
 ∃q9:OSl,zA h p8 1=some [.sl q9]/\
 zW 1 q9 0 (some (zC .i64 ((zJ q3:Int) - 1))) none λq10=>
 vPtr p1 λp11=>
 zL h p11 [.sl q10] λh12=>
 Q (.iface 391 (.ptr p7)) h12
theorem ac452 {p1:OPa}{h:Heap}{Q:AHp}(hk:vc452 p1 h Q):AC Tryz.prog 452 [.ptr p1] h Q:=
 zK (H:=zE [] []) (by kernel_rfl) (by kernel_rfl) hk
def vc4(q1:OSl)(n2:Int)(q3:OSl)(q4:OSl)(h:Heap)(Q:AHp):Prop:=
 AC Tryz.prog 12 [.int .i64 16384,.str [115],.int .i64 n2,.int .i64 0] h λv5 h6=>∃p7:OPa,v5= .ptr p7/\
 AC Tryz.prog 12 [.int .i64 16384,.str [116],.int .i64 4096,.int .i64 9] h6 λv8 h9=>∃p10:OPa,v8= .ptr p10/\
 AC Tryz.prog 13 [] h9 λv11 h12=>∃b13:Bool,v11= .bool b13/\
 vif (!b13)
 (AC Tryz.prog 13 [] h12 λv14 h15=>∃b16:Bool,v14= .bool b16/\
 Q (.bool b16) h15)
 (vif (p7.isNone)
 (AC Tryz.prog 13 [] h12 λv17 h18=>∃b19:Bool,v17= .bool b19/\
 Q (.bool b19) h18)
 (vif (p10.isNone)
 (AC Tryz.prog 13 [] h12 λv20 h21=>∃b22:Bool,v20= .bool b22/\
 Q (.bool b22) h21)
 (vif (decide ((zJ q1:Int)>60))
 (AC Tryz.prog 13 [] h12 λv23 h24=>∃b25:Bool,v23= .bool b25/\
 Q (.bool b25) h24)
 (vif (decide ((zJ q3:Int)>60))
 (AC Tryz.prog 13 [] h12 λv26 h27=>∃b28:Bool,v26= .bool b28/\
 Q (.bool b28) h27)
 (vif (decide ((zJ q4:Int)>60))
 (AC Tryz.prog 13 [] h12 λv29 h30=>∃b31:Bool,v29= .bool b31/\
 Q (.bool b31) h30)
 (∃(I33:LHp) (m34:LHn),I33 [.int .i64 0] h12/\
 ∀n32:Int,∀h35:Heap,I33 [.int .i64 n32] h35->
 vif (decide (n32<(zJ q1:Int)))
 (AC Tryz.prog 22 [.sl q4,.int .i64 n32] h35 λv36 h37=>∃b38:Bool,v36= .bool b38/\
 vif b38
 (vPtr p7 λp39=>
 ∃p40:OPa,zA h37 ⟨p39.b,p39.o+2⟩ 1=some [.ptr p40]/\
 AC Tryz.prog 16 [.ptr p40] h37 λv41 h42=>∃n43:Int,v41= .int .i64 n43/\
 vif (n43 !=0)
 (Q (.bool false) h42)
 (AC Tryz.prog 22 [.sl q3,.int .i64 n32] h42 λv44 h45=>∃b46:Bool,v44= .bool b46/\
 vif b46
 (vPtr p7 λp47=>
 ∃p48:OPa,zA h45 ⟨p47.b,p47.o+2⟩ 1=some [.ptr p48]/\
 AC Tryz.prog 15 [.ptr p48] h45 λv49 h50=>∃n51:Int,v49= .int .i64 n51/\
 vif (n51==31)
 (vPtr p7 λp52=>
 ∃p53:OPa,zA h50 ⟨p52.b,p52.o+2⟩ 1=some [.ptr p53]/\
 AC Tryz.prog 23 [.ptr p53] h50 λv54 h55=>∃q56:OSl,v54= .sl q56/\
 Q (.bool ((zJ q56:Int)==32)) h55)
 (vif (n51 !=0)
 (Q (.bool false) h50)
 (vPtr p7 λp57=>
 ∃p58:OPa,zA h50 ⟨p57.b,p57.o+2⟩ 1=some [.ptr p58]/\
 vIdx q1 n32 4 λp59=>
 ∃n60 n61:Int,∃n62 n63:Int,zA h50 p59 4=some [.int .i64 n60,.int .i64 n61,.int .i64 n62,.int .i64 n63]/\
 AC Tryz.prog 14 [.ptr p58,.agg [.int .i64 n60,.int .i64 n61,.int .i64 n62,.int .i64 n63]] h50 λv64 h65=>∃n66:Int,v64= .int .i64 n66/\
 vif (n66==31)
 (vPtr p7 λp67=>
 ∃p68:OPa,zA h65 ⟨p67.b,p67.o+2⟩ 1=some [.ptr p68]/\
 AC Tryz.prog 24 [.ptr p68] h65 λv69 h70=>∃n71:Int,v69= .int .i64 n71/\
 Q (.bool (n71==n2)) h70)
 (vPtr p10 λp72=>
 ∃p73:OPa,zA h65 ⟨p72.b,p72.o+2⟩ 1=some [.ptr p73]/\
 vIdx q1 n32 4 λp74=>
 ∃n75 n76:Int,∃n77 n78:Int,zA h65 p74 4=some [.int .i64 n75,.int .i64 n76,.int .i64 n77,.int .i64 n78]/\
 AC Tryz.prog 14 [.ptr p73,.agg [.int .i64 n75,.int .i64 n76,.int .i64 n77,.int .i64 n78]] h65 λv79 h80=>∃n81:Int,v79= .int .i64 n81/\
 vif (n66 !=n81)
 (Q (.bool false) h80)
 ((True)/\I33 [.int .i64 (zC .i64 (n32+1))] h80/\m34 [.int .i64 (zC .i64 (n32+1))] h80<m34 [.int .i64 n32] h35)))))
 (vPtr p7 λp82=>
 ∃p83:OPa,zA h45 ⟨p82.b,p82.o+2⟩ 1=some [.ptr p83]/\
 vIdx q1 n32 4 λp84=>
 ∃n85 n86:Int,∃n87 n88:Int,zA h45 p84 4=some [.int .i64 n85,.int .i64 n86,.int .i64 n87,.int .i64 n88]/\
 AC Tryz.prog 14 [.ptr p83,.agg [.int .i64 n85,.int .i64 n86,.int .i64 n87,.int .i64 n88]] h45 λv89 h90=>∃n91:Int,v89= .int .i64 n91/\
 vif (n91==31)
 (vPtr p7 λp92=>
 ∃p93:OPa,zA h90 ⟨p92.b,p92.o+2⟩ 1=some [.ptr p93]/\
 AC Tryz.prog 24 [.ptr p93] h90 λv94 h95=>∃n96:Int,v94= .int .i64 n96/\
 Q (.bool (n96==n2)) h95)
 (vPtr p10 λp97=>
 ∃p98:OPa,zA h90 ⟨p97.b,p97.o+2⟩ 1=some [.ptr p98]/\
 vIdx q1 n32 4 λp99=>
 ∃n100 n101:Int,∃n102 n103:Int,zA h90 p99 4=some [.int .i64 n100,.int .i64 n101,.int .i64 n102,.int .i64 n103]/\
 AC Tryz.prog 14 [.ptr p98,.agg [.int .i64 n100,.int .i64 n101,.int .i64 n102,.int .i64 n103]] h90 λv104 h105=>∃n106:Int,v104= .int .i64 n106/\
 vif (n91 !=n106)
 (Q (.bool false) h105)
 ((True)/\I33 [.int .i64 (zC .i64 (n32+1))] h105/\m34 [.int .i64 (zC .i64 (n32+1))] h105<m34 [.int .i64 n32] h35)))))
 (AC Tryz.prog 22 [.sl q3,.int .i64 n32] h37 λv107 h108=>∃b109:Bool,v107= .bool b109/\
 vif b109
 (vPtr p7 λp110=>
 ∃p111:OPa,zA h108 ⟨p110.b,p110.o+2⟩ 1=some [.ptr p111]/\
 AC Tryz.prog 15 [.ptr p111] h108 λv112 h113=>∃n114:Int,v112= .int .i64 n114/\
 vif (n114==31)
 (vPtr p7 λp115=>
 ∃p116:OPa,zA h113 ⟨p115.b,p115.o+2⟩ 1=some [.ptr p116]/\
 AC Tryz.prog 23 [.ptr p116] h113 λv117 h118=>∃q119:OSl,v117= .sl q119/\
 Q (.bool ((zJ q119:Int)==32)) h118)
 (vif (n114 !=0)
 (Q (.bool false) h113)
 (vPtr p7 λp120=>
 ∃p121:OPa,zA h113 ⟨p120.b,p120.o+2⟩ 1=some [.ptr p121]/\
 vIdx q1 n32 4 λp122=>
 ∃n123 n124:Int,∃n125 n126:Int,zA h113 p122 4=some [.int .i64 n123,.int .i64 n124,.int .i64 n125,.int .i64 n126]/\
 AC Tryz.prog 14 [.ptr p121,.agg [.int .i64 n123,.int .i64 n124,.int .i64 n125,.int .i64 n126]] h113 λv127 h128=>∃n129:Int,v127= .int .i64 n129/\
 vif (n129==31)
 (vPtr p7 λp130=>
 ∃p131:OPa,zA h128 ⟨p130.b,p130.o+2⟩ 1=some [.ptr p131]/\
 AC Tryz.prog 24 [.ptr p131] h128 λv132 h133=>∃n134:Int,v132= .int .i64 n134/\
 Q (.bool (n134==n2)) h133)
 (vPtr p10 λp135=>
 ∃p136:OPa,zA h128 ⟨p135.b,p135.o+2⟩ 1=some [.ptr p136]/\
 vIdx q1 n32 4 λp137=>
 ∃n138 n139:Int,∃n140 n141:Int,zA h128 p137 4=some [.int .i64 n138,.int .i64 n139,.int .i64 n140,.int .i64 n141]/\
 AC Tryz.prog 14 [.ptr p136,.agg [.int .i64 n138,.int .i64 n139,.int .i64 n140,.int .i64 n141]] h128 λv142 h143=>∃n144:Int,v142= .int .i64 n144/\
 vif (n129 !=n144)
 (Q (.bool false) h143)
 ((True)/\I33 [.int .i64 (zC .i64 (n32+1))] h143/\m34 [.int .i64 (zC .i64 (n32+1))] h143<m34 [.int .i64 n32] h35)))))
 (vPtr p7 λp145=>
 ∃p146:OPa,zA h108 ⟨p145.b,p145.o+2⟩ 1=some [.ptr p146]/\
 vIdx q1 n32 4 λp147=>
 ∃n148 n149:Int,∃n150 n151:Int,zA h108 p147 4=some [.int .i64 n148,.int .i64 n149,.int .i64 n150,.int .i64 n151]/\
 AC Tryz.prog 14 [.ptr p146,.agg [.int .i64 n148,.int .i64 n149,.int .i64 n150,.int .i64 n151]] h108 λv152 h153=>∃n154:Int,v152= .int .i64 n154/\
 vif (n154==31)
 (vPtr p7 λp155=>
 ∃p156:OPa,zA h153 ⟨p155.b,p155.o+2⟩ 1=some [.ptr p156]/\
 AC Tryz.prog 24 [.ptr p156] h153 λv157 h158=>∃n159:Int,v157= .int .i64 n159/\
 Q (.bool (n159==n2)) h158)
 (vPtr p10 λp160=>
 ∃p161:OPa,zA h153 ⟨p160.b,p160.o+2⟩ 1=some [.ptr p161]/\
 vIdx q1 n32 4 λp162=>
 ∃n163 n164:Int,∃n165 n166:Int,zA h153 p162 4=some [.int .i64 n163,.int .i64 n164,.int .i64 n165,.int .i64 n166]/\
 AC Tryz.prog 14 [.ptr p161,.agg [.int .i64 n163,.int .i64 n164,.int .i64 n165,.int .i64 n166]] h153 λv167 h168=>∃n169:Int,v167= .int .i64 n169/\
 vif (n154 !=n169)
 (Q (.bool false) h168)
 ((True)/\I33 [.int .i64 (zC .i64 (n32+1))] h168/\m34 [.int .i64 (zC .i64 (n32+1))] h168<m34 [.int .i64 n32] h35)))))
 (vPtr p7 λp170=>
 ∃p171:OPa,zA h35 ⟨p170.b,p170.o+2⟩ 1=some [.ptr p171]/\
 AC Tryz.prog 19 [.ptr p171] h35 λv172 h173=>∃q174:OSl,∃n175:Int,v172= .tup [.sl q174,.int .i64 n175]/\
 vPtr p10 λp176=>
 ∃p177:OPa,zA h173 ⟨p176.b,p176.o+2⟩ 1=some [.ptr p177]/\
 AC Tryz.prog 19 [.ptr p177] h173 λv178 h179=>∃q180:OSl,∃n181:Int,v178= .tup [.sl q180,.int .i64 n181]/\
 vif (n175==0)
 (vif (n181==0)
 (AC Tryz.prog 25 [.sl q174,.sl q180] h179 λv182 h183=>∃b184:Bool,v182= .bool b184/\
 vif b184
 (vPtr p10 λp185=>
 ∃p186:OPa,zA h183 ⟨p185.b,p185.o+2⟩ 1=some [.ptr p186]/\
 AC Tryz.prog 23 [.ptr p186] h183 λv187 h188=>∃q189:OSl,v187= .sl q189/\
 vif ((zJ q189:Int)==0)
 (AC Tryz.prog 26 [.ptr none] h188 λv190 h191=>∃n192:Int,v190= .int .i64 n192/\
 Q (.bool (n192==0)) h191)
 (Q (.bool false) h188))
 (Q (.bool false) h183))
 (Q (.bool false) h179))
 (Q (.bool false) h179))))))))
theorem ac4 {q1:OSl}{n2:Int}{q3:OSl}{q4:OSl}{h:Heap}{Q:AHp}(hk:vc4 q1 n2 q3 q4 h Q):AC Tryz.prog 4 [.sl q1,.int .i64 n2,.sl q3,.sl q4] h Q:=
 zK (H:=zE [] [(0,[11],[])]) (by kernel_rfl) (by kernel_rfl) hk
def vc12(n1:Int)(s2:List UInt8)(n3:Int)(n4:Int)(h:Heap)(Q:AHp):Prop:=
 AC Tryz.prog 63 [.int .i64 n1] h λv5 h6=>∃p7:OPa,∃n8:Int,v5= .tup [.ptr p7,.int .i64 n8]/\
 AC Tryz.prog 64 [.int .i64 64] h6 λv9 h10=>∃p11:OPa,∃n12:Int,v9= .tup [.ptr p11,.int .i64 n12]/\
 AC Tryz.prog 65 [.int .i64 n1] h10 λv13 h14=>∃p15:OPa,v13= .ptr p15/\
 vif (n8 !=0)
 (Q (.ptr none) h14)
 (vif (n12 !=0)
 (Q (.ptr none) h14)
 (vif (p15.isNone)
 (Q (.ptr none) h14)
 (AC Tryz.prog 33 [.ptr p7,.ptr p11,.str s2,.int .i64 n3,.int .i64 n4] h14 λv16 h17=>∃p18:OPa,∃n19:Int,v16= .tup [.ptr p18,.int .i64 n19]/\
 AC Tryz.prog 66 [.ptr p15,.str s2,.int .i64 n3,.int .i64 n4] h17 λv20 h21=>∃p22:OPa,v20= .ptr p22/\
 vif (!((!(p18.isNone))==(!(p22.isNone))))
 (Q (.ptr none) h21)
 (vif (!((n19==0)==(!(p22.isNone))))
 (Q (.ptr none) h21)
 (vif (p22.isNone)
 (Q (.ptr none) h21)
 (PNew [.ptr p7,.ptr p11,.ptr p18,.ptr p15,.ptr p22] true h21 λa23 h24=>
 Q (.ptr (some ⟨a23,0⟩)) h24))))))
theorem ac12 {n1:Int}{s2:List UInt8}{n3:Int}{n4:Int}{h:Heap}{Q:AHp}(hk:vc12 n1 s2 n3 n4 h Q):AC Tryz.prog 12 [.int .i64 n1,.str s2,.int .i64 n3,.int .i64 n4] h Q:=
 zK (H:=zE [] []) (by kernel_rfl) (by kernel_rfl) hk
def vc22(q1:OSl)(n2:Int)(h:Heap)(Q:AHp):Prop:=
 ∃(I4:LHp) (m5:LHn),I4 [.int .i64 0] h/\
 ∀n3:Int,∀h6:Heap,I4 [.int .i64 n3] h6->
 vif (decide (n3<(zJ q1:Int)))
 (vIdx q1 n3 1 λp7=>
 ∃n8:Int,zA h6 p7 1=some [.int .i64 n8]/\
 vif (n8==n2)
 (Q (.bool true) h6)
 ((True)/\I4 [.int .i64 (zC .i64 (n3+1))] h6/\m5 [.int .i64 (zC .i64 (n3+1))] h6<m5 [.int .i64 n3] h6))
 (Q (.bool false) h6)
theorem ac22 {q1:OSl}{n2:Int}{h:Heap}{Q:AHp}(hk:vc22 q1 n2 h Q):AC Tryz.prog 22 [.sl q1,.int .i64 n2] h Q:=
 zK (H:=zE [] [(0,[5],[])]) (by kernel_rfl) (by kernel_rfl) hk
def vc65(n1:Int)(h:Heap)(Q:AHp):Prop:=
 vif (decide (n1<0))
 (Q (.ptr none) h)
 (vif (decide (n1>16384))
 (Q (.ptr none) h)
 (PNew [.sl none,.sl none,.int .i64 n1,.int .i64 (-1),.bool false] true h λa2 h3=>
 Q (.ptr (some ⟨a2,0⟩)) h3))
theorem ac65 {n1:Int}{h:Heap}{Q:AHp}(hk:vc65 n1 h Q):AC Tryz.prog 65 [.int .i64 n1] h Q:=
 zK (H:=zE [] []) (by kernel_rfl) (by kernel_rfl) hk
def vc66(p1:OPa)(s2:List UInt8)(n3:Int)(n4:Int)(h:Heap)(Q:AHp):Prop:=
 AC Tryz.prog 126 [.int .i64 n3] h λv5 h6=>∃p7:OPa,v5= .ptr p7/\
 vif (p7.isNone)
 (Q (.ptr none) h6)
 (vif (decide ((s2.length:Int)<1))
 (Q (.ptr none) h6)
 (vif (decide ((s2.length:Int)>12))
 (Q (.ptr none) h6)
 (vif (decide (n4<0))
 (Q (.ptr none) h6)
 (vif (decide (n4>1073741824))
 (Q (.ptr none) h6)
 (PNew [.ptr p1,.str s2,.ptr p7,.sl none,.int .i64 n4] true h6 λa8 h9=>
 Q (.ptr (some ⟨a8,0⟩)) h9)))))
theorem ac66 {p1:OPa}{s2:List UInt8}{n3:Int}{n4:Int}{h:Heap}{Q:AHp}(hk:vc66 p1 s2 n3 n4 h Q):AC Tryz.prog 66 [.ptr p1,.str s2,.int .i64 n3,.int .i64 n4] h Q:=
 zK (H:=zE [] []) (by kernel_rfl) (by kernel_rfl) hk
def vc67(n1:Int)(n2:Int)(h:Heap)(Q:AHp):Prop:=
 Q (.agg [.int .i64 n1,.int .i64 0,.int .i64 n2,.int .i64 0]) h
theorem ac67 {n1:Int}{n2:Int}{h:Heap}{Q:AHp}(hk:vc67 n1 n2 h Q):AC Tryz.prog 67 [.int .i64 n1,.int .i64 n2] h Q:=
 zK (H:=zE [4] []) (by kernel_rfl) (by kernel_rfl) hk
def vc126(n1:Int)(h:Heap)(Q:AHp):Prop:=
 vif (decide (n1<1))
 (Q (.ptr none) h)
 (vif (decide (n1>4096))
 (Q (.ptr none) h)
 (PNew [.sl none,.int .i64 n1,.int .i64 0] true h λa2 h3=>
 Q (.ptr (some ⟨a2,0⟩)) h3))
theorem ac126 {n1:Int}{h:Heap}{Q:AHp}(hk:vc126 n1 h Q):AC Tryz.prog 126 [.int .i64 n1] h Q:=
 zK (H:=zE [] []) (by kernel_rfl) (by kernel_rfl) hk
def vc35(q1:OSl)(q2:OSl)(h:Heap)(Q:AHp):Prop:=
 vif ((zJ q1:Int)!=(zJ q2:Int))
 (Q (.bool false) h)
 (∃(I4:LHp) (m5:LHn),I4 [.int .i64 0] h/\
 ∀n3:Int,∀h6:Heap,I4 [.int .i64 n3] h6->
 vif (decide (n3<(zJ q1:Int)))
 (vIdx q1 n3 2 λp7=>
 ∃n8 n9:Int,zA h6 p7 2=some [.int .i64 n8,.int .i64 n9]/\
 vIdx q2 n3 2 λp10=>
 ∃n11 n12:Int,zA h6 p10 2=some [.int .i64 n11,.int .i64 n12]/\
 vif (!((n8==n11)&&((n9==n12)&&true)))
 (Q (.bool false) h6)
 ((True)/\I4 [.int .i64 (zC .i64 (n3+1))] h6/\m5 [.int .i64 (zC .i64 (n3+1))] h6<m5 [.int .i64 n3] h6))
 (Q (.bool true) h6))
theorem ac35 {q1:OSl}{q2:OSl}{h:Heap}{Q:AHp}(hk:vc35 q1 q2 h Q):AC Tryz.prog 35 [.sl q1,.sl q2] h Q:=
 zK (H:=zE [] [(0,[5],[])]) (by kernel_rfl) (by kernel_rfl) hk
def vc13(h:Heap)(Q:AHp):Prop:=
 AC Tryz.prog 12 [.int .i64 100,.str [115],.int .i64 2,.int .i64 0] h λv1 h2=>∃p3:OPa,v1= .ptr p3/\
 vif (p3.isNone)
 (Q (.bool false) h2)
 (vPtr p3 λp4=>
 ∃p5:OPa,zA h2 ⟨p4.b,p4.o+2⟩ 1=some [.ptr p5]/\
 vPtr p3 λp6=>
 ∃p7:OPa,zA h2 ⟨p6.b,p6.o+2⟩ 1=some [.ptr p7]/\
 vPtr p3 λp8=>
 ∃p9:OPa,zA h2 ⟨p8.b,p8.o+2⟩ 1=some [.ptr p9]/\
 AC Tryz.prog 67 [.int .i64 1,.int .i64 5] h2 λv10 h11=>∃n12 n13:Int,∃n14 n15:Int,v10= .agg [.int .i64 n12,.int .i64 n13,.int .i64 n14,.int .i64 n15]/\
 (∃p131:OPa,zA h11 ⟨p8.b,p8.o+2⟩ 1=some [.ptr p131]/\
 LV.val (.ptr p131)=LV.val (.ptr p9))/\
 (∃p130:OPa,zA h11 ⟨p6.b,p6.o+2⟩ 1=some [.ptr p130]/\
 LV.val (.ptr p130)=LV.val (.ptr p7))/\
 (∃p129:OPa,zA h11 ⟨p4.b,p4.o+2⟩ 1=some [.ptr p129]/\
 LV.val (.ptr p129)=LV.val (.ptr p5))/\
 AC Tryz.prog 14 [.ptr p5,.agg [.int .i64 n12,.int .i64 n13,.int .i64 n14,.int .i64 n15]] h11 λv16 h17=>∃n18:Int,v16= .int .i64 n18/\
 (∃p128:OPa,zA h17 ⟨p8.b,p8.o+2⟩ 1=some [.ptr p128]/\
 LV.val (.ptr p128)=LV.val (.ptr p9))/\
 (∃p127:OPa,zA h17 ⟨p6.b,p6.o+2⟩ 1=some [.ptr p127]/\
 LV.val (.ptr p127)=LV.val (.ptr p7))/\
 AC Tryz.prog 67 [.int .i64 0,.int .i64 7] h17 λv19 h20=>∃n21 n22:Int,∃n23 n24:Int,v19= .agg [.int .i64 n21,.int .i64 n22,.int .i64 n23,.int .i64 n24]/\
 (∃p126:OPa,zA h20 ⟨p8.b,p8.o+2⟩ 1=some [.ptr p126]/\
 LV.val (.ptr p126)=LV.val (.ptr p9))/\
 (∃p125:OPa,zA h20 ⟨p6.b,p6.o+2⟩ 1=some [.ptr p125]/\
 LV.val (.ptr p125)=LV.val (.ptr p7))/\
 AC Tryz.prog 14 [.ptr p7,.agg [.int .i64 n21,.int .i64 n22,.int .i64 n23,.int .i64 n24]] h20 λv25 h26=>∃n27:Int,v25= .int .i64 n27/\
 (∃p124:OPa,zA h26 ⟨p8.b,p8.o+2⟩ 1=some [.ptr p124]/\
 LV.val (.ptr p124)=LV.val (.ptr p9))/\
 AC Tryz.prog 67 [.int .i64 1,.int .i64 3] h26 λv28 h29=>∃n30 n31:Int,∃n32 n33:Int,v28= .agg [.int .i64 n30,.int .i64 n31,.int .i64 n32,.int .i64 n33]/\
 (∃p123:OPa,zA h29 ⟨p8.b,p8.o+2⟩ 1=some [.ptr p123]/\
 LV.val (.ptr p123)=LV.val (.ptr p9))/\
 AC Tryz.prog 14 [.ptr p9,.agg [.int .i64 n30,.int .i64 n31,.int .i64 n32,.int .i64 n33]] h29 λv34 h35=>∃n36:Int,v34= .int .i64 n36/\
 vPtr p3 λp37=>
 ∃p38:OPa,zA h35 ⟨p37.b,p37.o+2⟩ 1=some [.ptr p38]/\
 AC Tryz.prog 27 [.ptr p38,.agg [.int .i64 1,.int .i64 0]] h35 λv39 h40=>∃q41:OSl,∃n42:Int,v39= .tup [.sl q41,.int .i64 n42]/\
 vPtr p3 λp43=>
 ∃p44:OPa,zA h40 ⟨p43.b,p43.o+2⟩ 1=some [.ptr p44]/\
 AC Tryz.prog 23 [.ptr p44] h40 λv45 h46=>∃q47:OSl,v45= .sl q47/\
 vPtr p3 λp48=>
 ∃p49:OPa,zA h46 ⟨p48.b,p48.o+2⟩ 1=some [.ptr p49]/\
 AC Tryz.prog 15 [.ptr p49] h46 λv50 h51=>∃n52:Int,v50= .int .i64 n52/\
 vPtr p3 λp53=>
 ∃p54:OPa,zA h51 ⟨p53.b,p53.o+2⟩ 1=some [.ptr p54]/\
 AC Tryz.prog 16 [.ptr p54] h51 λv55 h56=>∃n57:Int,v55= .int .i64 n57/\
 vPtr p3 λp58=>
 ∃p59:OPa,zA h56 ⟨p58.b,p58.o+2⟩ 1=some [.ptr p59]/\
 AC Tryz.prog 23 [.ptr p59] h56 λv60 h61=>∃q62:OSl,v60= .sl q62/\
 vPtr p3 λp63=>
 ∃p64:OPa,zA h61 ⟨p63.b,p63.o+2⟩ 1=some [.ptr p64]/\
 PNew [.int .i64 2,.int .i64 0] true h61 λa65 h66=>
 AC Tryz.prog 17 [.ptr p64,.sl (some ⟨a65,0,1,1,0⟩)] h66 λv67 h68=>∃n69 n70:Int,v67= .tup [.int .i64 n69,.int .i64 n70]/\
 vPtr p3 λp71=>
 ∃p72:OPa,zA h68 ⟨p71.b,p71.o+0⟩ 1=some [.ptr p72]/\
 vPtr p3 λp73=>
 ∃p74:OPa,zA h68 ⟨p73.b,p73.o+1⟩ 1=some [.ptr p74]/\
 AC Tryz.prog 33 [.ptr p72,.ptr p74,.str [],.int .i64 2,.int .i64 0] h68 λv75 h76=>∃p77:OPa,∃n78:Int,v75= .tup [.ptr p77,.int .i64 n78]/\
 vPtr p3 λp79=>
 ∃p80:OPa,zA h76 ⟨p79.b,p79.o+1⟩ 1=some [.ptr p80]/\
 AC Tryz.prog 33 [.ptr none,.ptr p80,.str [115],.int .i64 2,.int .i64 0] h76 λv81 h82=>∃p83:OPa,∃n84:Int,v81= .tup [.ptr p83,.int .i64 n84]/\
 vif (n18==0)
 (vif (n27==0)
 (vif (n36==0)
 (vif (n42==0)
 (PNew [.int .i64 3,.int .i64 0,.int .i64 5,.int .i64 0] true h82 λa85 h86=>
 AC Tryz.prog 35 [.sl q41,.sl (some ⟨a85,0,2,2,0⟩)] h86 λv87 h88=>∃b89:Bool,v87= .bool b89/\
 vif b89
 (vif ((zJ q47:Int)==1)
 (vIdx q47 0 3 λp90=>
 ∃s91:List UInt8,∃n92 n93:Int,zA h88 p90 3=some [.str s91,.int .i64 n92,.int .i64 n93]/\
 vif ((s91== [115,46,48])&&((n92==1)&&((n93==2)&&true)))
 (vif (n52==0)
 (vif (n57==0)
 (vif ((zJ q62:Int)==1)
 (vIdx q62 0 3 λp94=>
 ∃s95:List UInt8,∃n96 n97:Int,zA h88 p94 3=some [.str s95,.int .i64 n96,.int .i64 n97]/\
 vif ((s95== [115,46,50])&&((n96==2097153)&&((n97==3)&&true)))
 (vif (n69==3)
 (vif (n70==0)
 (vPtr p3 λp98=>
 ∃p99:OPa,zA h88 ⟨p98.b,p98.o+2⟩ 1=some [.ptr p99]/\
 AC Tryz.prog 26 [.ptr p99] h88 λv100 h101=>∃n102:Int,v100= .int .i64 n102/\
 vif (n102==0)
 (vPtr p3 λp103=>
 ∃p104:OPa,zA h101 ⟨p103.b,p103.o+2⟩ 1=some [.ptr p104]/\
 AC Tryz.prog 24 [.ptr p104] h101 λv105 h106=>∃n107:Int,v105= .int .i64 n107/\
 vif (n107==0)
 (vPtr p3 λp108=>
 ∃p109:OPa,zA h106 ⟨p108.b,p108.o+2⟩ 1=some [.ptr p109]/\
 AC Tryz.prog 30 [.ptr p109] h106 λv110 h111=>∃n112:Int,v110= .int .i64 n112/\
 vif (n112==3)
 (vPtr p3 λp113=>
 ∃p114:OPa,zA h111 ⟨p113.b,p113.o+0⟩ 1=some [.ptr p114]/\
 AC Tryz.prog 62 [.ptr p114] h111 λv115 h116=>∃q117:OSl,v115= .sl q117/\
 vif ((zJ q117:Int)==0)
 (vPtr p3 λp118=>
 ∃p119:OPa,zA h116 ⟨p118.b,p118.o+2⟩ 1=some [.ptr p119]/\
 AC Tryz.prog 29 [.ptr p119] h116 λv120 h121=>∃n122:Int,v120= .int .i64 n122/\
 vif (n122==0)
 (vif (n78==1)
 (Q (.bool (n84==6)) h121)
 (Q (.bool false) h121))
 (Q (.bool false) h121))
 (Q (.bool false) h116))
 (Q (.bool false) h111))
 (Q (.bool false) h106))
 (Q (.bool false) h101))
 (Q (.bool false) h88))
 (Q (.bool false) h88))
 (Q (.bool false) h88))
 (Q (.bool false) h88))
 (Q (.bool false) h88))
 (Q (.bool false) h88))
 (Q (.bool false) h88))
 (Q (.bool false) h88))
 (Q (.bool false) h88))
 (Q (.bool false) h82))
 (Q (.bool false) h82))
 (Q (.bool false) h82))
 (Q (.bool false) h82))
theorem ac13 {h:Heap}{Q:AHp}(hk:vc13 h Q):AC Tryz.prog 13 [] h Q:=
 AC_byF (H:=zE [] []) (by kernel_rfl) (by kernel_rfl) hk
end Go.Proofs
