import Derived.Test.YtafmabnolelknaaGreatDoorDG8
import Derived.WalkKit
import Derived.ProofKit
import Derived.JoinedCond
import Derived.Carry
import Derived.Lib.SmallJoins
namespace Go.Ab
open Go.ChangeShapes Go.WideShapes Go.ChangeAt Go.RowKit
set_option linter.unusedSimpArgs false
set_option linter.unusedVariables false
section
variable{H:Type}{enc:TypeId×Value->H}{P:Program}
theorem zDA (hl:laidOutB P=true){W W':World}(hb:Below W.heap.size W W'){sp:Nat->Bool}:∀{ts:List TypeId} {vs:List Value} {ds:List (DataW H)} {ps:List MemPlace},
  (∀t∈ts,P.readableRec t=true/\t<P.types.size)->DataW.TrodAll enc P W 0 (λ_=>true) true ts vs ds ps->(∀x∈ps,x.block<W.heap.size)->(∀x∈ps,sp x.block=true)->DataW.TrodAll enc P W' 0 sp true ts vs ds ps
 | [],vs,ds,ps,ht,h,h1,h2=>by
  obtain⟨rfl,rfl,rfl⟩:=trodAll_nil h
  exact h
 |t::ts,vs,ds,ps,ht,h,h1,h2=>by
  obtain⟨v,vs1,d,ds1,a,b,rfl,rfl,rfl,h3,h4⟩:=trodAll_cons h
  exact⟨a,b,WideElems.Trod_stays hl (ht t (by simp)).1 (ht t (by simp)).2 h3 (λx hx=>hb.same (h1 x (by simp[hx]))) (λx hx=>h2 x (by simp[hx])),
   zDA hl hb (λt' ht'=>ht t' (by simp[ht'])) h4 (λx hx=>h1 x (by simp[hx])) (λx hx=>h2 x (by simp[hx])),rfl⟩
def zJT(P:Program)(ts:List TypeId):Bool:=laidOutB P&&ts.all λt=>P.readableRec t&&decide (t<P.types.size)
theorem zTJ {f:Func}{s:ChangeSpec}{apart fresh handsOn again:Bool}{W W':World}{args:Array Value}{ds gs:List (DataW H)}{before:List MemPlace}{t:TypeId}
  (hW:DataW.Whole enc P f.params.toList s.vars apart W args.toList ds gs before)(hv:s.vars=[])(hfn:s.fn H (ds++gs)={results:=[.lit (.bool true)],args:=ds})(hr:f.resultTypes= #[t])(ht:P.underlying t=some .bool)
  (hrd:zJT P f.params.toList=true)(hb:Below W.heap.size W W'):s.post enc P f apart fresh handsOn again W args (.bool true) W':=by
 have hW':=hW
 obtain⟨p,q,hA,hV,rfl,hz,hn⟩:=hW
 rw[hv] at hV
 obtain⟨rfl,rfl⟩:=trodVars_none hV
 simp only[zJT,Bool.and_eq_true,List.all_eq_true,decide_eq_true_eq] at hrd
 have hlt:∀x∈p,x.block<W.heap.size:=λx hx=>hW'.lt x (by simp[hx])
 have hargs:∀sp:Nat->Bool,(∀x∈p++[],sp x.block=true)->DataW.TrodAll enc P W' 0 sp true f.params.toList args.toList (s.fn H (ds++[])).args p:=by
  intro sp hsp
  rw[hfn]
  exact zDA hrd.1 hb hrd.2 hA hlt λx hx=>hsp x (by simp[hx])
 have hres:∀(b:Nat) (sp:Nat->Bool) (hd:Bool),DataW.TrodAll enc P W' b sp hd f.resultTypes.toList ((Value.bool true).resultList f.resultTypes.size) (s.fn H (ds++[])).results []:=by
  intro b sp hd
  rw[hfn,hr]
  exact trodAll_cons_mk (shut_bool ht _) trodAll_mk0
 have hvars:∀sp:Nat->Bool,DataW.TrodVars enc P W' sp s.vars (s.fn H (ds++[])).vars []:=by
  intro sp
  rw[hfn,hv]
  rfl
 have hold:∀x∈p++[],(λb=>decide (b<W.heap.size)) x.block=true:=λx hx=>by simpa using hlt x (by simpa using hx)
 refine⟨ds,[],p++[],[],p,[],hW',hres _ _ _,hargs _ hold,hvars _,hb.frame _,λ_=> ?_⟩
 refine⟨?_,_,_,([]++p)++[],⟨[]++p,[],trodAll_append (hargs _ (λ_ _=>rfl)) (hres _ _ _),hvars _,rfl,?_,?_⟩,?_⟩
 ·intro j t' r h1 h2
  rw[hr] at h1 h2
  match j,h1,h2 with
  |0,h1,h2=>
   simp[Value.resultList] at h1 h2
   subst h1;subst h2
   exact okWide_bool_mk ht _
 ·intro b off hp
  have:(MemPlace.cell b off)∈p:=by simpa using hp
  rw[hb.frozen (hlt _ this)]
  exact hz b off (by simpa using this)
 ·intro ha
  have:=hn ha
  simpa using this
 ·intro x hx _
  simpa using hx
theorem zMD {f:FuncId}{xs:List AV}{h:Heap}{μ:Ren}{W:World}{args:Array Value}(H:AC P f xs h λv _=>v= .bool true)(hh:HRel μ h W)(hx:relL μ xs args.toList)
  (hro:∀(b:Nat) (B:Blk),h[b]?=some B->B.rw=false):Calls P f args W λe W'=>e= .returned (.bool true)/\Below W.heap.size W W':=by
 have:=H.2 μ W args.toList hh hx
 simp only[Array.toArray_toList] at this
 refine this.mono λe W' ⟨v,x,h',μ',he,hq,ev,_,hr⟩=> ?_
 subst hq
 obtain rfl:v= .bool true:=hr
 refine⟨he,ev.os,ev.tape,ev.output,ev.size,λk hk=>ev.frame k hk λb B e' hb hrw _=> ?_⟩
 rw[hro b B hb] at hrw
 cases hrw
end
section
variable{P:Program}{W:World}{r:Reach}{base:Nat}
theorem zPJ {u e:TypeId}{x:Value}(hu:P.underlying u=some (.slice e))(h:Cell.okWide P W r base u x):x= .slice none 0 0∨∃b o len cap,x= .slice (some ⟨b,o,none⟩) len cap/\len<=cap/\b<W.heap.size:=by
 unfold Cell.okWide at h
 rw[hu] at h
 cases x
 case slice a len cap=>
  simp only[Cell.ok,hu] at h
  cases a with
  |none=>
   left
   split at h<;>simp_all
  |some a=>
   right
   simp only at h
   obtain⟨h1,_,_,h2,row,cells,h3,_⟩:=h
   obtain⟨b,o,sp⟩:=a
   simp only at h2 h3
   subst h2
   refine⟨b,o,len,cap,rfl,h1,?_⟩
   unfold World.shape? at h3
   split at h3
   ·rename_i hb;exact kW hb
   ·cases h3
 all_goals simp[Cell.ok,hu] at h
end
end Go.Ab

namespace Go.Ab
set_option linter.unusedSimpArgs false
set_option linter.unusedVariables false
inductive T(α:Type) where
 |e
 |n (v:α) (l r:T α)
namespace T
variable{α:Type}
def get:T α->Nat->Option α
 | .e,_=>none
 | .n v l r,i=>match i with
  |0=>some v
  |i+1=>match Nat.beq (i%2) 0 with
   |true=>l.get (i/2)
   |false=>r.get (i/2)
def put:T α->Nat->α->(T α->Bool)->Bool
 | .e,_,_,_=>false
 | .n v l r,i,x,k=>match i with
  |0=>k (.n x l r)
  |i+1=>match Nat.beq (i%2) 0 with
   |true=>l.put (i/2) x λl'=>k (.n v l' r)
   |false=>r.put (i/2) x λr'=>k (.n v l r')
def add:T α->Nat->α->(T α->Bool)->Bool
 | .e,i,x,k=>match i with
  |0=>k (.n x .e .e)
  |_+1=>false
 | .n v l r,i,x,k=>match i with
  |0=>false
  |i+1=>match Nat.beq (i%2) 0 with
   |true=>l.add (i/2) x λl'=>k (.n v l' r)
   |false=>r.add (i/2) x λr'=>k (.n v l r')
end T
def tk{α:Type}:List α->Nat->Nat->(List α->Bool)->Bool
 | [],o,n,k=>match o with |0=>(match n with |0=>k []|_+1=>false)|_+1=>false
 |x::c,o,n,k=>match o with
  |o+1=>tk c o n k
  |0=>match n with |0=>k []|n+1=>tk c 0 n λl=>k (x::l)
end Go.Ab
namespace Go.Ab
set_option linter.unusedVariables false
structure EH where
 t:T Blk
 n:Nat
abbrev ECall:=FuncId->List AV->EH->(AV->EH->Bool)->Bool
end Go.Ab

namespace Go.Ab
set_option linter.unusedSimpArgs false
set_option linter.unusedVariables false
mutual
def avEq:AV->AV->Bool
 | .int k a,.int k' b=>decide (k=k')&&a==b
 | .bool a,.bool b=>a==b
 | .str a,.str b=>a==b
 | .ptr none,.ptr none=>true
 | .ptr (some p),.ptr (some q)=>p.b==q.b&&p.o==q.o
 | .sl none,.sl none=>true
 | .sl (some s),.sl (some t)=>s.b==t.b&&s.o==t.o&&s.len==t.len&&s.cap==t.cap&&s.opn==t.opn
 | .map none,.map none=>true
 | .map (some a),.map (some b)=>a==b
 | .nilfunc,.nilfunc=>true
 | .niliface,.niliface=>true
 | .iface t v,.iface u w=>t==u&&avEq v w
 | .agg a,.agg b=>zPN a b
 | .tup a,.tup b=>zPN a b
 |_,_=>false
def zPN:List AV->List AV->Bool
 | [],[]=>true
 |x::xs,y::ys=>avEq x y&&zPN xs ys
 |_,_=>false
end
mutual
theorem zSM:∀(a b:AV),avEq a b=true->a=b
 | .int k a,b,h=>by cases b<;>simp[avEq] at h;obtain⟨h1,h2⟩:=h;subst h1;subst h2;rfl
 | .bool a,b,h=>by cases b<;>simp[avEq] at h;subst h;rfl
 | .str a,b,h=>by cases b<;>simp[avEq] at h;subst h;rfl
 | .ptr none,b,h=>by
  cases b
  case ptr p=>cases p with
   |none=>rfl
   |some p=>simp[avEq] at h
  all_goals simp[avEq] at h
 | .ptr (some p),b,h=>by
  cases b
  case ptr q=>cases q with
   |none=>simp[avEq] at h
   |some q=>cases p;cases q;simp[avEq] at h;simp_all
  all_goals simp[avEq] at h
 | .sl none,b,h=>by
  cases b
  case sl p=>cases p with
   |none=>rfl
   |some p=>simp[avEq] at h
  all_goals simp[avEq] at h
 | .sl (some p),b,h=>by
  cases b
  case sl q=>cases q with
   |none=>simp[avEq] at h
   |some q=>cases p;cases q;simp[avEq] at h;simp_all
  all_goals simp[avEq] at h
 | .map none,b,h=>by
  cases b
  case map p=>cases p with
   |none=>rfl
   |some p=>simp[avEq] at h
  all_goals simp[avEq] at h
 | .map (some p),b,h=>by
  cases b
  case map q=>cases q with
   |none=>simp[avEq] at h
   |some q=>simp[avEq] at h;subst h;rfl
  all_goals simp[avEq] at h
 | .func _ _ _,b,h=>by cases b<;>simp[avEq] at h
 | .nilfunc,b,h=>by cases b<;>simp[avEq] at h;rfl
 | .niliface,b,h=>by cases b<;>simp[avEq] at h;rfl
 | .iface t v,b,h=>by
  cases b<;>simp[avEq] at h
  obtain⟨h1,h2⟩:=h
  rw[h1,zSM _ _ h2]
 | .agg a,b,h=>by
  cases b<;>simp[avEq] at h
  rw[zI0 _ _ h]
 | .tup a,b,h=>by
  cases b<;>simp[avEq] at h
  rw[zI0 _ _ h]
theorem zI0:∀(a b:List AV),zPN a b=true->a=b
 | [],b,h=>by cases b<;>simp[zPN] at h;rfl
 |x::xs,b,h=>by
  cases b<;>simp[zPN] at h
  rw[zSM _ _ h.1,zI0 _ _ h.2]
end
section
variable{P:Program}{call:ECall}
theorem least {p:Nat->Prop}:(∃n,p n)->∃n,p n/\∀m,p m->n<=m:=by
 intro⟨n,hn⟩
 induction n using Nat.strongRecOn with
 |ind n ih=>
  by_cases h:∃m,m<n/\p m
  ·obtain⟨m,h1,h2⟩:=h
   exact ih m h1 h2
  ·exact⟨n,hn,λm hm=>by
    rcases Nat.lt_or_ge m n with h1|h1
    ·exact(h ⟨m,h1,hm⟩).elim
    ·exact h1⟩
end
end Go.Ab
namespace Go.Ab
def zC0:List (AV×AV×Nat)->Option (List (List UInt8))
 | []=>some []
 |(.str s,_,_)::es=>(match zC0 es with |some l=>some (s::l)|none=>none)
 |_=>none
end Go.Ab



