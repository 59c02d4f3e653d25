/- The G-machine, part 1: an evaluator of translated code on typed values, and that it is sound. No conditions. -/
import Derived.Orders
import Derived.Laws.CopyRow
import Derived.Laws.Entries
import Derived.Laws.Rows
import Derived.ChangeKeysEq
import Derived.Laws.Cover3
import Derived.Lib.SliceRun
import Derived.Laws.BytesArg
import Derived.Laws.BytesString
import Derived.Laws.AppendOwn
namespace Go.Gm
abbrev BA:=ByteArray
theorem aU{α:Type _}{p:α→Prop}{a:α}{l:List α}:(∀ x∈a::l,p x)↔p a∧∀x∈l,p x:=List.forall_mem_cons
theorem gD{α:Type _}{p:α→Prop}:∀x∈([]:List α),p x:=List.forall_mem_nil p
structure p5 where
 a:Option Addr
 n:Nat
 c:Nat
structure aj where
 name:BA
 kind:Int
 goal:Int
structure aB where
 up:Int
 down:Int
 bU:Int
 bm:Int
structure aF where
 key:BA
 text:BA
structure ae where
 name:BA
 target:BA
 low:Int
 high:Int
 aq:List aj
 aD:aB
 notes:List aF
structure af where
 order:ae
 ver:Int
structure ai where
 items:List af
 next:Int
structure ag where
 seq:Int
 kind:Int
 item:af
structure au where
 base:Int
 list:List ag
structure zr where
 b:List Int
 i:Int
 h:Int
structure ay where
 b:List Int
 i:Int
 h:Int
structure j4 where
 name:BA
 target:BA
 low:Int
 high:Int
 aq:p5
 aD:aB
 notes:p5
structure cr where
 order:j4
 ver:Int
inductive Ty where
 | i (k:IntKind) | bool | str | sl (t:Ty)
 | aw
 | aD
 | note
 | order
 | item
 | store
 | event
 | cZ
 | cur
 | cp
 | jJ
 | ed
 deriving DecidableEq
@[reducible] def El:Ty→Type
 | .i _=>Int
 | .bool=>Bool
 | .str=>BA
 | .sl t=>List (El t)
 | .aw=>aj
 | .aD=>aB
 | .note=>aF
 | .order=>ae
 | .item=>af
 | .store=>ai
 | .event=>ag
 | .cZ=>au
 | .cur=>zr
 | .cp=>ay
 | .jJ=>j4
 | .ed=>cr
inductive Cv where
 | v (x:Value)
 | l (t:Ty) (xs:List (El t))
def Cv.int? :Cv→Option Int | .v (.int .i64 n)=>some n | _=>none
def Cv.l9:Cv→Option BA | .v (.string s)=>some s | _=>none
def Cv.bool? :Cv→Option Bool | .v (.bool b)=>some b | _=>none
def Cv.YE(k:IntKind):Cv→Option Int | .v (.int k' n)=>if k'=k then some n else none | _=>none
def Cv.zt(t:Ty):Cv→Option (List (El t)) | .l t' xs=>if h:t'=t then some (h▸xs) else none | _=>none
def Cv.Dw:Cv→Option p5 | .v (.slice a n c)=>some ⟨a,n,c⟩ | _=>none
theorem Cv.aP{c:Cv}{n:Int}(h:c.int? =some n):c = .v (.int .i64 n):=by unfold Cv.int? at h;split at h<;>simp_all
theorem Cv.dx{c:Cv}{n:BA}(h:c.l9=some n):c = .v (.string n):=by unfold Cv.l9 at h;split at h<;>simp_all
theorem Cv.zu{c:Cv}{n:Bool}(h:c.bool? =some n):c = .v (.bool n):=by unfold Cv.bool? at h;split at h<;>simp_all
theorem Cv.FM{k:IntKind}{c:Cv}{n:Int}(h:c.YE k=some n):c = .v (.int k n):=by unfold Cv.YE at h;split at h<;>simp_all
theorem Cv.lO{c:Cv}{n:p5}(h:c.Dw=some n):c = .v (.slice n.a n.n n.c):=by unfold Cv.Dw at h;split at h<;>simp_all;subst h;exact⟨rfl,rfl,rfl⟩
theorem Cv.eO{t:Ty}{c:Cv}{n:List (El t)}(h:c.zt t=some n):c = .l t n:=by
 unfold Cv.zt at h;split at h
 ·split at h
  ·rename_i e;subst e;simpa using h
  ·cases h
 ·cases h
def mC(x:aj):List Cv:=[.v (.string x.name),.v (.int .i64 x.kind),.v (.int .i64 x.goal)]
def mD:List Cv→Option aj
 | [c0,c1,c2]=>(Cv.l9 c0).bind fun a0=>(Cv.int? c1).bind fun a1=>(Cv.int? c2).bind fun a2=>some ⟨a0,a1,a2⟩
 |_=>none
theorem p6{cs:List Cv}{x:aj}(h:mD cs=some x):cs=mC x:=by
 unfold mD at h;split at h
 ·simp only[Option.bind_eq_some_iff,Option.some.injEq] at h;obtain⟨a0,h0,a1,h1,a2,h2,rfl⟩:=h
  simp only[mC,Cv.dx h0,Cv.aP h1,Cv.aP h2]
 ·cases h
def xn:aj:=⟨ByteArray.empty,0,0⟩
def p7(x:aB):List Cv:=[.v (.int .i64 x.up),.v (.int .i64 x.down),.v (.int .i64 x.bU),.v (.int .i64 x.bm)]
def p8:List Cv→Option aB
 | [c0,c1,c2,c3]=>(Cv.int? c0).bind fun a0=>(Cv.int? c1).bind fun a1=>(Cv.int? c2).bind fun a2=>(Cv.int? c3).bind fun a3=>some ⟨a0,a1,a2,a3⟩
 |_=>none
theorem uO{cs:List Cv}{x:aB}(h:p8 cs=some x):cs=p7 x:=by
 unfold p8 at h;split at h
 ·simp only[Option.bind_eq_some_iff,Option.some.injEq] at h;obtain⟨a0,h0,a1,h1,a2,h2,a3,h3,rfl⟩:=h
  simp only[p7,Cv.aP h0,Cv.aP h1,Cv.aP h2,Cv.aP h3]
 ·cases h
def n6:aB:=⟨0,0,0,0⟩
def p9(x:aF):List Cv:=[.v (.string x.key),.v (.string x.text)]
def qc:List Cv→Option aF
 | [c0,c1]=>(Cv.l9 c0).bind fun a0=>(Cv.l9 c1).bind fun a1=>some ⟨a0,a1⟩
 |_=>none
theorem uP{cs:List Cv}{x:aF}(h:qc cs=some x):cs=p9 x:=by
 unfold qc at h;split at h
 ·simp only[Option.bind_eq_some_iff,Option.some.injEq] at h;obtain⟨a0,h0,a1,h1,rfl⟩:=h
  simp only[p9,Cv.dx h0,Cv.dx h1]
 ·cases h
def Dx:aF:=⟨ByteArray.empty,ByteArray.empty⟩
def n7(x:ae):List Cv:=[.v (.string x.name),.v (.string x.target),.v (.int .i64 x.low),.v (.int .i64 x.high),.l .aw x.aq,.v (.int .i64 x.aD.up),.v (.int .i64 x.aD.down),.v (.int .i64 x.aD.bU),.v (.int .i64 x.aD.bm),.l .note x.notes]
def n8:List Cv→Option ae
 | [c0,c1,c2,c3,c4,c5,c6,c7,c8,c9]=>(Cv.l9 c0).bind fun a0=>(Cv.l9 c1).bind fun a1=>(Cv.int? c2).bind fun a2=>(Cv.int? c3).bind fun a3=>(Cv.zt .aw c4).bind fun a4=>(Cv.int? c5).bind fun a5=>(Cv.int? c6).bind fun a6=>(Cv.int? c7).bind fun a7=>(Cv.int? c8).bind fun a8=>(Cv.zt .note c9).bind fun a9=>some ⟨a0,a1,a2,a3,a4,⟨a5,a6,a7,a8⟩,a9⟩
 |_=>none
theorem sM{cs:List Cv}{x:ae}(h:n8 cs=some x):cs=n7 x:=by
 unfold n8 at h;split at h
 ·simp only[Option.bind_eq_some_iff,Option.some.injEq] at h;obtain⟨a0,h0,a1,h1,a2,h2,a3,h3,a4,h4,a5,h5,a6,h6,a7,h7,a8,h8,a9,h9,rfl⟩:=h
  simp only[n7,Cv.dx h0,Cv.dx h1,Cv.aP h2,Cv.aP h3,Cv.eO h4,Cv.aP h5,Cv.aP h6,Cv.aP h7,Cv.aP h8,Cv.eO h9]
 ·cases h
def qd:ae:=⟨ByteArray.empty,ByteArray.empty,0,0,[],n6,[]⟩
def iY(x:af):List Cv:=[.v (.string x.order.name),.v (.string x.order.target),.v (.int .i64 x.order.low),.v (.int .i64 x.order.high),.l .aw x.order.aq,.v (.int .i64 x.order.aD.up),.v (.int .i64 x.order.aD.down),.v (.int .i64 x.order.aD.bU),.v (.int .i64 x.order.aD.bm),.l .note x.order.notes,.v (.int .i64 x.ver)]
def qe:List Cv→Option af
 | [c0,c1,c2,c3,c4,c5,c6,c7,c8,c9,UJ]=>(Cv.l9 c0).bind fun a0=>(Cv.l9 c1).bind fun a1=>(Cv.int? c2).bind fun a2=>(Cv.int? c3).bind fun a3=>(Cv.zt .aw c4).bind fun a4=>(Cv.int? c5).bind fun a5=>(Cv.int? c6).bind fun a6=>(Cv.int? c7).bind fun a7=>(Cv.int? c8).bind fun a8=>(Cv.zt .note c9).bind fun a9=>(Cv.int? UJ).bind fun BO=>some ⟨⟨a0,a1,a2,a3,a4,⟨a5,a6,a7,a8⟩,a9⟩,BO⟩
 |_=>none
theorem uQ{cs:List Cv}{x:af}(h:qe cs=some x):cs=iY x:=by
 unfold qe at h;split at h
 ·simp only[Option.bind_eq_some_iff,Option.some.injEq] at h;obtain⟨a0,h0,a1,h1,a2,h2,a3,h3,a4,h4,a5,h5,a6,h6,a7,h7,a8,h8,a9,h9,BO,nZ,rfl⟩:=h
  simp only[iY,Cv.dx h0,Cv.dx h1,Cv.aP h2,Cv.aP h3,Cv.eO h4,Cv.aP h5,Cv.aP h6,Cv.aP h7,Cv.aP h8,Cv.eO h9,Cv.aP nZ]
 ·cases h
def n9:af:=⟨qd,0⟩
def oa(x:ai):List Cv:=[.l .item x.items,.v (.int .i64 x.next)]
def ob:List Cv→Option ai
 | [c0,c1]=>(Cv.zt .item c0).bind fun a0=>(Cv.int? c1).bind fun a1=>some ⟨a0,a1⟩
 |_=>none
theorem sN{cs:List Cv}{x:ai}(h:ob cs=some x):cs=oa x:=by
 unfold ob at h;split at h
 ·simp only[Option.bind_eq_some_iff,Option.some.injEq] at h;obtain⟨a0,h0,a1,h1,rfl⟩:=h
  simp only[oa,Cv.eO h0,Cv.aP h1]
 ·cases h
def zw:ai:=⟨[],0⟩
def oc(x:ag):List Cv:=[.v (.int .i64 x.seq),.v (.int .i64 x.kind),.v (.string x.item.order.name),.v (.string x.item.order.target),.v (.int .i64 x.item.order.low),.v (.int .i64 x.item.order.high),.l .aw x.item.order.aq,.v (.int .i64 x.item.order.aD.up),.v (.int .i64 x.item.order.aD.down),.v (.int .i64 x.item.order.aD.bU),.v (.int .i64 x.item.order.aD.bm),.l .note x.item.order.notes,.v (.int .i64 x.item.ver)]
def od:List Cv→Option ag
 | [c0,c1,c2,c3,c4,c5,c6,c7,c8,c9,UJ,c11,c12]=>(Cv.int? c0).bind fun a0=>(Cv.int? c1).bind fun a1=>(Cv.l9 c2).bind fun a2=>(Cv.l9 c3).bind fun a3=>(Cv.int? c4).bind fun a4=>(Cv.int? c5).bind fun a5=>(Cv.zt .aw c6).bind fun a6=>(Cv.int? c7).bind fun a7=>(Cv.int? c8).bind fun a8=>(Cv.int? c9).bind fun a9=>(Cv.int? UJ).bind fun BO=>(Cv.zt .note c11).bind fun X3=>(Cv.int? c12).bind fun a12=>some ⟨a0,a1,⟨⟨a2,a3,a4,a5,a6,⟨a7,a8,a9,BO⟩,X3⟩,a12⟩⟩
 |_=>none
theorem sO{cs:List Cv}{x:ag}(h:od cs=some x):cs=oc x:=by
 unfold od at h;split at h
 ·simp only[Option.bind_eq_some_iff,Option.some.injEq] at h;obtain⟨a0,h0,a1,h1,a2,h2,a3,h3,a4,h4,a5,h5,a6,h6,a7,h7,a8,h8,a9,h9,BO,nZ,X3,uR,a12,Ra,rfl⟩:=h
  simp only[oc,Cv.aP h0,Cv.aP h1,Cv.dx h2,Cv.dx h3,Cv.aP h4,Cv.aP h5,Cv.eO h6,Cv.aP h7,Cv.aP h8,Cv.aP h9,Cv.aP nZ,Cv.eO uR,Cv.aP Ra]
 ·cases h
def zx:ag:=⟨0,0,n9⟩
def qg(x:au):List Cv:=[.v (.int .i64 x.base),.l .event x.list]
def qh:List Cv→Option au
 | [c0,c1]=>(Cv.int? c0).bind fun a0=>(Cv.zt .event c1).bind fun a1=>some ⟨a0,a1⟩
 |_=>none
theorem uS{cs:List Cv}{x:au}(h:qh cs=some x):cs=qg x:=by
 unfold qh at h;split at h
 ·simp only[Option.bind_eq_some_iff,Option.some.injEq] at h;obtain⟨a0,h0,a1,h1,rfl⟩:=h
  simp only[qg,Cv.aP h0,Cv.eO h1]
 ·cases h
def Dy:au:=⟨0,[]⟩
def uT(x:zr):List Cv:=[.l (.i .u8) x.b,.v (.int .i64 x.i),.v (.int .i64 x.h)]
def uU:List Cv→Option zr
 | [c0,c1,c2]=>(Cv.zt (.i .u8) c0).bind fun a0=>(Cv.int? c1).bind fun a1=>(Cv.int? c2).bind fun a2=>some ⟨a0,a1,a2⟩
 |_=>none
theorem xo{cs:List Cv}{x:zr}(h:uU cs=some x):cs=uT x:=by
 unfold uU at h;split at h
 ·simp only[Option.bind_eq_some_iff,Option.some.injEq] at h;obtain⟨a0,h0,a1,h1,a2,h2,rfl⟩:=h
  simp only[uT,Cv.eO h0,Cv.aP h1,Cv.aP h2]
 ·cases h
def FN:zr:=⟨[],0,0⟩
def uV(x:ay):List Cv:=[.l (.i .u8) x.b,.v (.int .i64 x.i),.v (.int .i64 x.h)]
def uW:List Cv→Option ay
 | [c0,c1,c2]=>(Cv.zt (.i .u8) c0).bind fun a0=>(Cv.int? c1).bind fun a1=>(Cv.int? c2).bind fun a2=>some ⟨a0,a1,a2⟩
 |_=>none
theorem xp{cs:List Cv}{x:ay}(h:uW cs=some x):cs=uV x:=by
 unfold uW at h;split at h
 ·simp only[Option.bind_eq_some_iff,Option.some.injEq] at h;obtain⟨a0,h0,a1,h1,a2,h2,rfl⟩:=h
  simp only[uV,Cv.eO h0,Cv.aP h1,Cv.aP h2]
 ·cases h
def FO:ay:=⟨[],0,0⟩
def qi(x:j4):List Cv:=[.v (.string x.name),.v (.string x.target),.v (.int .i64 x.low),.v (.int .i64 x.high),.v (.slice x.aq.a x.aq.n x.aq.c),.v (.int .i64 x.aD.up),.v (.int .i64 x.aD.down),.v (.int .i64 x.aD.bU),.v (.int .i64 x.aD.bm),.v (.slice x.notes.a x.notes.n x.notes.c)]
def qj:List Cv→Option j4
 | [c0,c1,c2,c3,c4,c5,c6,c7,c8,c9]=>(Cv.l9 c0).bind fun a0=>(Cv.l9 c1).bind fun a1=>(Cv.int? c2).bind fun a2=>(Cv.int? c3).bind fun a3=>(Cv.Dw c4).bind fun a4=>(Cv.int? c5).bind fun a5=>(Cv.int? c6).bind fun a6=>(Cv.int? c7).bind fun a7=>(Cv.int? c8).bind fun a8=>(Cv.Dw c9).bind fun a9=>some ⟨a0,a1,a2,a3,a4,⟨a5,a6,a7,a8⟩,a9⟩
 |_=>none
theorem uX{cs:List Cv}{x:j4}(h:qj cs=some x):cs=qi x:=by
 unfold qj at h;split at h
 ·simp only[Option.bind_eq_some_iff,Option.some.injEq] at h;obtain⟨a0,h0,a1,h1,a2,h2,a3,h3,a4,h4,a5,h5,a6,h6,a7,h7,a8,h8,a9,h9,rfl⟩:=h
  simp only[qi,Cv.dx h0,Cv.dx h1,Cv.aP h2,Cv.aP h3,Cv.lO h4,Cv.aP h5,Cv.aP h6,Cv.aP h7,Cv.aP h8,Cv.lO h9]
 ·cases h
def tt:j4:=⟨ByteArray.empty,ByteArray.empty,0,0,⟨none,0,0⟩,n6,⟨none,0,0⟩⟩
def uY(x:cr):List Cv:=[.v (.string x.order.name),.v (.string x.order.target),.v (.int .i64 x.order.low),.v (.int .i64 x.order.high),.v (.slice x.order.aq.a x.order.aq.n x.order.aq.c),.v (.int .i64 x.order.aD.up),.v (.int .i64 x.order.aD.down),.v (.int .i64 x.order.aD.bU),.v (.int .i64 x.order.aD.bm),.v (.slice x.order.notes.a x.order.notes.n x.order.notes.c),.v (.int .i64 x.ver)]
def uZ:List Cv→Option cr
 | [c0,c1,c2,c3,c4,c5,c6,c7,c8,c9,UJ]=>(Cv.l9 c0).bind fun a0=>(Cv.l9 c1).bind fun a1=>(Cv.int? c2).bind fun a2=>(Cv.int? c3).bind fun a3=>(Cv.Dw c4).bind fun a4=>(Cv.int? c5).bind fun a5=>(Cv.int? c6).bind fun a6=>(Cv.int? c7).bind fun a7=>(Cv.int? c8).bind fun a8=>(Cv.Dw c9).bind fun a9=>(Cv.int? UJ).bind fun BO=>some ⟨⟨a0,a1,a2,a3,a4,⟨a5,a6,a7,a8⟩,a9⟩,BO⟩
 |_=>none
theorem xr{cs:List Cv}{x:cr}(h:uZ cs=some x):cs=uY x:=by
 unfold uZ at h;split at h
 ·simp only[Option.bind_eq_some_iff,Option.some.injEq] at h;obtain⟨a0,h0,a1,h1,a2,h2,a3,h3,a4,h4,a5,h5,a6,h6,a7,h7,a8,h8,a9,h9,BO,nZ,rfl⟩:=h
  simp only[uY,Cv.dx h0,Cv.dx h1,Cv.aP h2,Cv.aP h3,Cv.lO h4,Cv.aP h5,Cv.aP h6,Cv.aP h7,Cv.aP h8,Cv.lO h9,Cv.aP nZ]
 ·cases h
def FP:cr:=⟨tt,0⟩
def enc:(t:Ty)→El t→List Cv
 | .i k,n=>[.v (.int k n)]
 | .bool,b=>[.v (.bool b)]
 | .str,s=>[.v (.string s)]
 | .sl t,xs=>[.l t xs]
 | .aw,x=>mC x
 | .aD,x=>p7 x
 | .note,x=>p9 x
 | .order,x=>n7 x
 | .item,x=>iY x
 | .store,x=>oa x
 | .event,x=>oc x
 | .cZ,x=>qg x
 | .cur,x=>uT x
 | .cp,x=>uV x
 | .jJ,x=>qi x
 | .ed,x=>uY x
def dec:(t:Ty)→List Cv→Option (El t)
 | .i k,[c]=>c.YE k
 | .bool,[c]=>c.bool?
 | .str,[c]=>c.l9
 | .sl t,[c]=>c.zt t
 | .aw,cs=>mD cs
 | .aD,cs=>p8 cs
 | .note,cs=>qc cs
 | .order,cs=>n8 cs
 | .item,cs=>qe cs
 | .store,cs=>ob cs
 | .event,cs=>od cs
 | .cZ,cs=>qh cs
 | .cur,cs=>uU cs
 | .cp,cs=>uW cs
 | .jJ,cs=>qj cs
 | .ed,cs=>uZ cs
 |_,_=>none
theorem cY:∀{t:Ty}{cs:List Cv}{x:El t},dec t cs=some x→cs=enc t x
 | .i k,[c],x,h=>by simp only[dec] at h;simp only[enc,Cv.FM h]
 | .bool,[c],x,h=>by simp only[dec] at h;simp only[enc,Cv.zu h]
 | .str,[c],x,h=>by simp only[dec] at h;simp only[enc,Cv.dx h]
 | .sl t,[c],x,h=>by simp only[dec] at h;simp only[enc,Cv.eO h]
 | .i k,[],x,h=>by simp[dec] at h
 | .i k,_::_::_,x,h=>by simp[dec] at h
 | .bool,[],x,h=>by simp[dec] at h
 | .bool,_::_::_,x,h=>by simp[dec] at h
 | .str,[],x,h=>by simp[dec] at h
 | .str,_::_::_,x,h=>by simp[dec] at h
 | .sl t,[],x,h=>by simp[dec] at h
 | .sl t,_::_::_,x,h=>by simp[dec] at h
 | .aw,cs,x,h=>by simp only[dec] at h;exact p6 h
 | .aD,cs,x,h=>by simp only[dec] at h;exact uO h
 | .note,cs,x,h=>by simp only[dec] at h;exact uP h
 | .order,cs,x,h=>by simp only[dec] at h;exact sM h
 | .item,cs,x,h=>by simp only[dec] at h;exact uQ h
 | .store,cs,x,h=>by simp only[dec] at h;exact sN h
 | .event,cs,x,h=>by simp only[dec] at h;exact sO h
 | .cZ,cs,x,h=>by simp only[dec] at h;exact uS h
 | .cur,cs,x,h=>by simp only[dec] at h;exact xo h
 | .cp,cs,x,h=>by simp only[dec] at h;exact xp h
 | .jJ,cs,x,h=>by simp only[dec] at h;exact uX h
 | .ed,cs,x,h=>by simp only[dec] at h;exact xr h
def ao:Ty→Nat
 | .i _ | .bool | .str | .sl _=>1
 | .aw=>3
 | .aD=>4
 | .note=>2
 | .order=>10
 | .item=>11
 | .store=>2
 | .event=>13
 | .cZ=>2
 | .cur=>3
 | .cp=>3
 | .jJ=>10
 | .ed=>11
theorem aS:∀(t:Ty)(x:El t),(enc t x).length=ao t
 | .i _,_ | .bool,_ | .str,_ | .sl _,_=>rfl
 | .aw,_=>rfl
 | .aD,_=>rfl
 | .note,_=>rfl
 | .order,_=>rfl
 | .item,_=>rfl
 | .store,_=>rfl
 | .event,_=>rfl
 | .cZ,_=>rfl
 | .cur,_=>rfl
 | .cp,_=>rfl
 | .jJ,_=>rfl
 | .ed,_=>rfl
def e8:Ty→Bool
 | .i _ | .bool | .str | .sl _=>false
 |_=>true
def zero:(t:Ty)→El t
 | .i _=>0
 | .bool=>false
 | .str=>ByteArray.empty
 | .sl _=>[]
 | .aw=>xn
 | .aD=>n6
 | .note=>Dx
 | .order=>qd
 | .item=>n9
 | .store=>zw
 | .event=>zx
 | .cZ=>Dy
 | .cur=>FN
 | .cp=>FO
 | .jJ=>tt
 | .ed=>FP
def cO:Value→Bool | .agg _=>false | .tuple _=>false | _=>true
def Cv.cO:Cv→Bool | .v y=>Gm.cO y | .l _ _=>true
theorem qk:∀(t:Ty)(x:El t),(enc t x).all Cv.cO=true
 | .i _,_ | .bool,_ | .str,_ | .sl _,_=>rfl
 | .aw,_=>rfl
 | .aD,_=>rfl
 | .note,_=>rfl
 | .order,_=>rfl
 | .item,_=>rfl
 | .store,_=>rfl
 | .event,_=>rfl
 | .cZ,_=>rfl
 | .cur,_=>rfl
 | .cp,_=>rfl
 | .jJ,_=>rfl
 | .ed,_=>rfl
def Cv.kind:Cv→Option Ty | .v _=>none | .l t _=>some t
def kinds(t:Ty):List (Option Ty):=(enc t (zero t)).map Cv.kind
theorem ql:∀(t:Ty)(x:El t),(enc t x).map Cv.kind=kinds t
 | .i _,_ | .bool,_ | .str,_ | .sl _,_=>rfl
 | .aw,_=>rfl
 | .aD,_=>rfl
 | .note,_=>rfl
 | .order,_=>rfl
 | .item,_=>rfl
 | .store,_=>rfl
 | .event,_=>rfl
 | .cZ,_=>rfl
 | .cur,_=>rfl
 | .cp,_=>rfl
 | .jJ,_=>rfl
 | .ed,_=>rfl
theorem eN:∀t:Ty,0<ao t
 | .i _ | .bool | .str | .sl _=>by simp[ao]
 | .aw=>by simp[ao]
 | .aD=>by simp[ao]
 | .note=>by simp[ao]
 | .order=>by simp[ao]
 | .item=>by simp[ao]
 | .store=>by simp[ao]
 | .event=>by simp[ao]
 | .cZ=>by simp[ao]
 | .cur=>by simp[ao]
 | .cp=>by simp[ao]
 | .jJ=>by simp[ao]
 | .ed=>by simp[ao]
theorem BP:∀t:Ty,e8 t=false→ao t=1
 | .i _,_ | .bool,_ | .str,_ | .sl _,_=>rfl
 | .aw,h=>by simp[e8] at h
 | .aD,h=>by simp[e8] at h
 | .note,h=>by simp[e8] at h
 | .order,h=>by simp[e8] at h
 | .item,h=>by simp[e8] at h
 | .store,h=>by simp[e8] at h
 | .event,h=>by simp[e8] at h
 | .cZ,h=>by simp[e8] at h
 | .cur,h=>by simp[e8] at h
 | .cp,h=>by simp[e8] at h
 | .jJ,h=>by simp[e8] at h
 | .ed,h=>by simp[e8] at h
end Go.Gm
namespace Go.Gm
open Go
abbrev Path:=List (Nat×Nat)
inductive Sc where
 | v (x:Value)
 | nl
 | ro (t:Ty) (xs:List (El t))
 | h (id ver iv:Nat) (p:Path)
 | vw (id ver lo hi:Nat)
 | pt (b off:Nat)
 | pe (id ver iv:Nat) (p:Path) (i off:Nat)
 | rp (t:Ty) (x:El t) (off:Nat)
 | fq (fn:Nat) (lg:List Nat)
 | j5 (fn:Nat) (lg:List (Σ t:Ty,El t))
 | rk (t:Ty) (xs:List (El t))
 | dead
inductive Cm where
 | one (c:Sc)
 | agg (cs:List Sc)
inductive Sv where
 | c (x:Cm)
 | tu (vs:List Cm)
inductive Pt where
 | cur (i j:Nat)
 | hole (p:List (Nat×Nat))
def qm:List (Nat×Nat)→List (Nat×Nat)→Bool
  | [],_=>true
  |_::_,[]=>false
  | (a,b)::p,(c,d)::q=>Nat.beq a c&&(Nat.beq b d&&qm p q)
def Rb:List (Nat×Nat)→List (Nat×Nat)→Bool
  | [],[]=>true
  | (a,b)::p,(c,d)::q=>Nat.beq a c&&(Nat.beq b d&&Rb p q)
  |_,_=>false
inductive Md where
 | deep | iZ | BQ
 /-- A list of one's own, of which something was taken away. -/
 | part (k:Pt)
def Md.cU:Md→Bool | .part _=>true | _=>false
def ld(a b i j:Nat):Bool:=Nat.blt a i||(Nat.beq a i&&Nat.ble b j)
def Pt.nodeAt:Pt→List (Nat×Nat)→Bool
 |_,[]=>true
 | .cur a b,(i,j)::_=>ld a b i j
 | .hole p,q=> !(qm p q)
def Md.nodeAt:Md→List (Nat×Nat)→Bool
 |_,[]=>true
 | .part k,q=>k.nodeAt q
 |_,_=>true
def Md.iG:Md→List (Nat×Nat)→Bool
 | .part (.cur a b),(i,j)::_=>ld a b i j
 | .part _,_=>false
 |_,_=>true
def Md.tv:Md→Bool | .iZ=>true | .BQ=>true | _=>false
def Md.ja:Md→Bool | .iZ=>true | _=>false
def Md.norm:Md→Md | .part (.cur i (_+1))=> .part (.cur (i+1) 0) | m=>m
def Md.cq:Md→Bool | .BQ=>true | _=>false
def Md.bF:Md→Bool | .deep=>true | _=>false
def Md.meet(m:Md)(deep:Bool):Md:=cond deep m (match m with | .deep=> .iZ | m=>m)
structure cy where
 t:Ty
 md:Md
 ver:Nat
 log:List Nat
 xs:List (El t)
structure Sl where
 t:Ty
 xs:List (El t)
inductive Rt where
 | live (r:cy)
 | dk (r:cy)
 | gone (ver:Nat)
structure Bx where
 t:Ty
 cs:List Sc
structure St where
 az:List (Nat×Sv)
 boxes:List (Nat×Bx)
 roots:List (Nat×Rt)
structure Dl where
 slot:Option (Nat×Sv):=none
 boxes:List (Nat×Bx):=[]
 roots:List (Nat×Rt):=[]
inductive Dt where
 | d (t:Ty) (x:El t)
 | fq (fn:Nat) (lg:List (Σ t:Ty,El t))
abbrev Kt(R:Type):=List Dt→Option R
abbrev Qt:=List Dt→Option (Bool×List Dt)
inductive Am where
 | ro | mut | jK | sG | bX | fn | Mz | kp
structure Spec where
 bL:List Am
 res:List Bool
 own:Bool
 fn:{R:Type}→List Dt→(Kt R)→Option R
 /-- Which arguments go in cell by cell: so many cells; 0: whole. -/
 shape:List Nat:=[]
structure Env where
 code:Nat→Option Ty
 eq:Nat→Option (List Ty)
 pL:Nat→Nat→Option (Nat×Nat)
 spec:Nat→Option Spec
section assoc
variable {α : Type}
def ak:List (Nat×α)→Nat→Option α
  | [],_=>none
  | (k,v)::r,n=>cond (Nat.beq n k) (some v) (ak r n)
def bc:List (Nat×α)→Nat→α→List (Nat×α)
  | [],n,v=>[(n,v)]
  | (k,u)::r,n,v=>cond (Nat.beq n k) ((n,v)::r) (cond (Nat.blt n k) ((n,v)::(k,u)::r) ((k,u)::bc r n v))
def ck(l:List (Nat×α)):List (Nat×α)→List (Nat×α)
  | []=>l
  | (n,v)::r=>ck (bc l n v) r
end assoc
def St.apply(st:St)(d:Dl):St:=
  { az:=match d.slot with | some (s,v)=>bc st.az s v | none=>st.az,boxes:=ck st.boxes d.boxes,roots:=ck st.roots d.roots }
def m9(t:Ty):List Sc:=(enc t (zero t)).map fun | .v x=> .v x | .l _ _=> .nl
def iV:Value→Option Sc
 | .bool b=>some (.v (.bool b))
 | .int k n=>some (.v (.int k n))
 | .string s=>some (.v (.string s))
 | .nilFunc=>some (.v .nilFunc)
 | .nilIface=>some (.v .nilIface)
 | .pointer none=>some (.v (.pointer none))
 | .slice none 0 0=>some .nl
 |_=>none
def gj:List Value→Option (List Sc)
 | []=>some []
 |v::r=>(iV v).bind fun c=>(gj r).bind fun cs=>some (c::cs)
def lP:Value→Option Sv
 | .agg cs=>(gj cs.toList).bind fun l=>some (.c (.agg l))
 |v=>(iV v).bind fun c=>some (.c (.one c))
section ev
variable {R : Type}
def dq(st:St)(x:Operand)(k:Sv→Option R):Option R:=
  match x with
 | .tmp t=>(ak st.az t).bind k
 | .const v=>(lP v).bind k
 | .func f=>k (.c (.one (.fq f [])))
 | .global _=>none
def Sc.soft:Sc→Sc | .rk t xs=> .ro t xs | c=>c
def fu(st:St)(x:Operand)(k:Sc→Option R):Option R:=
  dq st x fun | .c (.one c)=>k c.soft | _=>none
def iA(st:St)(x:Operand)(k:Value→Option R):Option R:=
  fu st x fun | .v u=>k u | _=>none
def getBool(st:St)(x:Operand)(k:Bool→Option R):Option R:=
  iA st x fun | .bool b=>k b | _=>none
def getInt(st:St)(x:Operand)(k:Int→Option R):Option R:=
  iA st x fun | .int .i64 n=>k n | _=>none
def iH(st:St)(id ver:Nat)(k:cy→Option R):Option R:=
  match ak st.roots id with
 |some (.live r)=>cond (Nat.beq r.ver ver) (k r) none
 |_=>none
def gE(r:cy)(iv:Nat)(p:Path):Bool:=(r.log.drop iv).all fun D=>Nat.ble p.length D
def jb(st:St)(id ver iv:Nat)(p:Path)(k:cy→Option R):Option R:=
  iH st id ver fun r=>cond (gE r iv p) (k r) none
def ax{t:Ty}(xs:List (El t))(i:Nat):El t:=xs.getD i (zero t)
def sub:(t:Ty)→List (El t)→Path→Option Sl
 |t,xs,[]=>some ⟨t,xs⟩
 |t,xs,(i,j)::p=>match (enc t (ax xs i))[j]? with
  |some (.l t' ys)=>sub t' ys p
  |_=>none
def dt:(t:Ty)→List (El t)→Path→Sl→Option (List (El t))
 |t,_,[],s=>dec (.sl t) [.l s.t s.xs]
 |t,xs,(i,j)::p,s=>match (enc t (ax xs i))[j]? with
  |some (.l t' ys)=>(dt t' ys p s).bind fun zs=>(dec t ((enc t (ax xs i)).set j (.l t' zs))).bind fun y=>some (xs.set i y)
  |_=>none
def ma(st:St)(c:Sc)(q:Option Ty)(k:Cv→Option R):Option R:=
  match c,q with
 | .v x,none=>k (.v x)
 | .nl,some t=>k (.l t [])
 | .ro t xs,some _=>k (.l t xs)
 | .rk t xs,some _=>k (.l t xs)
 | .h id ver iv p,some _=>jb st id ver iv p fun r=>cond (r.md.iG p) ((sub r.t r.xs p).bind fun s=>k (.l s.t s.xs)) none
 | .vw id ver lo hi,some _=>iH st id ver fun r=>cond (r.md.iG []) (k (.l r.t ((r.xs.take hi).drop lo))) none
 |_,_=>none
def zy(st:St):List Sc→List (Option Ty)→(List Cv→Option R)→Option R
 | [],[],k=>k []
 |c::cs,q::qs,k=>ma st c q fun x=>zy st cs qs fun xs=>k (x::xs)
 |_,_,_=>none
def fa(t:Ty)(s:Sv):Option (List Sc):=
  match e8 t,s with
 |true,.c (.agg cs)=>some cs
 |false,.c (.one c)=>some [c]
 |_,_=>none
def xt(t:Ty)(cs:List Sc):Option Cm:=
  match e8 t,cs with
 |true,cs=>some (.agg cs)
 |false,[c]=>some (.one c)
 |_,_=>none
def og(st:St)(t:Ty)(s:Sv)(k:El t→Option R):Option R:=
 (fa t s).bind fun cs=>zy st cs (kinds t) fun xs=>(dec t xs).bind k
def iM(st:St)(c:Sc)(q:Option Ty)(k:Cv→Bool→St→List (Nat×Rt)→Option R):Option R:=
  match c,q with
 | .v x,none=>k (.v x) true st []
 | .nl,some t=>k (.l t []) true st []
 | .ro t xs,some _=>k (.l t xs) false st []
 | .rk t xs,some _=>k (.l t xs) false st []
 | .h id ver _ [],some _=>iH st id ver fun r=>cond (r.md.iG [])
   (cond r.md.cq (k (.l r.t r.xs) false st [])
    (k (.l r.t r.xs) r.md.bF { st with roots:=bc st.roots id (.gone ver) } [(id,.gone ver)])) none
 | .vw id ver lo hi,some _=>iH st id ver fun r=>cond (r.md.iG [])
   (cond r.md.cq (k (.l r.t ((r.xs.take hi).drop lo)) false st [])
    (k (.l r.t ((r.xs.take hi).drop lo)) r.md.bF { st with roots:=bc st.roots id (.gone ver) } [(id,.gone ver)])) none
 |_,_=>none
def mE(st:St):List Sc→List (Option Ty)→(List Cv→Bool→St→List (Nat×Rt)→Option R)→Option R
 | [],[],k=>k [] true st []
 |c::cs,q::qs,k=>iM st c q fun x d st u=>mE st cs qs fun xs d' st u'=>k (x::xs) (d&&d') st (u++u')
 |_,_,_=>none
def tw(st:St)(t:Ty)(s:Sv)(k:El t→Bool→St→List (Nat×Rt)→Option R):Option R:=
 (fa t s).bind fun cs=>mE st cs (kinds t) fun xs d st u=>(dec t xs).bind fun x=>k x d st u
def Md.oW:Md→Nat→Nat→Bool
 | .deep,_,_=>true
 | .part (.cur a b),i,j=>ld a b i j
 |_,_,_=>false
def St.taken(st:St)(id:Nat)(r:cy)(i j:Nat):St:={ st with roots:=bc st.roots id (.live ⟨r.t,.part (.cur i j),r.ver,r.log,r.xs⟩) }
def jL(st:St)(c:Sc)(q:Option Ty)(k:Cv→Bool→St→List (Nat×Rt)→Option R):Option R:=
  match c,q with
 | .h id ver iv [(i,j)],some _=>jb st id ver iv [(i,j)] fun r=>cond (r.md.oW i j)
   ((sub r.t r.xs [(i,j)]).bind fun s=>k (.l s.t s.xs) true (st.taken id r i (j+1)) [(id,.live ⟨r.t,.part (.cur i (j+1)),r.ver,r.log,r.xs⟩)]) none
 |c,q=>iM st c q k
def oX(st:St):List Sc→List (Option Ty)→(List Cv→Bool→St→List (Nat×Rt)→Option R)→Option R
 | [],[],k=>k [] true st []
 |c::cs,q::qs,k=>jL st c q fun x d st u=>oX st cs qs fun xs d' st u'=>k (x::xs) (d&&d') st (u++u')
 |_,_,_=>none
def oh(st:St)(t:Ty)(s:Sv)(k:El t→Bool→St→List (Nat×Rt)→Option R):Option R:=
 (fa t s).bind fun cs=>oX st cs (kinds t) fun xs d st u=>(dec t xs).bind fun x=>k x d st u
def mkRoot(st:St)(id:Nat)(t:Ty)(md:Md)(xs:List (El t))(k:cy→Option R):Option R:=
  match ak st.roots id with
 |none=>k ⟨t,md,0,[],xs⟩
 |some (.gone v)=>k ⟨t,md,v+1,[],xs⟩
 |some _=>none
def iQ(st:St)(id:Nat)(t:Ty)(md:Md)(xs:List (El t))(k:cy→Option R):Option R:=
  match ak st.roots id with
 |some (.live r)=>cond r.md.cU (k ⟨t,md,r.ver+1,[],xs⟩) none
 |_=>mkRoot st id t md xs k
def qn(own:Bool)(st:St)(id:Nat):List Cv→(List Sc→Nat→St→List (Nat×Rt)→Option R)→Option R
 | [],k=>k [] id st []
 | .v x::cs,k=>qn own st id cs fun ss n st u=>k (.v x::ss) n st u
 | .l t xs::cs,k=>
  cond (Nat.beq (id%64) 63) none (cond own
   (mkRoot st id t .deep xs fun r=>qn own { st with roots:=bc st.roots id (.live r) } (id+1) cs fun ss n st u=>
    k (.h id r.ver 0 []::ss) n st ((id,.live r)::u))
   (qn own st (id+1) cs fun ss n st u=>k (.ro t xs::ss) n st u))
def shr:Ty→Bool | .cur=>true | _=>false
def Dz(cs:List Cv):List Sc:=cs.map fun | .v x=> .v x | .l t xs=> .rk t xs
def YF:Sc→Option Ty→Option Cv
 | .v x,none=>some (.v x)
 | .nl,some t=>some (.l t [])
 | .rk t xs,some _=>some (.l t xs)
 |_,_=>none
def xu:List Sc→List (Option Ty)→Option (List Cv)
 | [],[]=>some []
 |c::cs,q::qs=>(YF c q).bind fun x=>(xu cs qs).bind fun xs=>some (x::xs)
 |_,_=>none
def qo(own:Bool)(st:St)(id:Nat)(t:Ty)(cs:List Cv)(k:List Sc→Nat→St→List (Nat×Rt)→Option R):Option R:=
  cond (shr t) (k (Dz cs) id st []) (qn own st id cs k)
def MA(st:St)(t:Ty)(cs:List Sc)(k:List Cv→Bool→St→List (Nat×Rt)→Option R):Option R:=
  cond (shr t) ((xu cs (kinds t)).bind fun cv=>k cv true st []) (mE st cs (kinds t) k)
def eu{α:Type}(l:List α)(off:Nat)(ys:List α):List α:=l.take off++ys++l.drop (off+ys.length)
def fX(x y:BA):Bool:=x.toList==y.toList
def gS(x y:BA):Bool:=Op.bytesLess x.toList y.toList
def tz(op:BinOp)(tb:Bool)(x y:Value)(k:Value→Option R):Option R:=
  match x,y with
 | .int k1 a,.int k2 b=>
  match op with
  | .shl=>cond (decide (b<0)) none (k (.int k1 (k1.wrap (a*2^(min b.toNat k1.bits)))))
  | .shr=>cond (decide (b<0)) none (k (.int k1 (a.fdiv (2^(min b.toNat k1.bits)))))
  |op=>
   cond (decide (k1=k2))
    (match op with
    | .add=>k (.int k1 (k1.wrap (a+b)))
    | .sub=>k (.int k1 (k1.wrap (a-b)))
    | .mul=>k (.int k1 (k1.wrap (a*b)))
    | .quo=>cond (decide (b=0)) none (k (.int k1 (k1.wrap (a.tdiv b))))
    | .rem=>cond (decide (b=0)) none (k (.int k1 (a.tmod b)))
    | .and=>k (.int k1 (k1.wrap (BitVec.ofInt k1.bits a &&& BitVec.ofInt k1.bits b).toNat))
    | .or=>k (.int k1 (k1.wrap (BitVec.ofInt k1.bits a ||| BitVec.ofInt k1.bits b).toNat))
    | .xor=>k (.int k1 (k1.wrap (BitVec.ofInt k1.bits a ^^^ BitVec.ofInt k1.bits b).toNat))
    | .eql=>k (.bool (a==b))
    | .neq=>k (.bool (a !=b))
    | .lss=>k (.bool (decide (a<b)))
    | .leq=>k (.bool (decide (a≤b)))
    | .gtr=>k (.bool (decide (a>b)))
    | .geq=>k (.bool (decide (a≥b)))
    |_=>none) none
 | .string a,.string b=>
  match op with
  | .add=>cond (decide (a.size+b.size≤9223372036854775807)) (k (.string (a++b))) none
  | .eql=>k (.bool (fX a b))
  | .neq=>k (.bool (!fX a b))
  | .lss=>k (.bool (gS a b))
  | .leq=>k (.bool (gS a b||fX a b))
  | .gtr=>k (.bool (!(gS a b||fX a b)))
  | .geq=>k (.bool (!gS a b))
  |_=>none
 | .bool a,.bool b=>
  match op with
  | .eql=>cond tb (k (.bool (a==b))) none
  | .neq=>cond tb (k (.bool (!(a==b)))) none
  |_=>none
 |_,_=>none
def X4:Option Ty→Bool | some .bool=>true | _=>false
def iN:List Ty→List Sc→List Sc→Option Bool
 | [],[],[]=>some true
 | .i q::ts,.v (.int k a)::r,.v (.int k' b)::s=>cond (decide (k=q)&&decide (k'=q)) ((iN ts r s).bind fun e=>some ((a==b)&&e)) none
 | .str::ts,.v (.string a)::r,.v (.string b)::s=>(iN ts r s).bind fun e=>some ((a==b)&&e)
 | .bool::ts,.v (.bool a)::r,.v (.bool b)::s=>(iN ts r s).bind fun e=>some ((a==b)&&e)
 |_,_,_=>none
def bytesOf(xs:List Int):BA:=⟨(xs.map fun n=>UInt8.ofNat n.toNat).toArray⟩
def put(o:Oper)(s:Sv):Dl:={ slot:=o.dst.map fun d=>(d,s) }
def fG(o:Oper)(c:Sc):Dl:=put o (.c (.one c))
def loadAt(st:St)(a:Sc)(n:Nat)(k:List Sc→Option R):Option R:=
  match a with
 | .pt b off=>(ak st.boxes b).bind fun x=>cond (Nat.ble (off+n) x.cs.length) (k ((x.cs.drop off).take n)) none
 | .pe id ver iv p i off=>jb st id ver iv p fun r=>cond (r.md.nodeAt p) ((sub r.t r.xs p).bind fun s=>cond (Nat.ble (off+n) (ao s.t))
   (k (((((enc s.t (ax s.xs i)).zipIdx).drop off).take n).map fun (c,j)=>
    match c with | .v x=> .v x | .l t ys=>cond r.md.tv (.ro t ys) (.h id ver r.log.length (p++[(i,j)])))) none) none
 | .rp t x off=>cond (Nat.ble (off+n) (ao t))
   (k ((((enc t x).drop off).take n).map fun | .v x=> .v x | .l t ys=> .ro t ys)) none
 |_=>none
def Sc.names:Sc→List Nat×List Nat
 | .h id .. | .vw id .. | .pe id .. =>([],[id])
 | .pt b _=>([b],[])
 | .fq _ bs=>(bs,[])
 |_=>([],[])
def na(st:St)(b:Nat):List Nat:=match ak st.boxes b with | some x=>(x.cs.map fun c=>c.names.2).flatten | none=>[]
def Sc.reach(st:St)(c:Sc):List Nat:=c.names.2++(c.names.1.map (na st)).flatten
def Cm.cells:Cm→List Sc | .one c=>[c] | .agg cs=>cs
def Sv.cells:Sv→List Sc | .c x=>x.cells | .tu vs=>(vs.map Cm.cells).flatten
def kC(st:St):List Nat→(List (Σ t:Ty,El t)→Option R)→Option R
 | [],k=>k []
 |b::bs,k=>(ak st.boxes b).bind fun x=>zy st x.cs (kinds x.t) fun cv=>(dec x.t cv).bind fun y=>kC st bs fun ys=>k (⟨x.t,y⟩::ys)
inductive Bk where
 | root (id:Nat) (r:cy) (p:Path)
 | box (b:Nat)
def fC(E:Env)(m:Am)(T:Nat)(s:Sv)(st:St)(k:Dt→List Bk→St→Dl→Option R):Option R:=
  match m with
 | .ro=>(E.code T).bind fun t=>og st t s fun x=>k (.d t x) [] st {}
 | .jK=>(E.code T).bind fun t=>tw st t s fun x d st u=>cond d (k (.d t x) [] st { roots:=u }) none
 | .mut=>
  match s with
  | .c (.one (.h id ver iv p))=>jb st id ver iv p fun r=>cond r.md.bF
    ((sub r.t r.xs p).bind fun s=>k (.d (.sl s.t) s.xs) [.root id r p] { st with roots:=bc st.roots id (.dk r) } {}) none
  |_=>none
 | .sG=>
  match s with
  | .c (.one (.pt b 0))=>(ak st.boxes b).bind fun x=>zy st x.cs (kinds x.t) fun cv=>(dec x.t cv).bind fun y=>k (.d x.t y) [] st {}
  | .c (.one (.rp t x 0))=>k (.d t x) [] st {}
  |_=>none
 | .bX=>
  match s with
  | .c (.one (.pt b 0))=>(ak st.boxes b).bind fun x=>MA st x.t x.cs fun cv d st u=>cond d
    ((dec x.t cv).bind fun y=>let z:Bx:=⟨x.t,x.cs.map fun _=> .dead⟩;k (.d x.t y) [.box b] { st with boxes:=bc st.boxes b z } { boxes:=[(b,z)],roots:=u }) none
  |_=>none
 | .fn=>
  match s with
  | .c (.one (.fq f bs))=>kC st bs fun ys=>k (.fq f ys) [] st {}
  | .c (.one (.j5 f ys))=>k (.fq f ys) [] st {}
  |_=>none
 | .Mz=>
  match s with
  | .c (.one _)=>k (.d .bool false) [] st {}
  |_=>none
 | .kp=>(E.code T).bind fun t=>(fa t s).bind fun cs=>(xu cs (kinds t)).bind fun cv=>(dec t cv).bind fun x=>k (.d t x) [] st {}
def Am.reads:Am→Bool | .ro | .sG | .fn | .Mz | .kp=>true | _=>false
def u4:List Nat→List (Nat×Sv)→Option (List (Nat×Sv))
  | [],l=>some l
  |0::sh,a::l=>(u4 sh l).bind fun r=>some (a::r)
  | (n+1)::sh,(_,.c (.agg cs))::l=>cond (Nat.beq cs.length (n+1)) ((u4 sh l).bind fun r=>some (cs.map (fun c=>(0,.c (.one c)))++r)) none
  |_,_=>none
def dL(E:Env):List (Am×Nat×Sv)→St→(List Dt→List Bk→St→Dl→Option R)→Option R
  | [],st,k=>k [] [] st {}
  | (m,T,s)::r,st,k=>
    match m.reads with
    |true=>dL E r st fun xs bs st d=>fC E m T s st fun x _ _ _=>k (x::xs) bs st d
    |false=>fC E m T s st fun x b st d=>dL E r st fun xs bs st d'=>
      k (x::xs) (b++bs) st { boxes:=d.boxes++d'.boxes,roots:=d.roots++d'.roots }
def fH(st:St):List Bk→List Dt→(St→Dl→Option R)→Option R
 | [],[],k=>k st {}
 | .root id r p::bs,.d (.sl t) ys::ds,k=>(dt r.t r.xs p ⟨t,ys⟩).bind fun zs=>
   let r':cy:=⟨r.t,r.md,r.ver,r.log++[p.length],zs⟩
   fH { st with roots:=bc st.roots id (.live r') } bs ds fun st d=>k st { d with roots:=(id,.live r')::d.roots }
 | .box b::bs,.d t x::ds,k=>qo true st (64*b) t (enc t x) fun cs _ st u=>
   let z:Bx:=⟨t,cs⟩
   fH { st with boxes:=bc st.boxes b z } bs ds fun st d=>k st { d with boxes:=(b,z)::d.boxes,roots:=u++d.roots }
 |_,_,_=>none
def eG(own:Bool)(st:St)(d id:Nat):List Bool→List Dt→(List Cm→St→Dl→Option R)→Option R
 | [],[],k=>k [] st {}
 |false::ps,.d t x::ds,k=>qn own st id (enc t x) fun cs n st u=>(xt t cs).bind fun c=>eG own st d n ps ds fun r st u'=>
   k (c::r) st { boxes:=u'.boxes,roots:=u++u'.roots }
 |true::ps,.d t x::ds,k=>match ak st.boxes d with
  |none=>qo own st id t (enc t x) fun cs n st u=>eG own { st with boxes:=bc st.boxes d ⟨t,cs⟩ } d n ps ds fun r st u'=>
    k (.one (.pt d 0)::r) st { boxes:=(d,⟨t,cs⟩)::u'.boxes,roots:=u++u'.roots }
  |some _=>none
 |_,_,_=>none
def freeze(st:St):List Nat→(St→List (Nat×Rt)→Option R)→Option R
 | [],k=>k st []
 |id::ids,k=>
  match ak st.roots id with
  |some (.live r)=>cond r.md.cU none <| let r':cy:={ r with md:= .BQ };freeze { st with roots:=bc st.roots id (.live r') } ids fun st u=>k st ((id,.live r')::u)
  |_=>freeze st ids k
def jc(E:Env)(o:Oper)(fn:Nat)(args:List (Nat×Sv))(st:St)(k:Dl→Option R):Option R:=
 (E.spec fn).bind fun sp=>(u4 sp.shape args).bind fun args=>
    cond (Nat.beq sp.bL.length args.length&&(sp.own||args.all fun a=>a.2.cells.all fun c=>c.names.1.isEmpty))
 (dL E (sp.bL.zip args) st fun ds bs st d=>
      sp.fn ds fun outs=>
        fH st bs (outs.drop sp.res.length) fun st d1=>
 (cond sp.own (fun(k:St→List (Nat×Rt)→Option R)=>k st [])
 (freeze st ((args.map fun a=>(a.2.cells.map fun c=>c.names.2).flatten).flatten))) fun st u0=>
          eG sp.own st (o.dst.getD 0) (64*o.dst.getD 0) sp.res (outs.take sp.res.length) fun rs _ u=>
            k { slot:=o.dst.map fun q=>(q,match rs with | [r]=> .c r | rs=> .tu rs),boxes:=d.boxes++(d1.boxes++u.boxes),roots:=d.roots++(d1.roots++(u0++u.roots)) }) none
def fO:Nat:=4294967296
def tA(st:St)(c:Sc)(q:Option Ty)(k:Cv→Bool→St→List (Nat×Rt)→Option R):Option R:=
  match c,q with
 | .vw id ver lo hi,some _=>iH st id ver fun r=>cond (r.md.oW lo 0)
   (k (.l r.t ((r.xs.take hi).drop lo)) true (st.taken id r hi 0) [(id,.live ⟨r.t,.part (.cur hi 0),r.ver,r.log,r.xs⟩)])
   (iM st c q k)
 |c,q=>jL st c q k
def jv(st:St)(e:Ty)(c:Sc)(k:List (El e)→Bool→St→List (Nat×Rt)→Option R):Option R:=
  match (kinds e).all (fun q=>q.isNone) with
 |true=>ma st c (some e) fun x=>(dec (.sl e) [x]).bind fun xs=>k xs true st []
 |false=>tA st c (some e) fun x d st u=>(dec (.sl e) [x]).bind fun xs=>k xs d st u
def j6(E:Env)(o:Oper)(T:Nat)(s x:Sc)(st:St)(k:Dl→Option R):Option R:=
  match E.code T with
  |some (.sl e)=>
    match s with
    | .nl=>jv st e x fun ys d st u=>cond (Nat.ble ys.length fO)
        (iQ st (64*o.dst.getD 0) e (Md.deep.meet d) ys fun r=>
          k { slot:=o.dst.map fun q=>(q,.c (.one (.h (64*o.dst.getD 0) r.ver 0 []))),roots:=u++[(64*o.dst.getD 0,.live r)] }) none
    | .h id ver _ []=>jv st e x fun ys d st u=>iH st id ver fun r=>cond (r.md.cq||r.md.cU) none ((dec (.sl e) [.l r.t r.xs]).bind fun xs=>
        cond (Nat.ble (xs.length+ys.length) fO)
          (let r':cy:=⟨e,r.md.meet d,ver+1,[],xs++ys⟩
           k { slot:=o.dst.map fun q=>(q,.c (.one (.h id (ver+1) 0 []))),roots:=u++[(id,.live r')] }) none)
    | .h id ver iv p=>jv st e x fun ys d st u=>jb st id ver iv p fun r=>cond r.md.bF ((sub r.t r.xs p).bind fun s=>(dec (.sl e) [.l s.t s.xs]).bind fun xs=>
        cond (Nat.ble (xs.length+ys.length) fO) (mkRoot st (64*o.dst.getD 0) e .deep xs fun r2=>
          k { slot:=o.dst.map fun q=>(q,.c (.one (.h (64*o.dst.getD 0) (r2.ver+1) 0 []))),roots:=u++[(id,.live ⟨r.t,.part (.hole p),r.ver,r.log,r.xs⟩),(64*o.dst.getD 0,.live ⟨e,Md.deep.meet d,r2.ver+1,[],xs++ys⟩)] }) none) none
    |_=>none
  |_=>none
def Md.Rd:Md→Option (List (Nat×Nat)) | .part (.hole p)=>some p | _=>none
def gF:Option Ty→Option Ty | some (.sl e)=>some e | _=>none
def isStr:Option Ty→Bool | some .str=>true | _=>false
def u5(mx:Bool):Value→Value→Option Value
 | .int k a,.int _ b=>some (.int k (cond mx (if b>a then b else a) (if b<a then b else a)))
 |_,_=>none
def oi{α:Type}(z:α)(xs:List α)(lo hi:Nat):List α:=xs.take lo++List.replicate (hi-lo) z++xs.drop hi
def eP(E:Env)(o:Oper)(b:Builtin)(c:Call)(st:St)(k:Dl→Option R):Option R:=
  match b with
 | .len=>match c.args.toList,c.argTypes.toList with
  | [x],[T]=>fu st x fun
   | .v (.string s)=>cond (isStr (E.code T)) (k (fG o (.v (.int .i64 s.size)))) none
   | .nl=>(gF (E.code T)).bind fun _=>k (fG o (.v (.int .i64 0)))
   | .ro _ xs=>(gF (E.code T)).bind fun _=>k (fG o (.v (.int .i64 xs.length)))
   | .h id ver iv p=>(gF (E.code T)).bind fun _=>jb st id ver iv p fun r=>cond (r.md.nodeAt p) ((sub r.t r.xs p).bind fun s=>k (fG o (.v (.int .i64 s.xs.length)))) none
   | .vw id ver lo hi=>(gF (E.code T)).bind fun _=>iH st id ver fun r=>k (fG o (.v (.int .i64 ((r.xs.take hi).drop lo).length)))
   |_=>none
  |_,_=>none
 | .append=>match c.args.toList,c.argTypes.toList with
  | [s,x],[T,T']=>(gF (E.code T')).bind fun _=>fu st s fun s=>fu st x fun x=>j6 E o T s x st k
  |_,_=>none
 | .min=>match c.args.toList with
  | [x,y]=>iA st x fun x=>iA st y fun y=>(u5 false x y).bind fun z=>k (fG o (.v z))
  |_=>none
 | .max=>match c.args.toList with
  | [x,y]=>iA st x fun x=>iA st y fun y=>(u5 true x y).bind fun z=>k (fG o (.v z))
  |_=>none
 | .clear=>match c.args.toList,c.argTypes.toList with
  | [x],[T]=>cond o.dst.isNone ((gF (E.code T)).bind fun e=>fu st x fun
   | .vw id ver lo hi=>iH st id ver fun r=>cond (r.md.bF&&(Nat.beq (ao e) (ao r.t)&&(enc e (zero e)).all fun c=>c.kind.isNone))
     ((dec r.t (enc e (zero e))).bind fun z=>k { roots:=[(id,.live ⟨r.t,r.md,r.ver,r.log,oi z r.xs lo hi⟩)] }) none
   |_=>none) none
  |_,_=>none
 |_=>none
def iu(E:Env)(T:Nat)(st:St):List (Nat×Operand)→List Sc→(List Sc→Option R)→Option R
  | [],row,k=>k row
  | (i,x)::r,row,k=>(E.pL T i).bind fun (off,ft)=>(E.code ft).bind fun t=>dq st x fun s=>(fa t s).bind fun cs=>
      cond (Nat.beq cs.length (ao t)&&Nat.ble (off+cs.length) row.length) (iu E T st r (eu row off cs) k) none
def iw(e:Ty)(st:St):List (Nat×Operand)→List (El e)→(List (El e)→Bool→St→List (Nat×Rt)→Option R)→Option R
  | [],xs,k=>k xs true st []
  | (i,x)::r,xs,k=>dq st x fun s=>oh st e s fun y d st u=>cond (Nat.blt i xs.length)
      (iw e st r (xs.set i y) fun xs d' st u'=>k xs (d&&d') st (u++u')) none
def j7(st:St):List Operand→(List Sv→Option R)→Option R
 | [],k=>k []
 |x::r,k=>dq st x fun s=>j7 st r fun ss=>k (s::ss)
def xv:List Sv→Option (List Nat)
 | []=>some []
 | .c (.one (.pt b 0))::r=>(xv r).bind fun bs=>some (b::bs)
 |_=>none
def fv(st:St)(x:Option Operand)(d:Int)(k:Int→Option R):Option R:=
  match x with | none=>k d | some x=>getInt st x k
def eQ(E:Env)(o:Oper)(st:St)(k:Dl→Option R):Option R:=
  match o.op with
  | .move x | .assign x=>dq st x fun s=>k (put o s)
  | .pick c a b=>getBool st c fun t=>cond t (dq st a fun s=>k (put o s)) (dq st b fun s=>k (put o s))
  | .alloc T=>(E.code T).bind fun t=>o.dst.bind fun d=>match ak st.boxes d with
      |none=>k { slot:=some (d,.c (.one (.pt d 0))),boxes:=[(d,⟨t,m9 t⟩)] }
      |some _=>none
  | .box T x=>(E.code T).bind fun t=>o.dst.bind fun d=>match ak st.boxes d with
      |none=>dq st x fun s=>(fa t s).bind fun cs=>cond (Nat.beq cs.length (ao t))
          (k { slot:=some (d,.c (.one (.pt d 0))),boxes:=[(d,⟨t,cs⟩)] }) none
      |some _=>none
  | .build T ps=>(E.code T).bind fun t=>cond (e8 t) (iu E T st ps.toList (m9 t) fun row=>k (put o (.c (.agg row)))) none
  | .buildSlice T n ps=>match E.code T with
      |some (.sl e)=>cond (Nat.ble (n*ao e) 16777216) (iw e st ps.toList (List.replicate n (zero e)) fun xs d st u=>
          iQ st (64*o.dst.getD 0) e (Md.deep.meet d) xs fun r=>
            k { slot:=o.dst.map fun q=>(q,.c (.one (.h (64*o.dst.getD 0) r.ver 0 []))),roots:=u++[(64*o.dst.getD 0,.live r)] }) none
      |_=>none
  | .load T a=>(E.code T).bind fun t=>fu st a fun a=>loadAt st a (ao t) fun cs=>(xt t cs).bind fun c=>k (put o (.c c))
  | .store T a x=>cond (o.dst.isNone) ((E.code T).bind fun t=>fu st a fun a=>dq st x fun s=>(fa t s).bind fun cs=>cond (Nat.beq cs.length (ao t))
      (match a with
       | .pt b off=>(ak st.boxes b).bind fun y=>cond (Nat.ble (off+cs.length) y.cs.length) (k { boxes:=[(b,⟨y.t,eu y.cs off cs⟩)] }) none
       | .pe id ver iv p i off=>jb st id ver iv p fun r=>match r.md.Rd with
        |some p0=>cond (Rb p0 (p++[(i,off)])) (match cs with
          | [c]=>(sub r.t r.xs p0).bind fun s0=>iM st c (some s0.t) fun cv d st u=>cond d (iH st id ver fun r=>(cv.zt s0.t).bind fun ys=>(dt r.t r.xs p0 ⟨s0.t,ys⟩).bind fun zs=>
              k { roots:=u++[(id,.live ⟨r.t,.deep,r.ver,r.log++[p.length],zs⟩)] }) none
          |_=>none) none
        |none=>(sub r.t r.xs p).bind fun s=>
          cond ((r.md.bF||(r.md.ja&&p.isEmpty))&&Nat.ble (off+cs.length) (ao s.t))
          (mE st cs (((kinds s.t).drop off).take cs.length) fun cv d st u=>iH st id ver fun r=>
            cond (d||p.isEmpty) ((dec s.t (eu (enc s.t (ax s.xs i)) off cv)).bind fun y=>(dt r.t r.xs p ⟨s.t,s.xs.set i y⟩).bind fun zs=>
              k { roots:=u++[(id,.live ⟨r.t,cond (cv.all fun c=>c.kind.isNone) r.md (r.md.meet d),r.ver,cond (cv.all fun c=>c.kind.isNone) r.log (r.log++[p.length]),zs⟩)] }) none) none
       |_=>none) none) none
  | .nilCheck x=>fu st x fun
      | .pt b off=>k (fG o (.pt b off))
      | .pe id ver iv p i off=>jb st id ver iv p fun _=>k (fG o (.pe id ver iv p i off))
      | .rp t x off=>k (fG o (.rp t x off))
      | .fq f bs=>k (fG o (.fq f bs))
      | .j5 f ys=>k (fG o (.j5 f ys))
      |_=>none
  | .binOp op T x y _=>dq st x fun x=>dq st y fun y=>match x,y with
      | .c (.one (.v x)),.c (.one (.v y))=>tz op (X4 (E.code T)) x y fun z=>k (fG o (.v z))
      | .c (.agg xs),.c (.agg ys)=>(E.eq T).bind fun ts=>match op with
          | .eql=>(iN ts xs ys).bind fun e=>k (fG o (.v (.bool e)))
          | .neq=>(iN ts xs ys).bind fun e=>k (fG o (.v (.bool (!e))))
          |_=>none
      | .c (.one (.ro _ xs)),.c (.one .nl)=>(gF (E.code T)).bind fun _=>cond xs.isEmpty none (match op with
          | .eql=>k (fG o (.v (.bool false)))
          | .neq=>k (fG o (.v (.bool true)))
          |_=>none)
      |_,_=>none
  | .unOp op _ x=>iA st x fun x=>match op,x with
      | .not,.bool b=>k (fG o (.v (.bool (!b))))
      | .neg,.int kd n=>k (fG o (.v (.int kd (kd.wrap (0-n)))))
      |_,_=>none
  | .convert S T x=>match E.code S,E.code T with
      |some (.i _),some (.i kd)=>iA st x fun | .int _ n=>k (fG o (.v (.int kd (kd.wrap n)))) | _=>none
      |some (.i _),some .str=>iA st x fun | .int _ n=>k (fG o (.v (.string (Utf8.encode n)))) | _=>none
      |some .str,some .str=>iA st x fun | .string s=>k (fG o (.v (.string s))) | _=>none
      |some (.sl (.i .u8)),some .str=>fu st x fun c=>ma st c (some (.i .u8)) fun cv=>(cv.zt (.i .u8)).bind fun xs=>k (fG o (.v (.string (bytesOf xs))))
      |_,_=>none
  | .makeFunc fn first lg=>match fn,first.toList with
      | .func f,[]=>j7 st lg.toList fun ss=>(xv ss).bind fun bs=>k (fG o (.fq f bs))
      |_,_=>none
  | .makeSlice T n m=>match E.code T with
      |some (.sl e)=>getInt st n fun n=>getInt st m fun m=>cond (decide (n=m)&&(decide (0≤n)&&decide (n≤(fO:Int))))
          (iQ st (64*o.dst.getD 0) e .deep (List.replicate n.toNat (zero e)) fun r=>
            k { slot:=o.dst.map fun q=>(q,.c (.one (.h (64*o.dst.getD 0) r.ver 0 []))),roots:=[(64*o.dst.getD 0,.live r)] }) none
      |_=>none
  | .slice T x lo hi none=>fu st x fun
      | .v (.string s)=>cond (isStr (E.code T)) (fv st lo 0 fun l=>fv st hi s.size fun h=>
          cond (decide (0≤l)&&(decide (l≤h)&&decide (h≤(s.size:Int)))) (k (fG o (.v (.string (s.extract l.toNat h.toNat))))) none) none
      | .ro t xs=>(gF (E.code T)).bind fun e=>cond (Nat.beq (ao e) (ao t)) (fv st lo 0 fun l=>fv st hi xs.length fun h=>
          cond (decide (0≤l)&&(decide (l≤h)&&decide (h≤(xs.length:Int)))) (k (fG o (.ro t ((xs.take h.toNat).drop l.toNat)))) none) none
      | .h id ver _ []=>(gF (E.code T)).bind fun e=>iH st id ver fun r=>cond (Nat.beq (ao e) (ao r.t)) (fv st lo 0 fun l=>fv st hi r.xs.length fun h=>
          cond (decide (0≤l)&&(decide (l≤h)&&decide (h≤(r.xs.length:Int)))) (k (fG o (.vw id ver l.toNat h.toNat))) none) none
      |_=>none
  | .fieldAddr T x f=>(E.pL T f).bind fun (off,_)=>fu st x fun
      | .pt b a=>k (fG o (.pt b (a+off)))
      | .pe id ver iv p i a=>jb st id ver iv p fun _=>k (fG o (.pe id ver iv p i (a+off)))
      | .rp t y a=>k (fG o (.rp t y (a+off)))
      |_=>none
  | .field T x f=>(E.pL T f).bind fun (off,ft)=>(E.code ft).bind fun t=>dq st x fun
      | .c (.agg cs)=>cond (Nat.ble (off+ao t) cs.length) ((xt t ((cs.drop off).take (ao t))).bind fun c=>k (put o (.c c))) none
      |_=>none
  | .indexAddr T x i=>fu st x fun c=>getInt st i fun i=>(gF (E.code T)).bind fun e=>match c with
      | .ro t xs=>cond (Nat.beq (ao e) (ao t)) (cond (decide (0≤i)&&decide (i<(xs.length:Int))) (k (fG o (.rp t (ax xs i.toNat) 0))) none) none
      | .h id ver iv p=>jb st id ver iv p fun r=>cond (r.md.nodeAt p) ((sub r.t r.xs p).bind fun s=>cond (Nat.beq (ao e) (ao s.t))
          (cond (decide (0≤i)&&decide (i<(s.xs.length:Int))) (k (fG o (.pe id ver r.log.length p i.toNat 0))) none) none) none
      | .vw id ver lo hi=>iH st id ver fun r=>cond (Nat.beq (ao e) (ao r.t))
          (cond (decide (0≤i)&&decide (i<(((r.xs.take hi).drop lo).length:Int))) (k (fG o (.pe id ver r.log.length [] (lo+i.toNat) 0))) none) none
      |_=>none
  | .index T x i=>iA st x fun x=>getInt st i fun i=>match E.code T,x with
      |some .str,.string s=>cond (decide (0≤i)&&decide (i<(s.size:Int))) (k (fG o (.v (.int .u8 (s.data.getD i.toNat 0).toNat)))) none
      |_,_=>none
  | .extract x i=>dq st x fun | .tu vs=>(vs[i]?).bind fun c=>k (put o (.c c)) | _=>none
  | .call c=>match c.callee with
      | .builtin b=>eP E o b c st k
      | .value f=>fu st f fun
          | .fq fn bs=>j7 st c.args.toList fun ss=>cond (Nat.beq c.argTypes.toList.length ss.length) (jc E o fn (c.argTypes.toList.zip ss++bs.map fun b=>(0,.c (.one (.pt b 0)))) st k) none
          | .j5 fn ys=>j7 st c.args.toList fun ss=>cond (Nat.beq c.argTypes.toList.length ss.length) (jc E o fn (c.argTypes.toList.zip ss++ys.map fun y=>(0,.c (.one (.rp y.1 y.2 0)))) st k) none
          |_=>none
      | .invoke _ _=>none
  |_=>none
end ev
end Go.Gm
namespace Go.Gm
open Go
def aQ:(t:Ty)→List (El t)→Path→Option Sl
 |t,xs,[]=>some ⟨t,xs⟩
 |t,xs,(i,j)::p=>match xs[i]? with
  |some x=>match (enc t x)[j]? with
   |some (.l t' ys)=>aQ t' ys p
   |_=>none
  |none=>none
theorem dG{t:Ty}{xs:List (El t)}{i:Nat}{x:El t}(h:xs[i]? =some x):ax xs i=x:=by
 simp[ax,List.getD,h]
theorem eo{t:Ty}{xs:List (El t)}{i:Nat}(h:i<xs.length):xs[i]? =some (ax xs i):=by
 simp[ax,List.getD,List.getElem?_eq_getElem h]
theorem cV:∀{p:Path}{t:Ty}{xs:List (El t)}{s:Sl},aQ t xs p=some s→sub t xs p=some s
  | [],t,xs,s,h=>by simpa [aQ,sub] using h
  | (i,j)::p,t,xs,s,h=>by
    simp only[aQ] at h
    split at h
    · rename_i x hx
      simp only[sub,dG hx]
      split at h
      · rename_i t' ys hc;(try simp only[hc]);exact cV h
      · cases h
    · cases h
theorem cn:∀{p:Path}{t:Ty}{xs:List (El t)}{s:Sl}(q:Path),aQ t xs p=some s→aQ t xs (p++q)=aQ s.t s.xs q
  | [],t,xs,s,q,h=>by simp only[aQ,Option.some.injEq] at h;subst h;rfl
  | (i,j)::p,t,xs,s,q,h=>by
    simp only[aQ,List.cons_append] at h ⊢
    cases hx:xs[i]? with
    |none=>simp[hx] at h
    |some x=>
      simp only[hx] at h ⊢
      cases hc:(enc t x)[j]? with
      |none=>simp[hc] at h
      |some c=>
        simp only[hc] at h ⊢
        cases c with
        |v y=>simp at h
        |l t' ys=>exact cn q h
def j8:Value→Option Nat
 | .slice (some a) _ _=>some a.block
 |_=>none
def dH(c:Cv)(u k:Value):Prop:=match c with | .v x=>u=x | .l _ _=>u=k
def RowsIn(t:Ty)(ys:List (El t))(cs:Array Value)(o:Nat)(kid:Nat→Nat→Value):Prop:=
  ∀i y j c,ys[i]? =some y→(enc t y)[j]? =some c→∃u,cs[o+i*ao t+j]? =some u∧dH c u (kid i j)
def eH(w:World)(P:Nat→Prop)(t:Ty)(ys:List (El t))(v:Value)(kid:Nat→Nat→Value):Prop:=
  ∃a cap,v = .slice a ys.length cap∧ys.length≤cap∧(ys≠[]→∃b o cs el fz,a=some ⟨b,o,none⟩∧P b∧w.heap[b]? =some (.cells cs el fz)∧RowsIn t ys cs o kid)
def bp(w:World)(F:Nat→Prop)(t:Ty)(ys:List (El t))(v:Value)(kid:Nat→Nat→Value):Prop:=
 (ys=[]∧v = .slice none 0 0)∨∃b o cap cs el,v = .slice (some ⟨b,o,none⟩) ys.length cap∧F b∧w.heap[b]? =some (.cells cs el (0,0))∧
    ys.length≤cap∧o+cap*ao t≤cs.size∧RowsIn t ys cs o kid
def ep(w:World)(P:Nat→Prop)(t:Ty)(xs:List (El t))(av:Path→Value):Prop:=
  ∀p s,aQ t xs p=some s→eH w P s.t s.xs (av p) fun i j=>av (p++[(i,j)])
def aW(w:World)(F:Nat→Prop)(t:Ty)(xs:List (El t))(av:Path→Value):Prop:=
 (∀ p s,aQ t xs p=some s→bp w F s.t s.xs (av p) fun i j=>av (p++[(i,j)]))∧
  ∀p q s s' b,aQ t xs p=some s→aQ t xs q=some s'→j8 (av p)=some b→j8 (av q)=some b→p=q
def kD(w:World)(F RO:Nat→Prop)(t:Ty)(xs:List (El t))(av:Path→Value):Prop:=
 (bp w F t xs (av []) fun i j=>av [(i,j)])∧∀p s,p≠[]→aQ t xs p=some s→eH w RO s.t s.xs (av p) fun i j=>av (p++[(i,j)])
def fk(w:World)(P:Nat→Prop)(t:Ty)(xs:List (El t))(v:Value):Prop:=∃av:Path→Value,av []=v∧ep w P t xs av
def lQ(w:World)(P:Nat→Prop)(c:Cv)(u:Value):Prop:=match c with | .v x=>u=x | .l t xs=>fk w P t xs u
def gX(w:World)(F:Nat→Prop)(t:Ty)(xs:List (El t))(v:Value):Prop:=∃av:Path→Value,av []=v∧aW w F t xs av
theorem bp.rd{w:World}{F:Nat→Prop}{t:Ty}{ys:List (El t)}{v:Value}{kid:Nat→Nat→Value}(h:bp w F t ys v kid):eH w F t ys v kid:=by
 rcases h with ⟨rfl,rfl⟩ | ⟨b,o,cap,cs,el,rfl,hF,hb,hc,hs,hr⟩
 ·exact⟨none,0,rfl,Nat.le_refl _,fun h=>absurd rfl h⟩
 ·exact⟨_,cap,rfl,hc,fun _=>⟨b,o,cs,el,_,rfl,hF,hb,hr⟩⟩
theorem eH.mono{w:World}{P Q:Nat→Prop}{t:Ty}{ys:List (El t)}{v:Value}{kid:Nat→Nat→Value}(tB:∀k,P k→Q k)(h:eH w P t ys v kid):eH w Q t ys v kid:=by
 obtain⟨a,cap,e,hle,h⟩:=h
 exact⟨a,cap,e,hle,fun hn=>let ⟨b,o,cs,el,fz,h1,h2,h3,h4⟩:=h hn;⟨b,o,cs,el,fz,h1,tB _ h2,h3,h4⟩⟩
theorem bp.mono{w:World}{P Q:Nat→Prop}{t:Ty}{ys:List (El t)}{v:Value}{kid:Nat→Nat→Value}(tB:∀k,P k→Q k)(h:bp w P t ys v kid):bp w Q t ys v kid:=by
 rcases h with h | ⟨b,o,cap,cs,el,h1,h2,h3⟩
 ·exact .inl h
 ·exact .inr ⟨b,o,cap,cs,el,h1,tB _ h2,h3⟩
theorem ep.mono{w:World}{P Q:Nat→Prop}{t:Ty}{xs:List (El t)}{av:Path→Value}(tB:∀k,P k→Q k)(h:ep w P t xs av):ep w Q t xs av:=
  fun p s hs=>(h p s hs).mono tB
theorem aW.mono{w:World}{P Q:Nat→Prop}{t:Ty}{xs:List (El t)}{av:Path→Value}(tB:∀k,P k→Q k)(h:aW w P t xs av):aW w Q t xs av:=
 ⟨fun p s hs=>(h.1 p s hs).mono tB,h.2⟩
theorem aW.rd{w:World}{F:Nat→Prop}{t:Ty}{xs:List (El t)}{av:Path→Value}(h:aW w F t xs av):ep w F t xs av:=
  fun p s hs=>(h.1 p s hs).rd
theorem kD.rd{w:World}{F RO:Nat→Prop}{t:Ty}{xs:List (El t)}{av:Path→Value}(h:kD w F RO t xs av):ep w (fun k=>F k∨RO k) t xs av:=by
 intro p s hs
 by_cases hp:p=[]
 ·subst hp;simp only[aQ,Option.some.injEq] at hs;subst hs;exact h.1.rd.mono fun k=> .inl
 ·exact (h.2 p s hp hs).mono fun k=> .inr
theorem ep.at{w:World}{P:Nat→Prop}{t:Ty}{xs:List (El t)}{av:Path→Value}(h:ep w P t xs av){p:Path}{s:Sl}(hs:aQ t xs p=some s):
    ep w P s.t s.xs fun q=>av (p++q):=by
 intro q s' eZ
 have:=h (p++q) s' (by rw[cn q hs];exact eZ)
 simpa [List.append_assoc] using this
theorem fk.mono{w:World}{P Q:Nat→Prop}{t:Ty}{xs:List (El t)}{v:Value}(tB:∀k,P k→Q k)(h:fk w P t xs v):fk w Q t xs v:=
  let ⟨av,h0,h1⟩:=h;⟨av,h0,h1.mono tB⟩
theorem lQ.mono{w:World}{P Q:Nat→Prop}{c:Cv}{u:Value}(tB:∀k,P k→Q k)(h:lQ w P c u):lQ w Q c u:=by
 cases c with
 |v x=>exact h
 |l t xs=>exact fk.mono tB h
def bw(X:Nat→Prop)(w w':World):Prop:=w.heap.size≤w'.heap.size∧∀b,b<w.heap.size→ ¬X b→w'.heap[b]? =w.heap[b]?
theorem bw.get{X:Nat→Prop}{w w':World}(h:bw X w w'){b:Nat}{o:Obj}(hb:w.heap[b]? =some o)(hx : ¬X b):w'.heap[b]? =some o:=by
 have cc:b<w.heap.size:=by
  rcases Nat.lt_or_ge b w.heap.size with h' | h'
  ·exact h'
  ·simp[Array.getElem?_eq_none h'] at hb
 rw[h.2 b cc hx];exact hb
theorem bw.refl(w:World):bw (fun _=>False) w w:=⟨Nat.le_refl _,fun _ _ _=>rfl⟩
theorem bw.trans{X Y Z:Nat→Prop}{a b c:World}(h:bw X a b)(k:bw Y b c)(hX:∀n,X n→Z n)(hY:∀n,n<a.heap.size→Y n→Z n):bw Z a c:=
 ⟨Nat.le_trans h.1 k.1,fun n hn hz=>(k.2 n (Nat.lt_of_lt_of_le hn h.1) fun hy=>hz (hY n hn hy)).trans (h.2 n hn fun hx=>hz (hX n hx))⟩
theorem eH.same{w w':World}{X P:Nat→Prop}(hs:bw X w w')(hd:∀k,P k→ ¬X k){t:Ty}{ys:List (El t)}{v:Value}{kid:Nat→Nat→Value}
 (h:eH w P t ys v kid):eH w' P t ys v kid:=by
 obtain⟨a,cap,e,hle,h⟩:=h
 exact⟨a,cap,e,hle,fun hn=>let ⟨b,o,cs,el,fz,h1,h2,h3,h4⟩:=h hn;⟨b,o,cs,el,fz,h1,h2,hs.get h3 (hd _ h2),h4⟩⟩
theorem bp.same{w w':World}{X P:Nat→Prop}(hs:bw X w w')(hd:∀k,P k→ ¬X k){t:Ty}{ys:List (El t)}{v:Value}{kid:Nat→Nat→Value}
 (h:bp w P t ys v kid):bp w' P t ys v kid:=by
 rcases h with h | ⟨b,o,cap,cs,el,h1,h2,h3,h4⟩
 ·exact .inl h
 ·exact .inr ⟨b,o,cap,cs,el,h1,h2,hs.get h3 (hd _ h2),h4⟩
theorem ep.same{w w':World}{X P:Nat→Prop}(hs:bw X w w')(hd:∀k,P k→ ¬X k){t:Ty}{xs:List (El t)}{av:Path→Value}(h:ep w P t xs av):ep w' P t xs av:=
  fun p s hp=>(h p s hp).same hs hd
theorem aW.same{w w':World}{X P:Nat→Prop}(hs:bw X w w')(hd:∀k,P k→ ¬X k){t:Ty}{xs:List (El t)}{av:Path→Value}(h:aW w P t xs av):aW w' P t xs av:=
 ⟨fun p s hp=>(h.1 p s hp).same hs hd,h.2⟩
theorem kD.same{w w':World}{X F RO:Nat→Prop}(hs:bw X w w')(hd:∀k,F k→ ¬X k)(hr:∀k,RO k→ ¬X k){t:Ty}{xs:List (El t)}{av:Path→Value}(h:kD w F RO t xs av):kD w' F RO t xs av:=
 ⟨h.1.same hs hd,fun p s hp eZ=>(h.2 p s hp eZ).same hs hr⟩
theorem fk.same{w w':World}{X P:Nat→Prop}(hs:bw X w w')(hd:∀k,P k→ ¬X k){t:Ty}{xs:List (El t)}{v:Value}(h:fk w P t xs v):fk w' P t xs v:=
  let ⟨av,h0,h1⟩:=h;⟨av,h0,h1.same hs hd⟩
theorem lQ.same{w w':World}{X P:Nat→Prop}(hs:bw X w w')(hd:∀k,P k→ ¬X k){c:Cv}{u:Value}(h:lQ w P c u):lQ w' P c u:=by
 cases c with
 |v x=>exact h
 |l t xs=>exact fk.same hs hd h
def pM:Cv→Cv→Prop
 | .v x,.v y=>x=y
 | .l t _,.l t' _=>t=t'
 |_,_=>False
theorem pM.refl(c:Cv):pM c c:=by cases c<;>rfl
def iR(s s':Sl):Prop:=s'.t=s.t∧s'.xs.length=s.xs.length∧
  ∀(i:Nat)(y':El s'.t)(j:Nat)(c':Cv),s'.xs[i]? =some y'→(enc s'.t y')[j]? =some c'→∃(y:El s.t)(c:Cv),s.xs[i]? =some y∧(enc s.t y)[j]? =some c∧pM c c'
theorem iR.refl(s:Sl):iR s s:=⟨rfl,rfl,fun _ y' _ c' h h'=>⟨y',c',h,h',.refl _⟩⟩
theorem iR.rows{s s':Sl}(h:iR s s'){cs:Array Value}{o:Nat}{kid:Nat→Nat→Value}(hr:RowsIn s.t s.xs cs o kid):RowsIn s'.t s'.xs cs o kid:=by
 obtain⟨ht,_,h⟩:=h
 intro i y' j c' hy hc
 obtain⟨y,c,h1,h2,h3⟩:=h i y' j c' hy hc
 obtain⟨u,hu,gu⟩:=hr i y j c h1 h2
 refine⟨u,by rw[ht];exact hu,?_⟩
 cases c<;>cases c'<;>simp_all [pM,dH]
theorem iR.own{w:World}{F:Nat→Prop}{s s':Sl}(h:iR s s'){v:Value}{kid:Nat→Nat→Value}(ho:bp w F s.t s.xs v kid):bp w F s'.t s'.xs v kid:=by
 have hl:=h.2.1
 rcases ho with ⟨h1,h2⟩ | ⟨b,o,cap,cs,el,h1,h2,h3,h4,h5,h6⟩
 ·exact .inl ⟨by rw[h1] at hl;exact List.length_eq_zero_iff.1 hl,h2⟩
 ·exact .inr ⟨b,o,cap,cs,el,by rw[hl];exact h1,h2,h3,by rw[hl];exact h4,by rw[h.1];exact h5,h.rows h6⟩
theorem iR.rd{w:World}{F:Nat→Prop}{s s':Sl}(h:iR s s'){v:Value}{kid:Nat→Nat→Value}(ho:eH w F s.t s.xs v kid):eH w F s'.t s'.xs v kid:=by
 have hl:=h.2.1
 obtain⟨a,cap,e,hle,hh⟩:=ho
 refine⟨a,cap,by rw[hl];exact e,by rw[hl];exact hle,fun hn=> ?_⟩
 obtain⟨b,o,cs,el,fz,h1,h2,h3,h4⟩:=hh (fun h0=>hn (by rw[h0] at hl;exact List.length_eq_zero_iff.1 hl))
 exact⟨b,o,cs,el,fz,h1,h2,h3,h.rows h4⟩
theorem jd:∀{p:Path}{t:Ty}{xs zs:List (El t)}{s s':Sl},aQ t xs p=some s→dt t xs p s'=some zs→
    ∀q zh,aQ t zs q=some zh→(∃ q',q=p++q'∧aQ s'.t s'.xs q'=some zh)∨(¬ p <+: q∧∃s2,aQ t xs q=some s2∧iR s2 zh)
  | [],t,xs,zs,s,s',h,hz,q,zh,hq=>by
    simp only[dt] at hz
    have:=cY hz
    simp only[enc,List.cons.injEq,and_true] at this
    cases s' with | mk t' qp=>cases this;exact .inl ⟨q,rfl,hq⟩
  | (i,j)::p,t,xs,zs,s,s',h,hz,q,zh,hq=>by
    simp only[aQ] at h
    split at h
    case h_2=>cases h
    rename_i x hx
    split at h
    case h_2=>cases h
    rename_i t1 ys hc
    simp only[dt,dG hx,hc,Option.bind_eq_some_iff,Option.some.injEq] at hz
    obtain⟨z1,FI,y,hy,rfl⟩:=hz
    have DA:=cY hy
    have cc:i<xs.length:=by
      rcases Nat.lt_or_ge i xs.length with h' | h'
      · exact h'
      · simp[List.getElem?_eq_none h'] at hx
    have hj:j<(enc t x).length:=by
      rcases Nat.lt_or_ge j (enc t x).length with h' | h'
      · exact h'
      · simp[List.getElem?_eq_none h'] at hc
    cases q with
    |nil=>
      refine .inr ⟨by simp,⟨t,xs⟩,rfl,?_⟩
      simp only[aQ,Option.some.injEq] at hq
      subst hq
      refine⟨rfl,by simp,fun i' y' j' c' PC mZ=> ?_⟩
      by_cases nc:i=i'
      · subst nc
        simp only[List.getElem?_set_self cc,Option.some.injEq] at PC
        subst PC
        rw[← DA] at mZ
        by_cases FJ:j=j'
        · subst FJ
          simp only[List.getElem?_set_self hj,Option.some.injEq] at mZ
          subst mZ
          exact⟨x,_,hx,hc,rfl⟩
        · rw[List.getElem?_set_ne FJ] at mZ
          exact⟨x,c',hx,mZ,.refl _⟩
      · simp only[List.getElem?_set_ne nc] at PC
        exact⟨y',c',PC,mZ,.refl _⟩
    |cons ij q=>
      obtain⟨i',j'⟩:=ij
      simp only[aQ] at hq
      by_cases nc:i=i'
      · subst nc
        simp only[List.getElem?_set_self cc,←DA] at hq
        by_cases FJ:j=j'
        · subst FJ
          simp only[List.getElem?_set_self hj] at hq
          rcases jd h FI q zh hq with ⟨q',rfl,h'⟩ | ⟨hn,s2,qt,pB⟩
          · exact .inl ⟨q',rfl,h'⟩
          · refine .inr ⟨by simpa using hn,s2,?_,pB⟩
            simp only[aQ,hx,hc];exact qt
        · rw[List.getElem?_set_ne FJ] at hq
          refine .inr ⟨by simp[FJ],zh,?_,.refl _⟩
          simp only[aQ,hx];exact hq
      · simp only[List.getElem?_set_ne nc] at hq
        refine .inr ⟨by simp[nc],zh,?_,.refl _⟩
        simp only[aQ];exact hq
structure Fx where
 sz:Nat
 r0:Nat→Prop
 /-- The world as it was at the very start. -/
 wl:World
structure Gh where
 rv:Nat→Path→Value
 rf:Nat→Nat→Prop
 bx:Nat→Nat
 ro:Nat→Prop
 n:Fx
def Vd(st:St)(id ver iv:Nat)(p:Path)(r:cy):Prop:=ak st.roots id=some (.live r)∧r.ver=ver∧gE r iv p=true
def Vx(st:St)(id ver iv:Nat)(p:Path)(r:cy):Prop:=(ak st.roots id=some (.live r)∨ak st.roots id=some (.dk r))∧r.ver=ver∧gE r iv p=true
theorem Vd.x{st:St}{id ver iv:Nat}{p:Path}{r:cy}(h:Vd st id ver iv p r):Vx st id ver iv p r:=⟨.inl h.1,h.2⟩
theorem Vx.is{st:St}{id ver iv:Nat}{p:Path}{r ro:cy}(h:Vx st id ver iv p r)(hv:ak st.roots id=some (.live ro)):r=ro:=by
 rcases h.1 with h | h<;>simp[hv] at h
 exact h.symm
def cJ(st:St)(id ver iv:Nat):Prop:=
  match ak st.roots id with
 |some (.live r)=>ver<r.ver∨(ver=r.ver∧iv≤r.log.length)
 |some (.dk r)=>ver<r.ver∨(ver=r.ver∧iv≤r.log.length)
 |some (.gone v)=>ver≤v
 |none=>False
def jM(sz:Nat)(v:Value)(lo hi:Nat):Value:=
  match v with
 | .slice a _ cap=> .slice (if cap=lo then a else a.map (·.add (lo*sz))) (hi-lo) (cap-lo)
 |v=>v
def gG(w:World)(P:Nat→Prop)(t:Ty)(x:El t)(off:Nat)(u:Value):Prop:=
  ∃b o cs el fz,u = .pointer (some ⟨b,o+off,none⟩)∧P b∧w.heap[b]? =some (.cells cs el fz)∧∀(j:Nat) c,(enc t x)[j]? =some c→∃z,cs[o+j]? =some z∧lQ w P c z
def Kl(wl:World)(t:Ty)(xs:List (El t))(u:Value):Prop:=fk wl (fun _=>True) t xs u
def jZ(w:World)(g:Gh)(st:St):Sc→Value→Prop
 | .v x,u=>u=x
 | .nl,u=>u = .slice none 0 0
 | .ro t xs,u=>fk w g.ro t xs u
 | .h id ver iv p,u=>cJ st id ver iv∧∀r,Vx st id ver iv p r→u=g.rv id p∧(aQ r.t r.xs p).isSome
 | .vw id ver lo hi,u=>cJ st id ver 0∧∀r,Vx st id ver 0 [] r→lo≤hi∧hi≤r.xs.length∧u=jM (ao r.t) (g.rv id []) lo hi
 | .pt b off,u=>u = .pointer (some ⟨g.bx b,off,none⟩)∧(ak st.boxes b).isSome
 | .pe id ver iv p i off,u=>cJ st id ver iv∧∀r,Vx st id ver iv p r→∃s b o n cap,aQ r.t r.xs p=some s∧i<s.xs.length∧
   g.rv id p = .slice (some ⟨b,o,none⟩) n cap∧u = .pointer (some ⟨b,o+i*ao s.t+off,none⟩)
 | .rp t x off,u=>gG w g.ro t x off u
 | .fq fn bs,u=>u = .func (.func fn) #[] (bs.map fun b=>Value.pointer (some ⟨g.bx b,0,none⟩)).toArray∧∀b∈bs,(ak st.boxes b).isSome
 | .j5 fn ys,u=>∃ps:List Value,u = .func (.func fn) #[] ps.toArray∧ps.length=ys.length∧∀(i:Nat)(y:Σ t:Ty,El t)(q:Value),ys[i]? =some y→ps[i]? =some q→gG w g.ro y.1 y.2 0 q
 | .rk t xs,u=>Kl g.n.wl t xs u
 | .dead,_=>True
def bf(w:World)(g:Gh)(st:St)(c:Sc)(u:Value):Prop:=cO u=true∧jZ w g st c u
def cG(w:World)(g:Gh)(st:St)(cs:List Sc)(us:Array Value):Prop:=
  us.size=cs.length∧∀(j:Nat) c,cs[j]? =some c→∃z,us[j]? =some z∧bf w g st c z
def gH(w:World)(g:Gh)(st:St):Cm→Value→Prop
 | .one c,u=>bf w g st c u
 | .agg cs,u=>∃us,u = .agg us∧cG w g st cs us
def dX(w:World)(g:Gh)(st:St):Sv→Value→Prop
 | .c x,u=>gH w g st x u
 | .tu vs,u=>∃us:Array Value,u = .tuple us∧us.size=vs.length∧∀(j:Nat) x,vs[j]? =some x→∃z,us[j]? =some z∧gH w g st x z
def Re(w:World)(g:Gh)(st:St)(b:Nat)(x:Bx):Prop:=
  ∃us el,w.heap[g.bx b]? =some (.cells us el (0,0))∧cG w g st x.cs us
def cW(w:World)(F:Nat→Prop)(k:Pt)(t:Ty)(xs:List (El t))(av:Path→Value):Prop:=
 (∀ p s,k.nodeAt p=true→aQ t xs p=some s→bp w F s.t s.xs (av p) fun i j=>av (p++[(i,j)]))∧
 (∀ p q s s' n,k.nodeAt p=true→k.nodeAt q=true→aQ t xs p=some s→aQ t xs q=some s'→j8 (av p)=some n→j8 (av q)=some n→p=q)∧
  ∀p s,aQ t xs p=some s→cO (av p)=true
theorem cW.same{w w':World}{X F:Nat→Prop}(hs:bw X w w')(hd:∀k,F k→ ¬X k){a:Pt}{t:Ty}{xs:List (El t)}{av:Path→Value}(h:cW w F a t xs av):cW w' F a t xs av:=
 ⟨fun p s h1 hp=>(h.1 p s h1 hp).same hs hd,h.2⟩
theorem cW.mono{w:World}{P Q:Nat→Prop}{a:Pt}{t:Ty}{xs:List (El t)}{av:Path→Value}(tB:∀k,P k→Q k)(h:cW w P a t xs av):cW w Q a t xs av:=
 ⟨fun p s h1 hs=>(h.1 p s h1 hs).mono tB,h.2⟩
theorem bp.flat{w:World}{F:Nat→Prop}{t:Ty}{ys:List (El t)}{v:Value}{kid:Nat→Nat→Value}(h:bp w F t ys v kid):cO v=true:=by
 rcases h with ⟨_,rfl⟩ | ⟨b,o,cap,cs,el,rfl,_⟩<;>rfl
theorem aW.part{w:World}{F:Nat→Prop}{t:Ty}{xs:List (El t)}{av:Path→Value}(h:aW w F t xs av)(a:Pt):cW w F a t xs av:=
 ⟨fun p s _ hs=>h.1 p s hs,fun p q s s' k _ _=>h.2 p q s s' k,fun p s hs=>(h.1 p s hs).flat⟩
theorem fD{a b i j:Nat}:ld a b i j=true↔a<i∨(a=i∧b≤j):=by
 simp only[ld,Bool.or_eq_true,Bool.and_eq_true,Nat.blt_eq,Nat.beq_eq,Nat.ble_eq]
theorem jx{a b a' b':Nat}(h:ld a b a' b'=true):∀{p:Path},(Pt.cur a' b').nodeAt p=true→(Pt.cur a b).nodeAt p=true
  | [],_=>rfl
  | (i,j)::p,hp=>by
    simp only[Pt.nodeAt] at hp ⊢
    rw[fD] at *
    omega
theorem cW.on{w:World}{F:Nat→Prop}{a b a' b':Nat}(hl:ld a b a' b'=true){t:Ty}{xs:List (El t)}{av:Path→Value}(h:cW w F (.cur a b) t xs av):cW w F (.cur a' b') t xs av:=
 ⟨fun p s h1 hs=>h.1 p s (jx hl h1) hs,fun p q s s' k h1 h2=>h.2.1 p q s s' k (jx hl h1) (jx hl h2),h.2.2⟩
theorem BR:∀{p q:Path},Rb p q=true↔p=q
  | [],[]=>by simp[Rb]
  | [],_::_=>by simp[Rb]
  |_::_,[]=>by simp[Rb]
  | (a,b)::p,(c,d)::q=>by
    have ih:= @BR p q
    simp only[Rb,Bool.and_eq_true,Nat.beq_eq,ih,List.cons.injEq,Prod.mk.injEq,and_assoc]
theorem tC:∀{p q:Path},qm p q=true↔p <+: q
  | [],q=>by simp[qm]
  |_::_,[]=>by simp[qm]
  | (a,b)::p,(c,d)::q=>by
    have ih:= @tC p q
    simp only[qm,Bool.and_eq_true,Nat.beq_eq,ih,List.cons_prefix_cons,Prod.mk.injEq,and_assoc]
theorem gI{p:Path}(hp:p≠[]){q:Path}:(Pt.hole p).nodeAt q=true↔ ¬p <+: q:=by
 cases q with
 |nil=>simp[Pt.nodeAt,hp]
 |cons x q=>
  show (!(qm p (x::q)))=true↔_
  rw[← tC];simp
theorem oY(k:Pt)(p:Path):(Md.part k).nodeAt p=k.nodeAt p:=by
 cases p with
 |nil=>cases k<;>rfl
 |cons x p=>rfl
def aX(w:World)(g:Gh)(id:Nat)(r:cy):Prop:=
  match r.md with
 | .deep=>aW w (g.rf id) r.t r.xs (g.rv id)
 | .iZ=>kD w (g.rf id) g.ro r.t r.xs (g.rv id)
 | .BQ=>ep w g.ro r.t r.xs (g.rv id)
 | .part k=>cW w (g.rf id) k r.t r.xs (g.rv id)
def aT(st:St)(id:Nat):Prop:=∃r,ak st.roots id=some (.live r)∧r.md.cq=false
def bz(st:St)(b:Nat):Prop:=(ak st.boxes b).isSome
structure UK (w0 w:World) (Mf:Nat→Prop) (g:Gh) (st:St):Prop where
 rr:∀id aK k,aT st id→aT st aK→g.rf id k→g.rf aK k→id=aK
 rb:∀id b,aT st id→bz st b→ ¬g.rf id (g.bx b)
 bb:∀b b',bz st b→bz st b'→g.bx b=g.bx b'→b=b'
 ew:∀id k,aT st id→g.rf id k→ ¬g.ro k
 fI:∀b,bz st b→ ¬g.ro (g.bx b)
 cj:∀id k,aT st id→g.rf id k→w0.heap.size≤k∨Mf k
 dN:∀b,bz st b→w0.heap.size≤g.bx b∨Mf (g.bx b)
 er:∀id k,aT st id→g.rf id k→k<w.heap.size
 da:∀k,g.ro k→k<w.heap.size
 bM:∀k,g.ro k→g.n.r0 k∨w0.heap.size≤k∨Mf k
structure Kept (w0 w:World) (Mf:Nat→Prop):Prop where
 os:w.os=w0.os
 tape:w.tape=w0.tape
 output:w.output=w0.output
 same:bw Mf w0 w
structure UL (w0:World) (Mf:Nat→Prop) (g:Gh):Prop where
 wl:∀b o,g.n.wl.heap[b]? =some o→g.n.r0 b∧w0.heap[b]? =some o
 ap:∀k,g.n.r0 k→ ¬Mf k
 ro:∀k,g.n.r0 k→g.ro k
structure Inv (w0:World) (Mf:Nat→Prop) (g:Gh) (st:St) (a:Act) (w:World):Prop where
 az:∀s sv,ak st.az s=some sv→∃u,a.tmps[s]? =some u∧dX w g st sv u
 boxes:∀b x,ak st.boxes b=some x→Re w g st b x
 roots:∀id r,ak st.roots id=some (.live r)→aX w g id r
 apart:UK w0 w Mf g st
 kept:Kept w0 w Mf
 defers:a.defers=[]
 size:a.tmps.size=g.n.sz
 base:UL w0 Mf g
def Form(t:Ty)(u:Value)(us:Array Value):Prop:=if e8 t then u = .agg us else us = #[u]∧cO u=true
def xw(w:World)(P:Nat→Prop)(cs:List Cv)(us:Array Value):Prop:=us.size=cs.length∧∀(j:Nat) c,cs[j]? =some c→∃z,us[j]? =some z∧lQ w P c z
def fP(w:World)(F:Nat→Prop)(c:Cv)(u:Value):Prop:=match c with | .v x=>u=x | .l t xs=>gX w F t xs u
def jN(w:World)(F:Nat→Prop)(cs:List Cv)(us:Array Value):Prop:=
  ∃Fs:Nat→Nat→Prop,(∀ j k,Fs j k→F k)∧(∀ j j' k,Fs j k→Fs j' k→j=j')∧us.size=cs.length∧∀(j:Nat) c,cs[j]? =some c→∃z,us[j]? =some z∧fP w (Fs j) c z
def lh(w:World)(P:Nat→Prop)(t:Ty)(x:El t)(u:Value):Prop:=∃us,Form t u us∧xw w P (enc t x) us
def gk(w:World)(F:Nat→Prop)(t:Ty)(x:El t)(u:Value):Prop:=∃us,Form t u us∧jN w F (enc t x) us
def YG(wl:World)(c:Cv)(u:Value):Prop:=match c with | .v x=>u=x | .l t xs=>Kl wl t xs u
def BS(wl:World)(cs:List Cv)(us:Array Value):Prop:=us.size=cs.length∧∀(j:Nat) c,cs[j]? =some c→∃z,us[j]? =some z∧YG wl c z
def PD(wl:World)(t:Ty)(x:El t)(u:Value):Prop:=∃us,Form t u us∧BS wl (enc t x) us
def qu(wl:World)(sh:Bool)(w:World)(F:Nat→Prop)(cs:List Cv)(us:Array Value):Prop:=match sh with | true=>BS wl cs us | false=>jN w F cs us
def qv(wl w:World)(F:Nat→Prop)(t:Ty)(x:El t)(u:Value):Prop:=
  ∃b us el,u = .pointer (some ⟨b,0,none⟩)∧F b∧w.heap[b]? =some (.cells us el (0,0))∧qu wl (shr t) w (fun k=>F k∧k≠b) (enc t x) us
def qw(wl w:World)(ROa:Nat→Prop):Am→Dt→Value→(Nat→Prop)→Prop
 | .ro,.d t x,u,_=>lh w ROa t x u
 | .jK,.d t x,u,F=>gk w F t x u
 | .mut,.d t x,u,F=>∃e xs,(⟨t,x⟩:Σ t,El t)=⟨.sl e,xs⟩∧gX w F e xs u
 | .sG,.d t x,u,_=>gG w ROa t x 0 u
 | .bX,.d t x,u,F=>qv wl w F t x u
 | .kp,.d t x,u,_=>PD wl t x u
 | .Mz,_,u,_=>cO u=true
 | .fn,.fq fn ys,u,_=>∃ps:List Value,u = .func (.func fn) #[] ps.toArray∧ps.length=ys.length∧∀(i:Nat)(y:Σ t:Ty,El t)(q:Value),ys[i]? =some y→ps[i]? =some q→gG w ROa y.1 y.2 0 q
 |_,_,_,_=>False
inductive cE (wl w:World) (ROa:Nat→Prop):List Am→List Dt→List Value→List (Nat→Prop)→Prop where
 | nil:cE wl w ROa [] [] [] []
 | cons {m ms d ds u us F Fs} (h:qw wl w ROa m d u F) (hs:cE wl w ROa ms ds us Fs):cE wl w ROa (m::ms) (d::ds) (u::us) (F::Fs)
inductive ey (wl w:World):List Am→List Dt→List Value→List Dt→List (Nat→Prop)→Prop where
 | nil:ey wl w [] [] [] [] []
 |skip {m ms d mF u us ds Fs} (h:match m with | .mut=>False | .bX=>False | _=>True) (hs:ey wl w ms mF us ds Fs):ey wl w (m::ms) (d::mF) (u::us) ds Fs
 | mut {ms d mF u us t xs ds F Fs} (h:gX w F t xs u) (hs:ey wl w ms mF us ds Fs):ey wl w (.mut::ms) (d::mF) (u::us) (.d (.sl t) xs::ds) (F::Fs)
 | bX {ms t0 x0 mF u us t x ds F Fs} (h:qv wl w F t x u) (ht:ao t=ao t0) (hs:ey wl w ms mF us ds Fs):ey wl w (.bX::ms) (.d t0 x0::mF) (u::us) (.d t x::ds) (F::Fs)
inductive gl (wl w:World) (own:Bool):List Bool→List Dt→List Value→List (Nat→Prop)→Prop where
 | nil:gl wl w own [] [] [] []
 | val {ps t x ds u us F Fs} (h:if own then gk w F t x u else lh w F t x u) (hs:gl wl w own ps ds us Fs):gl wl w own (false::ps) (.d t x::ds) (u::us) (F::Fs)
 | ptr {ps t x ds u us F Fs} (h:own=true∧qv wl w F t x u) (hs:gl wl w own ps ds us Fs):gl wl w own (true::ps) (.d t x::ds) (u::us) (F::Fs)
def qx:List Value→Value
 | [v]=>v
 |vs=> .tuple vs.toArray
def bH(Fs:List (Nat→Prop)):Prop:=Fs.Pairwise fun F G=>∀k,F k→G k→False
structure jy (wl w w':World) (Mf ROa:Nat→Prop) (s:Spec) (ds:List Dt) (us:List Value) (outs:List Dt) (e:Ending):Prop where
 out:∃rs Gs Bs,e = .returned (qx rs)∧gl wl w' s.own s.res (outs.take s.res.length) rs Gs∧ey wl w' s.bL ds us (outs.drop s.res.length) Bs∧
  bH Bs∧(∀ B∈Bs,∀k,B k→Mf k∨w.heap.size≤k)∧
  (s.own=true→bH Gs∧(∀ G∈Gs,∀k,G k→Mf k∨w.heap.size≤k))∧
  (s.own=false→∀G∈Gs,∀k,G k→(ROa k∨w.heap.size≤k))∧
  (∀ G∈Gs,∀B∈Bs,∀k,G k→B k→False)∧
  (∀ G∈Gs,∀k,G k→k<w'.heap.size)∧(∀ B∈Bs,∀k,B k→k<w'.heap.size)
 kept:Kept w w' Mf
def tD:List Nat→List Value→List Value
  | [],us=>us
  |0::sh,u::us=>u::tD sh us
  |0::_,[]=>[]
  | (n+1)::sh,us=> .agg (us.take (n+1)).toArray::tD sh (us.drop (n+1))
def sP(P:Program)(wl:World):Prop:=wl.ShapedOpen P
def Rf(wl w:World)(ROa:Nat→Prop):Prop:=∀b o,wl.heap[b]? =some o→ROa b∧w.heap[b]? =some o
def fb(P:Program)(f:Nat)(s:Spec):Prop:=
  ∀{R:Type}(ds:List Dt)(k:Kt R)(r:R),s.fn ds k=some r→
    ∀(wl w:World)(us:List Value)(Mf ROa:Nat→Prop)(Fs:List (Nat→Prop)),sP P wl→Rf wl w ROa→cE wl w ROa s.bL ds us Fs→bH Fs→(∀ F∈Fs,∀k,F k→Mf k)→
 (∀ k,ROa k→ ¬Mf k)→(∀ k,ROa k→k<w.heap.size)→(∀ k,Mf k→k<w.heap.size)→
      Calls P f (tD s.shape us).toArray w fun e w'=>∃outs,k outs=some r∧jy wl w w' Mf ROa s ds us outs e
theorem aR{α β:Type}{o:Option α}{k:α→Option β}{r:β}(h:o.bind k=some r):∃a,o=some a∧k a=some r:=Option.bind_eq_some_iff.1 h
theorem PE{β:Type}{b:Bool}{x:Option β}{r:β}(h:cond b none x=some r):b=false∧x=some r:=by cases b<;>simp_all
theorem bg{β:Type}{b:Bool}{x:Option β}{r:β}(h:cond b x none=some r):b=true∧x=some r:=by cases b<;>simp_all
theorem gB{a b:Nat}(h:Nat.beq a b=true):a=b:=Nat.eq_of_beq_eq_true h
theorem MB{a b:Nat}(h:a≠b):Nat.beq a b=false:=by
 cases h':Nat.beq a b
 ·rfl
 ·exact absurd (gB h') h
theorem gT{a b:Nat}(h:Nat.ble a b=true):a≤b:=Nat.le_of_ble_eq_true h
section assoc
variable {α : Type}
theorem aJ(l:List (Nat×α))(n:Nat)(v:α)(m:Nat):ak (bc l n v) m=if m=n then some v else ak l m:=by
 induction l with
 |nil=>
  by_cases h:m=n
  ·subst h;simp[bc,ak,Nat.beq_refl]
  ·have:Nat.beq m n=false:=MB h
   simp[bc,ak,this,h]
 |cons kv l ih=>
  obtain⟨k,u⟩:=kv
  simp only[bc]
  cases hnk:Nat.beq n k
  ·simp only[cond_false]
   cases cc:Nat.blt n k
   ·simp only[cond_false,ak,ih]
    by_cases Mi:m=n
    ·subst Mi;simp[hnk]
    ·simp[Mi]
   ·simp only[cond_true,ak]
    by_cases Mi:m=n
    ·subst Mi;simp[Nat.beq_refl]
    ·have:Nat.beq m n=false:=MB Mi
     simp[this,Mi]
  ·have hk:=gB hnk
   subst hk
   simp only[cond_true,ak]
   by_cases Mi:m=n
   ·subst Mi;simp[Nat.beq_refl]
   ·have:Nat.beq m n=false:=MB Mi
    simp[this,Mi]
theorem bj(l:List (Nat×α))(n:Nat)(v:α):ak (bc l n v) n=some v:=by simp[aJ]
theorem bQ(l:List (Nat×α)){n m:Nat}(v:α)(h:m≠n):ak (bc l n v) m=ak l m:=by simp[aJ,h]
end assoc
variable {R : Type} {w0 w : World} {Mf : Nat → Prop} {g : Gh} {st : St} {a : Act}
theorem kY{v:Value}{c:Sc}(h:iV v=some c):bf w g st c v:=by
 unfold iV at h
 split at h<;>simp only[Option.some.injEq,reduceCtorEq] at h<;>subst h<;>exact⟨rfl,rfl⟩
theorem j9:∀{vs:List Value}{cs:List Sc},gj vs=some cs→vs.length=cs.length∧∀(j:Nat) c,cs[j]? =some c→∃z,vs[j]? =some z∧bf w g st c z
 | [],cs,h=>by simp only[gj,Option.some.injEq] at h;subst h;simp
 |v::vs,cs,h=>by
  simp only[gj] at h
  obtain⟨c,hc,h⟩:=aR h
  obtain⟨m0,fc,h⟩:=aR h
  simp only[Option.some.injEq] at h;subst h
  obtain⟨h1,h2⟩:=j9 fc
  refine⟨by simp[h1],fun j c' hj=> ?_⟩
  cases j with
  |zero=>simp only[List.getElem?_cons_zero,Option.some.injEq] at hj;subst hj;exact⟨v,rfl,kY hc⟩
  |succ j=>simpa using h2 j c' (by simpa using hj)
theorem sQ{v:Value}{s:Sv}(h:lP v=some s):dX w g st s v:=by
 unfold lP at h
 split at h
 ·rename_i cs
  obtain⟨l,hl,h⟩:=aR h
  simp only[Option.some.injEq] at h;subst h
  obtain⟨h1,h2⟩:=j9 (w:=w) (g:=g) (st:=st) hl
  exact⟨cs,rfl,by simpa using h1,fun j c hj=>by simpa using h2 j c hj⟩
 ·obtain⟨c,hc,h⟩:=aR h
  simp only[Option.some.injEq] at h;subst h
  exact kY hc
theorem Inv.dq(I:Inv w0 Mf g st a w){x:Operand}{k:Sv→Option R}{r:R}(h:dq st x k=some r):
    ∃s,k s=some r∧dX w g st s (a.eval x):=by
 cases x with
 |tmp t=>
  obtain⟨s,hs,hk⟩:=aR h
  obtain⟨u,hu,hr⟩:=I.az t s hs
  exact⟨s,hk,by simpa [Act.eval,Array.getD_eq_getD_getElem?,hu] using hr⟩
 |const v=>
  obtain⟨s,hs,hk⟩:=aR h
  exact⟨s,hk,sQ hs⟩
 |func f=>exact⟨_,h,rfl,rfl,by simp⟩
 |global n=>cases h
theorem Inv.X5(I:Inv w0 Mf g st a w){t:Ty}{xs:List (El t)}{u:Value}(h:Kl g.n.wl t xs u):fk w g.ro t xs u:=by
 obtain⟨av,h0,h1⟩:=h
 refine⟨av,h0,fun p s hs=> ?_⟩
 obtain⟨ad,cap,e,hle,hh⟩:=h1 p s hs
 refine⟨ad,cap,e,hle,fun hn=> ?_⟩
 obtain⟨b,o,cs,el,fz,e1,_,e3,e4⟩:=hh hn
 obtain⟨h2,h3⟩:=I.base.wl b _ e3
 exact⟨b,o,cs,el,fz,e1,I.base.ro b h2,I.kept.same.get h3 (I.base.ap b h2),e4⟩
theorem Inv.fu(I:Inv w0 Mf g st a w){x:Operand}{k:Sc→Option R}{r:R}(h:fu st x k=some r):
    ∃c,k c=some r∧bf w g st c (a.eval x):=by
 obtain⟨s,hk,hs⟩:=I.dq h
 split at hk
 ·rename_i c
  refine⟨_,hk,?_⟩
  cases c with
  |rk t xs=>exact⟨hs.1,I.X5 hs.2⟩
  |_=>exact hs
 ·cases hk
theorem Inv.iA(I:Inv w0 Mf g st a w){x:Operand}{k:Value→Option R}{r:R}(h:iA st x k=some r):
 k (a.eval x)=some r∧cO (a.eval x)=true:=by
 obtain⟨c,hk,hc⟩:=I.fu h
 split at hk
 ·rename_i u
  have:=hc.2
  simp only[jZ] at this
  rw[this];exact⟨hk,by rw[← this];exact hc.1⟩
 ·cases hk
theorem Inv.getBool(I:Inv w0 Mf g st a w){x:Operand}{k:Bool→Option R}{r:R}(h:getBool st x k=some r):
    ∃b,k b=some r∧a.eval x = .bool b:=by
 have:=(I.iA h).1
 split at this
 ·rename_i b he;exact⟨b,this,he⟩
 ·cases this
theorem Inv.getInt(I:Inv w0 Mf g st a w){x:Operand}{k:Int→Option R}{r:R}(h:getInt st x k=some r):
    ∃n,k n=some r∧a.eval x = .int .i64 n:=by
 have:=(I.iA h).1
 split at this
 ·rename_i b he;exact⟨b,this,he⟩
 ·cases this
def BT(a:Act)(x:Option Operand)(d n:Int):Prop:=match x with | none=>n=d | some x=>a.eval x = .int .i64 n
theorem Inv.fv(I:Inv w0 Mf g st a w){x:Option Operand}{d:Int}{k:Int→Option R}{r:R}(h:fv st x d k=some r):
    ∃n,k n=some r∧BT a x d n:=by
 cases x with
 |none=>exact⟨d,h,rfl⟩
 |some x=>exact I.getInt h
theorem Inv.j7(I:Inv w0 Mf g st a w):∀{xs:List Operand}{k:List Sv→Option R}{r:R},j7 st xs k=some r→
    ∃ss,k ss=some r∧ss.length=xs.length∧∀(j:Nat) s,ss[j]? =some s→∃x,xs[j]? =some x∧dX w g st s (a.eval x)
 | [],k,r,h=>⟨[],h,rfl,by simp⟩
 |x::xs,k,r,h=>by
  obtain⟨s,hk,hs⟩:=I.dq h
  obtain⟨ss,mb,hl,hr⟩:=I.j7 hk
  refine⟨s::ss,mb,by simp[hl],fun j s' hj=> ?_⟩
  cases j with
  |zero=>simp only[List.getElem?_cons_zero,Option.some.injEq] at hj;subst hj;exact⟨x,rfl,hs⟩
  |succ j=>simpa using hr j s' (by simpa using hj)
theorem dg{id ver:Nat}{k:cy→Option R}{r:R}(h:iH st id ver k=some r):∃ro,ak st.roots id=some (.live ro)∧ro.ver=ver∧k ro=some r:=by
 unfold iH at h
 split at h
 ·rename_i ro dh
  obtain⟨h1,h2⟩:=bg h
  exact⟨ro,dh,gB h1,h2⟩
 ·cases h
theorem de{id ver iv:Nat}{p:Path}{k:cy→Option R}{r:R}(h:jb st id ver iv p k=some r):∃ro,Vd st id ver iv p ro∧k ro=some r:=by
 obtain⟨ro,h1,h2,h3⟩:=dg h
 obtain⟨h4,h5⟩:=bg h3
 exact⟨ro,⟨h1,h2,h4⟩,h5⟩
theorem Vd.root{id ver iv:Nat}{p:Path}{r:cy}(h:Vd st id ver iv p r):ak st.roots id=some (.live r):=h.1
theorem fY(r:cy)(iv:Nat):gE r iv []=true:=by simp[gE,Nat.ble]
def Uj(g:Gh)(st:St)(k:Nat):Prop:=g.ro k∨∃id,aT st id∧g.rf id k
theorem Inv.tree(I:Inv w0 Mf g st a w){id:Nat}{r:cy}(h:ak st.roots id=some (.live r))(hp:r.md.iG []=true):ep w (Uj g st) r.t r.xs (g.rv id):=by
 have hr:=I.roots id r h
 unfold aX at hr
 split at hr
 ·rename_i hm;exact hr.rd.mono fun k hk=> .inr ⟨id,⟨r,h,by rw[hm];rfl⟩,hk⟩
 ·rename_i hm;exact hr.rd.mono fun k hk=>hk.elim (fun hk=> .inr ⟨id,⟨r,h,by rw[hm];rfl⟩,hk⟩) .inl
 ·exact hr.mono fun k hk=> .inl hk
 ·rename_i k hm;rw[hm] at hp;cases k<;>cases hp
theorem Inv.lj(I:Inv w0 Mf g st a w){id:Nat}{r:cy}(h:ak st.roots id=some (.live r)){p:Path}(hp:r.md.nodeAt p=true){s:Sl}(hs:aQ r.t r.xs p=some s):
    eH w (Uj g st) s.t s.xs (g.rv id p) fun i j=>g.rv id (p++[(i,j)]):=by
 have hr:=I.roots id r h
 unfold aX at hr
 split at hr
 ·rename_i hm;exact (hr.rd p s hs).mono fun k hk=> .inr ⟨id,⟨r,h,by rw[hm];rfl⟩,hk⟩
 ·rename_i hm;exact (hr.rd p s hs).mono fun k hk=>hk.elim (fun hk=> .inr ⟨id,⟨r,h,by rw[hm];rfl⟩,hk⟩) .inl
 ·exact (hr p s hs).mono fun k hk=> .inl hk
 ·rename_i hm;rw[hm,oY] at hp;exact (hr.1 p s hp hs).rd.mono fun k hk=> .inr ⟨id,⟨r,h,by rw[hm];rfl⟩,hk⟩
theorem Inv.xx(I:Inv w0 Mf g st a w){id:Nat}{r:cy}(h:ak st.roots id=some (.live r)){p:Path}{s:Sl}(hs:aQ r.t r.xs p=some s):cO (g.rv id p)=true:=by
 have hr:=I.roots id r h
 unfold aX at hr
 have hf:∀{P:Nat→Prop}{kid:Nat→Nat→Value},eH w P s.t s.xs (g.rv id p) kid→cO (g.rv id p)=true:=fun ⟨a,cap,e,_⟩=>by rw[e];rfl
 split at hr
 ·exact hf (hr.rd p s hs)
 ·exact hf (hr.rd p s hs)
 ·exact hf (hr p s hs)
 ·exact hr.2.2 p s hs
theorem qy{m:Md}{p:Path}(hp:m.iG p=true)(q:Path):m.nodeAt (p++q)=true:=by
 cases m with
 |part k=>
  cases k with
  |hole p0=>cases hp
  |cur a b=>
   cases p with
   |nil=>cases hp
   |cons ij p=>exact hp
 |deep=>cases p++q<;>rfl
 |iZ=>cases p++q<;>rfl
 |BQ=>cases p++q<;>rfl
theorem Inv.iG(I:Inv w0 Mf g st a w){id:Nat}{r:cy}(h:ak st.roots id=some (.live r)){p:Path}(hp:r.md.iG p=true){s:Sl}(hs:aQ r.t r.xs p=some s):
    ep w (Uj g st) s.t s.xs fun q=>g.rv id (p++q):=by
 intro q s' eZ
 have:=I.lj h (qy hp q) (p:=p++q) (s:=s') (by rw[cn q hs];exact eZ)
 simpa [List.append_assoc] using this
theorem gJ{α:Type}(xs:List α)(lo hi i:Nat):((xs.take hi).drop lo)[i]? =if lo+i<hi then xs[lo+i]? else none:=by
 rw[List.getElem?_drop,List.getElem?_take]
theorem eH.YH{P:Nat→Prop}{t:Ty}{xs:List (El t)}{v:Value}{kid:Nat→Nat→Value}(h:eH w P t xs v kid){lo hi:Nat}(h1:lo≤hi)(h2:hi≤xs.length):
    ∃a cap,jM (ao t) v lo hi = .slice a ((xs.take hi).drop lo).length cap∧True:=by
 obtain⟨a,cap,e,hle,_⟩:=h
 have hlen:((xs.take hi).drop lo).length=hi-lo:=by simp;omega
 exact⟨(if cap=lo then a else a.map (·.add (lo*ao t))),cap-lo,by simp only[e,jM,hlen],trivial⟩
theorem ep.cut{P:Nat→Prop}{t:Ty}{xs:List (El t)}{av:Path→Value}(h:ep w P t xs av){lo hi:Nat}(h1:lo≤hi)(h2:hi≤xs.length):
    fk w P t ((xs.take hi).drop lo) (jM (ao t) (av []) lo hi):=by
 refine⟨fun p=>match p with | []=>jM (ao t) (av []) lo hi | (i,j)::p=>av ((i+lo,j)::p),rfl,?_⟩
 intro p s hs
 cases p with
 |nil=>
  simp only[aQ,Option.some.injEq] at hs
  subst hs
  obtain⟨a,cap,e,hle,hh⟩:=h [] ⟨t,xs⟩ rfl
  have hlen:((xs.take hi).drop lo).length=hi-lo:=by simp;omega
  refine⟨(if cap=lo then a else a.map (·.add (lo*ao t))),cap-lo,by simp only[e,jM,hlen],by simp only[hlen];simp only at hle;omega,fun hn=> ?_⟩
  have cc:lo<hi:=by
   rcases Nat.lt_or_ge lo hi with h' | h'
   ·exact h'
   ·exact absurd (List.length_eq_zero_iff.1 (by rw[hlen];omega)) hn
  obtain⟨b,o,cs,el,fz,rfl,hP,hb,hr⟩:=hh (by intro h0;simp only at h0;rw[h0] at h2;simp at h2;omega)
  have YI:∃o',(if cap=lo then (some ⟨b,o,none⟩:Option Addr) else (some (⟨b,o,none⟩:Addr)).map (·.add (lo*ao t)))=some ⟨b,o',none⟩∧(o'=o+lo*ao t):=by
   simp only at hle
   rw[if_neg (by omega)]
   simp only[Option.map_some,Addr.add]
   split
   ·rename_i h0;exact⟨_,rfl,by omega⟩
   ·exact⟨_,rfl,rfl⟩
  obtain⟨o',sH,rfl⟩:=YI
  refine⟨b,_,cs,el,fz,sH,hP,hb,?_⟩
  intro i y j c hy hc
  simp only[gJ] at hy
  split at hy
  ·obtain⟨u,hu,gu⟩:=hr (lo+i) y j c hy hc
   refine⟨u,?_,?_⟩
   ·rw[← hu];congr 1;simp only[Nat.add_mul];omega
   ·simpa [Nat.add_comm] using gu
  ·cases hy
 |cons ij p=>
  obtain⟨i,j⟩:=ij
  simp only[aQ,gJ] at hs
  split at hs
  case h_2=>cases hs
  rename_i x hx
  split at hx
  case isFalse=>cases hx
  have:=h ((lo+i,j)::p) s (by simp only[aQ,hx];exact hs)
  simpa [Nat.add_comm] using this
end Go.Gm
namespace Go.Gm
open Go
variable {R : Type} {w0 w : World} {Mf : Nat → Prop} {g : Gh} {st : St} {a : Act}
theorem BU(P:Nat→Prop)(t:Ty)(u:Value)(h:∃a cap,u = .slice a 0 cap):fk w P t [] u:=by
 obtain⟨a,cap,rfl⟩:=h
 refine⟨fun _=> .slice a 0 cap,rfl,fun p s hs=> ?_⟩
 cases p with
 |nil=>simp only[aQ,Option.some.injEq] at hs;subst hs;exact⟨a,cap,rfl,Nat.zero_le _,fun h=>absurd rfl h⟩
 |cons ij p=>simp[aQ] at hs
theorem Inv.ma(I:Inv w0 Mf g st a w){c:Sc}{q:Option Ty}{k:Cv→Option R}{r:R}{u:Value}(h:ma st c q k=some r)(hc:bf w g st c u):
    ∃cv,k cv=some r∧lQ w (Uj g st) cv u:=by
 unfold Gm.ma at h
 split at h
 ·exact⟨_,h,hc.2⟩
 ·exact⟨_,h,BU _ _ _ ⟨none,0,hc.2⟩⟩
 ·exact⟨_,h,fk.mono (fun k hk=> .inl hk) hc.2⟩
 ·exact⟨_,h,fk.mono (fun k hk=> .inl hk) (I.X5 hc.2)⟩
 ·obtain⟨ro,hv,h⟩:=de h
  obtain⟨DB,h⟩:=bg h
  obtain⟨s,hs,h⟩:=aR h
  obtain⟨hu,je⟩:=hc.2.2 ro hv.x
  obtain⟨s',eZ⟩:=Option.isSome_iff_exists.1 je
  have:=cV eZ
  rw[hs] at this;cases this
  refine⟨_,h,_,?_,I.iG hv.1 DB eZ⟩
  simpa using hu.symm
 ·obtain⟨ro,hv,fJ,h⟩:=dg h
  obtain⟨DB,h⟩:=bg h
  obtain⟨h1,h2,hu⟩:=hc.2.2 ro ⟨.inl hv,fJ,fY _ _⟩
  refine⟨_,h,?_⟩
  simp only[lQ,hu]
  exact (I.tree hv DB).cut h1 h2
 ·cases h
def ka(w:World)(g:Gh)(st:St):List Sc→List Value→Prop
 | [],[]=>True
 |c::cs,u::us=>bf w g st c u∧ka w g st cs us
 |_,_=>False
theorem ka.of:∀{cs:List Sc}{us:List Value},us.length=cs.length→(∀(j:Nat) c,cs[j]? =some c→∃z,us[j]? =some z∧bf w g st c z)→ka w g st cs us
 | [],[],_,_=>trivial
 | [],_::_,h,_=>by simp at h
 |_::_,[],h,_=>by simp at h
 |c::cs,u::us,h,hr=>by
  refine⟨?_,ka.of (by simpa using h) fun j c' hj=>by simpa using hr (j+1) c' (by simpa using hj)⟩
  obtain⟨z,hz,hc⟩:=hr 0 c rfl
  simp only[List.getElem?_cons_zero,Option.some.injEq] at hz;subst hz;exact hc
theorem ka.len:∀{cs:List Sc}{us:List Value},ka w g st cs us→us.length=cs.length
 | [],[],_=>rfl
 | [],_::_,h=>h.elim
 |_::_,[],h=>h.elim
 |_::cs,_::us,h=>by simp[ka.len h.2]
theorem ka.get:∀{cs:List Sc}{us:List Value},ka w g st cs us→∀(j:Nat) c,cs[j]? =some c→∃z,us[j]? =some z∧bf w g st c z
 | [],[],_,j,c,h=>by simp at h
 | [],_::_,h,_,_,_=>h.elim
 |_::_,[],h,_,_,_=>h.elim
 |c::cs,u::us,h,j,c',hj=>by
  cases j with
  |zero=>simp only[List.getElem?_cons_zero,Option.some.injEq] at hj;subst hj;exact⟨u,rfl,h.1⟩
  |succ j=>simpa using ka.get h.2 j c' (by simpa using hj)
theorem cG.l{cs:List Sc}{us:Array Value}(h:cG w g st cs us):ka w g st cs us.toList:=
  ka.of (by simpa using h.1) fun j c hj=>by simpa using h.2 j c hj
theorem ka.arr{cs:List Sc}{us:Array Value}(h:ka w g st cs us.toList):cG w g st cs us:=
 ⟨by simpa using h.len,fun j c hj=>by simpa using h.get j c hj⟩
def gK(w:World)(P:Nat→Prop):List Cv→List Value→Prop
 | [],[]=>True
 |c::cs,u::us=>lQ w P c u∧gK w P cs us
 |_,_=>False
theorem gK.len{P:Nat→Prop}:∀{cs:List Cv}{us:List Value},gK w P cs us→us.length=cs.length
 | [],[],_=>rfl
 | [],_::_,h=>h.elim
 |_::_,[],h=>h.elim
 |_::cs,_::us,h=>by simp[gK.len h.2]
theorem gK.get{P:Nat→Prop}:∀{cs:List Cv}{us:List Value},gK w P cs us→∀(j:Nat) c,cs[j]? =some c→∃z,us[j]? =some z∧lQ w P c z
 | [],[],_,j,c,h=>by simp at h
 | [],_::_,h,_,_,_=>h.elim
 |_::_,[],h,_,_,_=>h.elim
 |c::cs,u::us,h,j,c',hj=>by
  cases j with
  |zero=>simp only[List.getElem?_cons_zero,Option.some.injEq] at hj;subst hj;exact⟨u,rfl,h.1⟩
  |succ j=>simpa using gK.get h.2 j c' (by simpa using hj)
theorem gK.arr{P:Nat→Prop}{cs:List Cv}{us:Array Value}(h:gK w P cs us.toList):xw w P cs us:=
 ⟨by simpa using h.len,fun j c hj=>by simpa using h.get j c hj⟩
theorem Inv.zy(I:Inv w0 Mf g st a w):∀{cs:List Sc}{qs:List (Option Ty)}{k:List Cv→Option R}{r:R}{us:List Value},zy st cs qs k=some r→ka w g st cs us→
    ∃cv,k cv=some r∧gK w (Uj g st) cv us
 | [],[],k,r,us,h,hc=>by
  cases us with
  |nil=>exact⟨[],h,trivial⟩
  |cons u us=>exact hc.elim
 |c::cs,q::qs,k,r,us,h,hc=>by
  cases us with
  |nil=>exact hc.elim
  |cons u us=>
   obtain⟨cv,h1,h2⟩:=I.ma h hc.1
   obtain⟨xy,h3,h4⟩:=I.zy h1 hc.2
   exact⟨cv::xy,h3,h2,h4⟩
 | [],_::_,k,r,us,h,hc=>by cases h
 |_::_,[],k,r,us,h,hc=>by cases h
theorem dr{t:Ty}{s:Sv}{cs:List Sc}{u:Value}(h:fa t s=some cs)(hs:dX w g st s u):∃us,Form t u us∧cG w g st cs us:=by
 unfold fa at h
 split at h
 ·rename_i ht
  simp only[Option.some.injEq] at h;subst h
  obtain⟨us,rfl,hc⟩:=hs
  exact⟨us,by simp[Form,ht],hc⟩
 ·rename_i ht
  simp only[Option.some.injEq] at h;subst h
  refine⟨#[u],?_,by simp,fun j c hj=> ?_⟩
  ·simp only[Form,ht,Bool.false_eq_true,if_false,true_and];exact hs.1
  ·cases j with
   |zero=>simp only[List.getElem?_cons_zero,Option.some.injEq] at hj;subst hj;exact⟨u,rfl,hs⟩
   |succ j=>simp at hj
 ·cases h
theorem Inv.og(I:Inv w0 Mf g st a w){t:Ty}{s:Sv}{k:El t→Option R}{r:R}{u:Value}(h:og st t s k=some r)(hs:dX w g st s u):
    ∃x,k x=some r∧lh w (Uj g st) t x u:=by
 obtain⟨cs,fc,h⟩:=aR h
 obtain⟨us,hf,hc⟩:=dr fc hs
 obtain⟨cv,h1,h2⟩:=I.zy h hc.l
 obtain⟨x,hx,h3⟩:=aR h1
 refine⟨x,h3,us,hf,?_⟩
 rw[← cY hx]
 exact h2.arr
theorem jZ.roots{aI:St}{c:Sc}{u:Value}(hb:∀b,(ak st.boxes b).isSome→(ak aI.boxes b).isSome)
 (hv:∀id ver iv,cJ st id ver iv→cJ aI id ver iv) (hr:∀id ver iv p r,cJ st id ver iv→Vx aI id ver iv p r→Vx st id ver iv p r) (h:jZ w g st c u):jZ w g aI c u:=by
 cases c with
 |h id ver iv p=>exact⟨hv _ _ _ h.1,fun r jf=>h.2 r (hr _ _ _ _ _ h.1 jf)⟩
 |vw id ver lo hi=>exact⟨hv _ _ _ h.1,fun r jf=>h.2 r (hr _ _ _ _ _ h.1 jf)⟩
 |pe id ver iv p i off=>exact⟨hv _ _ _ h.1,fun r jf=>h.2 r (hr _ _ _ _ _ h.1 jf)⟩
 |pt b off=>exact⟨h.1,hb _ h.2⟩
 |fq fn bs=>exact⟨h.1,fun b hm=>hb _ (h.2 b hm)⟩
 |_=>exact h
theorem cG.map{g':Gh}{w':World}{aI:St}{cs:List Sc}{us:Array Value}(hm:∀c u,bf w g st c u→bf w' g' aI c u)(h:cG w g st cs us):cG w' g' aI cs us:=
 ⟨h.1,fun j c hj=>let ⟨z,hz,hc⟩:=h.2 j c hj;⟨z,hz,hm _ _ hc⟩⟩
theorem gH.map{g':Gh}{w':World}{aI:St}{x:Cm}{u:Value}(hm:∀c u,bf w g st c u→bf w' g' aI c u)(h:gH w g st x u):gH w' g' aI x u:=by
 cases x with
 |one c=>exact hm _ _ h
 |agg cs=>obtain⟨us,rfl,hc⟩:=h;exact⟨us,rfl,hc.map hm⟩
theorem dX.map{g':Gh}{w':World}{aI:St}{x:Sv}{u:Value}(hm:∀c u,bf w g st c u→bf w' g' aI c u)(h:dX w g st x u):dX w' g' aI x u:=by
 cases x with
 |c x=>exact gH.map hm h
 |tu vs=>obtain⟨us,rfl,hl,hc⟩:=h;exact⟨us,rfl,hl,fun j x hj=>let ⟨z,hz,h⟩:=hc j x hj;⟨z,hz,h.map hm⟩⟩
theorem Inv.drop(I:Inv w0 Mf g st a w){id:Nat}{r:cy}(h:ak st.roots id=some (.live r)):
    Inv w0 Mf g { st with roots:=bc st.roots id (.gone r.ver) } a w:=by
 have hm:∀c u,bf w g st c u→bf w g { st with roots:=bc st.roots id (.gone r.ver) } c u:=fun c u hc=>
  ⟨hc.1,jZ.roots (st:=st) (fun b hb=>hb)
   (fun aK ver iv hv=>by
    unfold cJ at hv ⊢
    simp only[aJ]
    by_cases cQ:aK=id
    ·subst cQ;simp only[h] at hv;simp only[if_true];omega
    ·simpa [cQ] using hv)
   (fun aK ver iv p r' _ hv=>by
    obtain⟨h1,h2,h3⟩:=hv
    simp only[aJ] at h1
    by_cases cQ:aK=id
    ·simp[cQ] at h1
    ·exact⟨by simpa [cQ] using h1,h2,h3⟩) hc.2⟩
 have ho:∀aK,aT { st with roots:=bc st.roots id (.gone r.ver) } aK→aT st aK:=fun aK ⟨r',h1,h2⟩=>by
  simp only[aJ] at h1
  by_cases cQ:aK=id
  ·simp[cQ] at h1
  ·exact⟨r',by simpa [cQ] using h1,h2⟩
 exact {
  az:=fun s sv hs=>let ⟨u,hu,hr⟩:=I.az s sv hs;⟨u,hu,hr.map hm⟩
  boxes:=fun b x hb=>let ⟨us,el,h1,h2⟩:=I.boxes b x hb;⟨us,el,h1,h2.map hm⟩
  roots:=fun aK r' hr=>I.roots aK r' (by
   simp only[aJ] at hr
   by_cases cQ:aK=id
   ·simp[cQ] at hr
   ·simpa [cQ] using hr)
  apart:={
   rr:=fun i i' k h1 h2=>I.apart.rr i i' k (ho _ h1) (ho _ h2)
   rb:=fun i b h1 h2=>I.apart.rb i b (ho _ h1) h2
   bb:=I.apart.bb
   ew:=fun i k h1=>I.apart.ew i k (ho _ h1)
   fI:=I.apart.fI
   cj:=fun i k h1=>I.apart.cj i k (ho _ h1)
   dN:=I.apart.dN
   er:=fun i k h1=>I.apart.er i k (ho _ h1)
   da:=I.apart.da
   bM:=I.apart.bM }
  kept:=I.kept
  defers:=I.defers
  size:=I.size
  base:=⟨I.base.wl,I.base.ap,I.base.ro⟩ }
theorem bh{α:Type}:∀(l u v:List (Nat×α)),ck l (u++v)=ck (ck l u) v
 |_,[],_=>rfl
 |l,(n,x)::u,v=>by simp only[List.cons_append,ck];exact bh _ u v
inductive kE (w:World) (ro:Nat→Prop):List Cv→List Value→List (Nat→Prop)→Bool→Prop where
 | nil:kE w ro [] [] [] true
 |cons {c cs u us F Fs d d'} (hr:lQ w (fun k=>F k∨ro k) c u) (ho:d=true→fP w F c u) (hs:kE w ro cs us Fs d'):kE w ro (c::cs) (u::us) (F::Fs) (d&&d')
structure iS (w:World) (g:Gh) (st aI:St) (fe:List (Nat×Rt)) (Fs:List (Nat→Prop)):Prop where
 eq:aI={ st with roots:=ck st.roots fe }
 own:∀id,aT aI id→aT st id
 map:∀c u,bf w g st c u→bf w g aI c u
 apart:bH Fs
 src:∀F∈Fs,∀k,F k→∃id,aT st id∧g.rf id k
 off:∀F∈Fs,∀k,F k→∀id,aT aI id→ ¬g.rf id k
 live:∀id r,ak aI.roots id=some (.live r)→ak st.roots id=some (.live r)
 dk:∀id r,ak st.roots id=some (.dk r)→ak aI.roots id=some (.dk r)
theorem iS.refl(w:World)(g:Gh)(st:St):iS w g st st [] []:=
 ⟨rfl,fun _ h=>h,fun _ _ h=>h,List.Pairwise.nil,by simp,by simp,fun _ _ h=>h,fun _ _ h=>h⟩
theorem iS.trans{s1 s2 s3:St}{u v:List (Nat×Rt)}{Fs Gs:List (Nat→Prop)}(h:iS w g s1 s2 u Fs)(k:iS w g s2 s3 v Gs):iS w g s1 s3 (u++v) (Fs++Gs):=by
 refine⟨?_,fun id hi=>h.own id (k.own id hi),fun c u hc=>k.map c u (h.map c u hc),?_,?_,?_,fun id r hr=>h.live id r (k.live id r hr),fun id r hr=>k.dk id r (h.dk id r hr)⟩
 ·rw[k.eq,h.eq,bh]
 ·refine List.pairwise_append.2 ⟨h.apart,k.apart,fun F hF G hG n hn Mj=> ?_⟩
  obtain⟨id,cQ,k7⟩:=k.src G hG n Mj
  exact h.off F hF n hn id cQ k7
 ·intro F hF n hn
  rcases List.mem_append.1 hF with hF | hF
  ·exact h.src F hF n hn
  ·obtain⟨id,cQ,k7⟩:=k.src F hF n hn
   exact⟨id,h.own id cQ,k7⟩
 ·intro F hF n hn id cQ
  rcases List.mem_append.1 hF with hF | hF
  ·exact h.off F hF n hn id (k.own id cQ)
  ·exact k.off F hF n hn id cQ
theorem Inv.xA(I:Inv w0 Mf g st a w){id:Nat}{r:cy}(h:ak st.roots id=some (.live r))(hm:r.md.cq=false):
    iS w g st { st with roots:=bc st.roots id (.gone r.ver) } [(id,.gone r.ver)] [g.rf id]:=by
 have ho:∀aK,aT { st with roots:=bc st.roots id (.gone r.ver) } aK→aT st aK∧aK≠id:=fun aK ⟨r',h1,h2⟩=>by
  simp only[aJ] at h1
  by_cases cQ:aK=id
  ·simp[cQ] at h1
  ·exact⟨⟨r',by simpa [cQ] using h1,h2⟩,cQ⟩
 have dO:aT st id:=⟨r,h,hm⟩
 refine⟨rfl,fun aK h'=>(ho aK h').1,fun c u hc=> ?_,List.pairwise_singleton _ _,?_,?_,fun aK r' h'=>by
  simp only[aJ] at h'
  by_cases cQ:aK=id
  ·simp[cQ] at h'
  ·simpa [cQ] using h',fun aK r' h'=>by
  simp only[aJ]
  by_cases cQ:aK=id
  ·subst cQ;rw[h] at h';cases h'
  ·simpa [cQ] using h'⟩
 ·exact⟨hc.1,jZ.roots (st:=st) (fun b hb=>hb)
   (fun aK ver iv hv=>by
    unfold cJ at hv ⊢
    simp only[aJ]
    by_cases cQ:aK=id
    ·subst cQ;simp only[h] at hv;simp only[if_true];omega
    ·simpa [cQ] using hv)
   (fun aK ver iv p r' _ hv=>by
    obtain⟨h1,h2,h3⟩:=hv
    simp only[aJ] at h1
    by_cases cQ:aK=id
    ·simp[cQ] at h1
    ·exact⟨by simpa [cQ] using h1,h2,h3⟩) hc.2⟩
 ·intro F hF k hk
  simp only[List.mem_singleton] at hF;subst hF
  exact⟨id,dO,hk⟩
 ·intro F hF k hk aK FQ mb
  simp only[List.mem_singleton] at hF;subst hF
  obtain⟨h1,h2⟩:=ho aK FQ
  exact h2 (I.apart.rr aK id k h1 dO mb hk)
theorem FR{sz:Nat}{v:Value}{lo hi:Nat}{k:Nat}(h:j8 (jM sz v lo hi)=some k):j8 v=some k:=by
 unfold jM at h
 split at h
 ·rename_i a n cap
  cases a with
  |none=>split at h<;>simp[j8] at h
  |some a=>
   split at h
   ·exact h
   ·simp only[Option.map_some,j8] at h ⊢
    rw[← h];unfold Addr.add;split<;>rfl
 ·exact h
theorem bp.cut{F:Nat→Prop}{t:Ty}{xs:List (El t)}{v:Value}{kid:Nat→Nat→Value}(h:bp w F t xs v kid){lo hi:Nat}(h1:lo≤hi)(h2:hi≤xs.length):
    bp w F t ((xs.take hi).drop lo) (jM (ao t) v lo hi) fun i j=>kid (i+lo) j:=by
 have hlen:((xs.take hi).drop lo).length=hi-lo:=by simp;omega
 rcases h with ⟨rfl,rfl⟩ | ⟨b,o,cap,cs,el,rfl,hF,hb,hc,hs,hr⟩
 ·simp only[List.length_nil] at h2
  have:hi=0:=by omega
  subst this
  have:lo=0:=by omega
  subst this
  exact .inl ⟨by simp,rfl⟩
 ·have ho:∃o',(if cap=lo then (some ⟨b,o,none⟩:Option Addr) else (some (⟨b,o,none⟩:Addr)).map (·.add (lo*ao t)))=some ⟨b,o',none⟩∧(o'=o+lo*ao t∨(o'=o∧cap=lo)):=by
   by_cases qz:cap=lo
   ·rw[if_pos qz];exact⟨o,rfl,.inr ⟨rfl,qz⟩⟩
   ·rw[if_neg qz]
    simp only[Option.map_some,Addr.add]
    split
    ·rename_i h0;exact⟨_,rfl,.inl (by omega)⟩
    ·exact⟨_,rfl,.inl rfl⟩
  obtain⟨o',sH,X6⟩:=ho
  refine .inr ⟨b,o',cap-lo,cs,el,by simp only[jM,sH,hlen],hF,hb,by rw[hlen];omega,?_,?_⟩
  ·rcases X6 with rfl | ⟨rfl,rfl⟩
   ·have:lo*ao t+(cap-lo)*ao t=cap*ao t:=by rw[← Nat.add_mul];congr 1;omega
    omega
   ·rw[Nat.sub_self,Nat.zero_mul];omega
  ·intro i y j c hy j0
   simp only[gJ] at hy
   split at hy
   ·rename_i lf
    obtain⟨u,hu,gu⟩:=hr (lo+i) y j c hy j0
    have YJ:o'=o+lo*ao t:=by rcases X6 with h | ⟨_,h⟩<;>omega
    refine⟨u,?_,?_⟩
    ·rw[← hu,YJ];congr 1;simp only[Nat.add_mul];omega
    ·simpa [Nat.add_comm] using gu
   ·cases hy
theorem qA{t:Ty}{xs:List (El t)}{lo hi i j:Nat}{p:Path}{s:Sl}(h:aQ t ((xs.take hi).drop lo) ((i,j)::p)=some s):aQ t xs ((i+lo,j)::p)=some s:=by
 simp only[aQ,gJ] at h ⊢
 split at h
 case h_2=>cases h
 rename_i x hx
 split at hx
 case isFalse=>cases hx
 rw[Nat.add_comm i lo,hx]
 exact h
theorem aW.cut{F:Nat→Prop}{t:Ty}{xs:List (El t)}{av:Path→Value}(h:aW w F t xs av){lo hi:Nat}(h1:lo≤hi)(h2:hi≤xs.length):
    gX w F t ((xs.take hi).drop lo) (jM (ao t) (av []) lo hi):=by
 let f:Path→Path:=fun p=>match p with | []=>[] | (i,j)::p=>(i+lo,j)::p
 have hf:∀p q,f p=f q→p=q:=by
  intro p q h
  cases p with
  |nil=>cases q with
   |nil=>rfl
   |cons y q=>simp[f] at h
  |cons x p=>cases q with
   |nil=>simp[f] at h
   |cons y q=>
    obtain⟨i,j⟩:=x
    obtain⟨i',j'⟩:=y
    simp only[f,List.cons.injEq,Prod.mk.injEq] at h
    obtain⟨⟨h1,rfl⟩,rfl⟩:=h
    rw[show i=i' by omega]
 refine⟨fun p=>match p with | []=>jM (ao t) (av []) lo hi | (i,j)::p=>av ((i+lo,j)::p),rfl,fun p s hs=> ?_,fun p q s s' k hp hq hk mb=> ?_⟩
 ·cases p with
  |nil=>
   simp only[aQ,Option.some.injEq] at hs
   subst hs
   exact (h.1 [] ⟨t,xs⟩ rfl).cut h1 h2
  |cons ij p=>
   obtain⟨i,j⟩:=ij
   exact h.1 _ s (qA hs)
 ·have go:∀p s k,aQ t ((xs.take hi).drop lo) p=some s→j8 (match p with | []=>jM (ao t) (av []) lo hi | (i,j)::p=>av ((i+lo,j)::p))=some k→(∃ s0,aQ t xs (f p)=some s0)∧j8 (av (f p))=some k:=by
   intro p s k hp hk
   cases p with
   |nil=>exact⟨⟨_,rfl⟩,FR hk⟩
   |cons ij p=>obtain⟨i,j⟩:=ij;exact⟨⟨_,qA hp⟩,hk⟩
  obtain⟨⟨s1,e1⟩,e2⟩:=go p s k hp hk
  obtain⟨⟨s2,e3⟩,e4⟩:=go q s' k hq mb
  exact hf p q (h.2 _ _ _ _ k e1 e3 e2 e4)
theorem Inv.iM(I:Inv w0 Mf g st a w){c:Sc}{q:Option Ty}{k:Cv→Bool→St→List (Nat×Rt)→Option R}{r:R}{u:Value}(h:iM st c q k=some r)(hc:bf w g st c u):
    ∃cv d aI fe F,k cv d aI fe=some r∧Inv w0 Mf g aI a w∧iS w g st aI fe [F]∧lQ w (fun k=>F k∨g.ro k) cv u∧(d=true→fP w F cv u):=by
 have T0:iS w g st st [] [fun _=>False]:=
  ⟨rfl,fun _ h=>h,fun _ _ h=>h,List.pairwise_singleton _ _,fun F hF k hk=>by simp only[List.mem_singleton] at hF;subst hF;exact hk.elim,
   fun F hF k hk=>by simp only[List.mem_singleton] at hF;subst hF;exact hk.elim,fun _ _ h=>h,fun _ _ h=>h⟩
 unfold Gm.iM at h
 split at h
 ·exact⟨_,_,_,_,_,h,I,T0,hc.2,fun _=>hc.2⟩
 ·rename_i t _
  refine⟨_,_,_,_,_,h,I,T0,BU _ _ _ ⟨none,0,hc.2⟩,fun _=>⟨fun _=> .slice none 0 0,hc.2.symm,?_,?_⟩⟩
  ·intro p s hs
   cases p with
   |nil=>simp only[aQ,Option.some.injEq] at hs;subst hs;exact .inl ⟨rfl,rfl⟩
   |cons ij p=>simp[aQ] at hs
  ·intro p q s s' b _ _ hb _;simp[j8] at hb
 ·exact⟨_,_,_,_,_,h,I,T0,fk.mono (fun k hk=> .inr hk) hc.2,fun h=>by cases h⟩
 ·exact⟨_,_,_,_,_,h,I,T0,fk.mono (fun k hk=> .inr hk) (I.X5 hc.2),fun h=>by cases h⟩
 ·rename_i id ver iv t
  obtain⟨ro,hv,fJ,h⟩:=dg h
  obtain⟨DB,h⟩:=bg h
  obtain⟨hu,_⟩:=hc.2.2 ro ⟨.inl hv,fJ,fY _ _⟩
  cases hm:ro.md.cq
  ·simp only[hm,cond_false] at h
   rw[← fJ] at h
   refine⟨_,_,_,_,g.rf id,h,I.drop hv,I.xA hv hm,?_,?_⟩
   ·have hr:=I.roots id ro hv
    refine⟨g.rv id,hu.symm,?_⟩
    unfold aX at hr
    split at hr
    ·exact hr.rd.mono fun k=> .inl
    ·exact hr.rd
    ·rename_i cI;simp[cI,Md.cq] at hm
    ·rename_i kk cI;rw[cI] at DB;cases kk<;>cases DB
   ·intro hd
    have hr:=I.roots id ro hv
    unfold aX at hr
    split at hr
    ·exact⟨g.rv id,hu.symm,hr⟩
    ·rename_i cI;simp[cI,Md.bF] at hd
    ·rename_i cI;simp[cI,Md.bF] at hd
    ·rename_i cI;simp[cI,Md.bF] at hd
  ·simp only[hm,cond_true] at h
   refine⟨_,_,_,_,_,h,I,T0,?_,fun h=>by cases h⟩
   have hr:=I.roots id ro hv
   unfold aX at hr
   split at hr
   ·rename_i cI;simp[cI,Md.cq] at hm
   ·rename_i cI;simp[cI,Md.cq] at hm
   ·exact⟨g.rv id,hu.symm,hr.mono fun k=> .inr⟩
   ·rename_i cI;simp[cI,Md.cq] at hm
 ·rename_i id ver lo hi t
  obtain⟨ro,hv,fJ,h⟩:=dg h
  obtain⟨DB,h⟩:=bg h
  obtain⟨qB,Ml,hu⟩:=hc.2.2 ro ⟨.inl hv,fJ,fY _ _⟩
  cases hm:ro.md.cq
  ·simp only[hm,cond_false] at h
   rw[← fJ] at h
   refine⟨_,_,_,_,g.rf id,h,I.drop hv,I.xA hv hm,?_,?_⟩
   ·have hr:=I.roots id ro hv
    rw[hu]
    unfold aX at hr
    split at hr
    ·exact (hr.rd.mono fun k=> .inl).cut qB Ml
    ·exact hr.rd.cut qB Ml
    ·rename_i cI;simp[cI,Md.cq] at hm
    ·rename_i kk cI;rw[cI] at DB;cases kk<;>cases DB
   ·intro hd
    have hr:=I.roots id ro hv
    rw[hu]
    unfold aX at hr
    split at hr
    ·exact hr.cut qB Ml
    ·rename_i cI;simp[cI,Md.bF] at hd
    ·rename_i cI;simp[cI,Md.bF] at hd
    ·rename_i cI;simp[cI,Md.bF] at hd
  ·simp only[hm,cond_true] at h
   refine⟨_,_,_,_,_,h,I,T0,?_,fun h=>by cases h⟩
   have hr:=I.roots id ro hv
   rw[hu]
   unfold aX at hr
   split at hr
   ·rename_i cI;simp[cI,Md.cq] at hm
   ·rename_i cI;simp[cI,Md.cq] at hm
   ·exact (hr.mono fun k=> .inr).cut qB Ml
   ·rename_i cI;simp[cI,Md.cq] at hm
 ·cases h
theorem ka.map{g':Gh}{w':World}{aI:St}(hm:∀c u,bf w g st c u→bf w' g' aI c u):∀{cs:List Sc}{us:List Value},ka w g st cs us→ka w' g' aI cs us
 | [],[],_=>trivial
 | [],_::_,h=>h.elim
 |_::_,[],h=>h.elim
 |_::_,_::_,h=>⟨hm _ _ h.1,ka.map hm h.2⟩
theorem Inv.mE:∀{cs:List Sc}{st:St}{qs:List (Option Ty)}{k:List Cv→Bool→St→List (Nat×Rt)→Option R}{r:R}{us:List Value},Inv w0 Mf g st a w→
    mE st cs qs k=some r→ka w g st cs us→
    ∃cv d aI fe Fs,k cv d aI fe=some r∧Inv w0 Mf g aI a w∧iS w g st aI fe Fs∧kE w g.ro cv us Fs d
 | [],st,[],k,r,us,I,h,hc=>by
  cases us with
  |nil=>exact⟨[],true,st,[],[],h,I,iS.refl _ _ _,.nil⟩
  |cons u us=>exact hc.elim
 |c::cs,st,q::qs,k,r,us,I,h,hc=>by
  cases us with
  |nil=>exact hc.elim
  |cons u us=>
   obtain⟨cv,d,s1,u1,F,h1,I1,T1,hr,ho⟩:=I.iM h hc.1
   obtain⟨xy,d2,s2,u2,Fs,h2,I2,T2,hA⟩:=Inv.mE I1 h1 (hc.2.map T1.map)
   exact⟨_,_,_,_,_,h2,I2,T1.trans T2,.cons hr ho hA⟩
 | [],_,_::_,k,r,us,I,h,hc=>by cases h
 |_::_,_,[],k,r,us,I,h,hc=>by cases h
theorem kE.len{ro:Nat→Prop}{cs:List Cv}{us:List Value}{Fs:List (Nat→Prop)}{d:Bool}(h:kE w ro cs us Fs d):us.length=cs.length∧Fs.length=cs.length:=by
 induction h with
 |nil=>exact⟨rfl,rfl⟩
 |cons _ _ _ ih=>simp[ih.1,ih.2]
def Any(Fs:List (Nat→Prop))(k:Nat):Prop:=∃F∈Fs,F k
theorem kE.rd{ro:Nat→Prop}{cs:List Cv}{us:List Value}{Fs:List (Nat→Prop)}{d:Bool}(h:kE w ro cs us Fs d):gK w (fun k=>Any Fs k∨ro k) cs us:=by
 induction h with
 |nil=>trivial
 |cons hr ho hs ih=>
  refine⟨hr.mono fun k hk=>hk.imp (fun h=>⟨_,List.mem_cons_self,h⟩) id,?_⟩
  have:∀{P Q:Nat→Prop}{cs:List Cv}{us:List Value},(∀ k,P k→Q k)→gK w P cs us→gK w Q cs us:=by
   intro P Q cs
   induction cs with
   |nil=>intro us tB h;cases us<;>first | trivial | exact h.elim
   |cons c cs ih=>intro us tB h;cases us with | nil=>exact h.elim | cons u us=>exact⟨h.1.mono tB,ih tB h.2⟩
  exact this (fun k hk=>hk.imp (fun ⟨F,hF,h⟩=>⟨F,List.mem_cons_of_mem _ hF,h⟩) id) ih
theorem kE.own{ro:Nat→Prop}{cs:List Cv}{us:List Value}{Fs:List (Nat→Prop)}{d:Bool}(h:kE w ro cs us Fs d)(hd:d=true):
    ∀(j:Nat) c,cs[j]? =some c→∃z F,us[j]? =some z∧Fs[j]? =some F∧fP w F c z:=by
 induction h with
 |nil=>intro j c h;simp at h
 |cons hr ho hs ih=>
  simp only[Bool.and_eq_true] at hd
  intro j c hj
  cases j with
  |zero=>simp only[List.getElem?_cons_zero,Option.some.injEq] at hj;subst hj;exact⟨_,_,rfl,rfl,ho hd.1⟩
  |succ j=>simpa using ih hd.2 j c (by simpa using hj)
theorem kE.row{ro:Nat→Prop}{cs:List Cv}{us:List Value}{Fs:List (Nat→Prop)}{d:Bool}(h:kE w ro cs us Fs d)(hd:d=true)(hp:bH Fs):
    jN w (Any Fs) cs us.toArray:=by
 refine⟨fun j k=>∃F,Fs[j]? =some F∧F k,fun j k ⟨F,h1,h2⟩=>⟨F,List.mem_of_getElem? h1,h2⟩,?_,by simpa using h.len.1,?_⟩
 ·intro j j' k ⟨F,h1,h2⟩ ⟨G,h3,h4⟩
  have:=List.pairwise_iff_getElem.1 hp
  obtain⟨hj,rfl⟩:=List.getElem?_eq_some_iff.1 h1
  obtain⟨sR,rfl⟩:=List.getElem?_eq_some_iff.1 h3
  rcases Nat.lt_trichotomy j j' with cc | heq | cc
  ·exact (this j j' hj sR cc k h2 h4).elim
  ·exact heq
  ·exact (this j' j sR hj cc k h4 h2).elim
 ·intro j c hj
  obtain⟨z,F,h1,h2,h3⟩:=h.own hd j c hj
  refine⟨z,by simpa using h1,?_⟩
  cases c with
  |v x=>exact h3
  |l t xs=>
   obtain⟨av,h4,h5⟩:=h3
   exact⟨av,h4,h5.mono fun k hk=>⟨F,h2,hk⟩⟩
theorem Inv.zz(I:Inv w0 Mf g st a w){dst:Option Nat}(hd:∀d,dst=some d→d<g.n.sz){s:Sv}{v:Value}(hs:dX w g st s v):
    Inv w0 Mf g (st.apply { slot:=dst.map fun d=>(d,s) }) (a.put dst v) w:=by
 cases dst with
 |none=>exact { I with }
 |some d=>
  have cc:=hd d rfl
  exact {
   az:=fun n sv hn=>by
    simp only[St.apply,Option.map_some,aJ] at hn
    by_cases Mm:n=d
    ·subst Mm
     simp only[if_true,Option.some.injEq] at hn;subst hn
     refine⟨v,?_,hs⟩
     simp only[Act.put]
     rw[Array.getElem?_setIfInBounds_self_of_lt (by rw[I.size];exact cc)]
    ·simp only[Mm,if_false] at hn
     obtain⟨u,hu,hr⟩:=I.az n sv hn
     refine⟨u,?_,hr⟩
     simp only[Act.put]
     rw[Array.getElem?_setIfInBounds_ne (Ne.symm Mm)];exact hu
   boxes:=I.boxes
   roots:=I.roots
   apart:={ I.apart with }
   kept:=I.kept
   defers:=by simp only[Act.put];exact I.defers
   size:=by simp only[Act.put,Array.size_setIfInBounds];exact I.size
   base:=⟨I.base.wl,I.base.ap,I.base.ro⟩ }
theorem jZ.world{w':World}{X:Nat→Prop}(hs:bw X w w')(hr:∀k,g.ro k→ ¬X k){c:Sc}{u:Value}(h:jZ w g st c u):jZ w' g st c u:=by
 have UM:∀t (x:El t) off u,gG w g.ro t x off u→gG w' g.ro t x off u:=fun t x off u ⟨b,o,cs,el,fz,h1,h2,h3,h4⟩=>
  ⟨b,o,cs,el,fz,h1,h2,hs.get h3 (hr _ h2),fun j c hj=>let ⟨z,hz,hc⟩:=h4 j c hj;⟨z,hz,hc.same hs hr⟩⟩
 cases c with
 |ro t xs=>exact fk.same hs hr h
 |rp t x off=>exact UM _ _ _ _ h
 |j5 fn ys=>obtain⟨ps,h1,h2,h3⟩:=h;exact⟨ps,h1,h2,fun i y q hy hq=>UM _ _ _ _ (h3 i y q hy hq)⟩
 |_=>exact h
theorem Kept.refl(w:World)(Mf:Nat→Prop):Kept w w Mf:=⟨rfl,rfl,rfl,⟨Nat.le_refl _,fun _ _ _=>rfl⟩⟩
theorem Inv.world(I:Inv w0 Mf g st a w){w':World}{X:Nat→Prop}(hs:bw X w w')(dh:∀k,g.ro k→ ¬X k)(k7:∀id k,aT st id→g.rf id k→ ¬X k)
 (u6:∀b,bz st b→ ¬X (g.bx b)) (hk:Kept w0 w' Mf):Inv w0 Mf g st a w':={
 az:=fun s sv h=>let ⟨u,hu,hr⟩:=I.az s sv h;⟨u,hu,hr.map fun c u hc=>⟨hc.1,hc.2.world hs dh⟩⟩
 boxes:=fun b x h=>let ⟨us,el,h1,h2⟩:=I.boxes b x h;⟨us,el,hs.get h1 (u6 b (by simp[bz,h])),h2.map fun c u hc=>⟨hc.1,hc.2.world hs dh⟩⟩
 roots:=fun id r h=>by
  have hr:=I.roots id r h
  unfold aX at hr ⊢
  split at hr
  ·rename_i hm;exact hr.same hs (k7 id · ⟨r,h,by rw[hm];rfl⟩)
  ·rename_i hm;exact hr.same hs (k7 id · ⟨r,h,by rw[hm];rfl⟩) dh
  ·exact hr.same hs dh
  ·rename_i hm;exact hr.same hs (k7 id · ⟨r,h,by rw[hm];rfl⟩)
 apart:={ I.apart with
  er:=fun id k h1 h2=>Nat.lt_of_lt_of_le (I.apart.er id k h1 h2) hs.1
  da:=fun k h=>Nat.lt_of_lt_of_le (I.apart.da k h) hs.1
  bM:=I.apart.bM }
 kept:=hk
 defers:=I.defers
 size:=I.size
 base:=⟨I.base.wl,I.base.ap,I.base.ro⟩ }
theorem jZ.ro{G:Nat→Prop}(hG:∀k,g.ro k→G k){c:Sc}{u:Value}(h:jZ w g st c u):jZ w { g with ro:=G } st c u:=by
 have UM:∀t (x:El t) off u,gG w g.ro t x off u→gG w G t x off u:=fun t x off u ⟨b,o,cs,el,fz,h1,h2,h3,h4⟩=>
  ⟨b,o,cs,el,fz,h1,hG _ h2,h3,fun j c hj=>let ⟨z,hz,hc⟩:=h4 j c hj;⟨z,hz,hc.mono hG⟩⟩
 cases c with
 |ro t xs=>exact fk.mono hG h
 |rp t x off=>exact UM _ _ _ _ h
 |j5 fn ys=>obtain⟨ps,h1,h2,h3⟩:=h;exact⟨ps,h1,h2,fun i y q hy hq=>UM _ _ _ _ (h3 i y q hy hq)⟩
 |_=>exact h
theorem Inv.FT(I:Inv w0 Mf g st a w){G:Nat→Prop}(hG:∀k,g.ro k→G k)(hr:∀id k,aT st id→g.rf id k→ ¬G k)(hb:∀b,bz st b→ ¬G (g.bx b))
    (cc:∀k,G k→k<w.heap.size) (hm:∀k,G k→g.n.r0 k∨w0.heap.size≤k∨Mf k):Inv w0 Mf { g with ro:=G } st a w:={
 az:=fun s sv h=>let ⟨u,hu,hr⟩:=I.az s sv h;⟨u,hu,hr.map fun c u hc=>⟨hc.1,hc.2.ro hG⟩⟩
 boxes:=fun b x h=>let ⟨us,el,h1,h2⟩:=I.boxes b x h;⟨us,el,h1,h2.map fun c u hc=>⟨hc.1,hc.2.ro hG⟩⟩
 roots:=fun id r h=>by
  have hr:=I.roots id r h
  unfold aX at hr ⊢
  split at hr
  ·exact hr
  ·exact⟨hr.1,fun p s hp hs=>(hr.2 p s hp hs).mono hG⟩
  ·exact hr.mono hG
  ·exact hr
 apart:={ I.apart with
  ew:=fun id k h1 h2=>hr id k h1 h2
  fI:=hb
  da:=cc
  bM:=hm }
 kept:=I.kept
 defers:=I.defers
 size:=I.size
 base:=⟨I.base.wl,I.base.ap,fun k h=>hG k (I.base.ro k h)⟩ }
def Gh.bV(g:Gh)(id:Nat)(av:Path→Value)(F:Nat→Prop):Gh:=
  { g with rv:=fun i=>if i=id then av else g.rv i,rf:=fun i=>if i=id then F else g.rf i }
def dI(st:St)(id:Nat)(r:cy):Prop:=
  match ak st.roots id with
 |none=>True
 |some (.gone v)=>v<r.ver
 |some (.live r')=>r'.ver<r.ver
 |some (.dk r')=>r'.ver<r.ver
theorem jZ.bV{id:Nat}{r:cy}(hf:dI st id r){av:Path→Value}{F:Nat→Prop}{c:Sc}{u:Value}(h:jZ w g st c u):
    jZ w (g.bV id av F) { st with roots:=bc st.roots id (.live r) } c u:=by
 have hv:∀aK ver iv,cJ st aK ver iv→cJ { st with roots:=bc st.roots id (.live r) } aK ver iv:=by
  intro aK ver iv hv
  unfold cJ at hv ⊢
  simp only[aJ]
  by_cases cQ:aK=id
  ·subst cQ
   simp only[if_true]
   unfold dI at hf
   split at hv
   ·rename_i h;simp only[h] at hf;omega
   ·rename_i h;simp only[h] at hf;omega
   ·rename_i h;simp only[h] at hf;omega
   ·exact hv.elim
  ·simpa [cQ] using hv
 have dP:∀aK ver iv p r',cJ st aK ver iv→Vx { st with roots:=bc st.roots id (.live r) } aK ver iv p r'→aK≠id∧Vx st aK ver iv p r':=by
  intro aK ver iv p r' UN ⟨h1,h2,h3⟩
  simp only[aJ] at h1
  by_cases cQ:aK=id
  ·subst cQ
   simp only[if_true,Option.some.injEq,Rt.live.injEq,reduceCtorEq,or_false] at h1
   subst h1
   unfold dI at hf
   unfold cJ at UN
   split at UN
   ·rename_i h;simp only[h] at hf;omega
   ·rename_i h;simp only[h] at hf;omega
   ·rename_i h;simp only[h] at hf;omega
   ·exact UN.elim
  ·exact⟨cQ,by simpa [cQ] using h1,h2,h3⟩
 cases c with
 |h aK ver iv p=>
  refine⟨hv _ _ _ h.1,fun r' jf=> ?_⟩
  obtain⟨cQ,UO⟩:=dP _ _ _ _ _ h.1 jf
  simpa [Gh.bV,cQ] using h.2 r' UO
 |vw aK ver lo hi=>
  refine⟨hv _ _ _ h.1,fun r' jf=> ?_⟩
  obtain⟨cQ,UO⟩:=dP _ _ _ _ _ h.1 jf
  simpa [Gh.bV,cQ] using h.2 r' UO
 |pe aK ver iv p i off=>
  refine⟨hv _ _ _ h.1,fun r' jf=> ?_⟩
  obtain⟨cQ,UO⟩:=dP _ _ _ _ _ h.1 jf
  simpa [Gh.bV,cQ] using h.2 r' UO
 |_=>exact h
theorem Inv.bV(I:Inv w0 Mf g st a w){id:Nat}{r:cy}(hf:dI st id r){av:Path→Value}{F:Nat→Prop}
 (hr:aX w (g.bV id av F) id r)
 (hF:∀k,F k→(∀ aK,aT st aK→aK≠id→ ¬g.rf aK k)∧ ¬g.ro k∧(∀ b,bz st b→g.bx b≠k)∧(w0.heap.size≤k∨Mf k)∧k<w.heap.size):
    Inv w0 Mf (g.bV id av F) { st with roots:=bc st.roots id (.live r) } a w:=by
 have ho:∀aK,aT { st with roots:=bc st.roots id (.live r) } aK→aK≠id→aT st aK:=fun aK ⟨r',h1,h2⟩ cQ=>
  ⟨r',by simpa [aJ,cQ] using h1,h2⟩
 exact {
  az:=fun s sv h=>let ⟨u,hu,hr⟩:=I.az s sv h;⟨u,hu,hr.map fun c u hc=>⟨hc.1,hc.2.bV hf⟩⟩
  boxes:=fun b x h=>let ⟨us,el,h1,h2⟩:=I.boxes b x h;⟨us,el,h1,h2.map fun c u hc=>⟨hc.1,hc.2.bV hf⟩⟩
  roots:=fun aK r' h=>by
   simp only[aJ] at h
   by_cases cQ:aK=id
   ·subst cQ;simp only[if_true,Option.some.injEq,Rt.live.injEq] at h;subst h;exact hr
   ·have:=I.roots aK r' (by simpa [cQ] using h)
    unfold aX at this ⊢
    simpa [Gh.bV,cQ] using this
  apart:={
   rr:=fun i i' k h1 h2 h3 h4=>by
    by_cases hi:i=id<;>by_cases lf:i'=id
    ·rw[hi,lf]
    ·simp only[Gh.bV,hi,lf,if_true,if_false] at h3 h4
     exact ((hF k h3).1 i' (ho _ h2 lf) lf h4).elim
    ·simp only[Gh.bV,hi,lf,if_true,if_false] at h3 h4
     exact ((hF k h4).1 i (ho _ h1 hi) hi h3).elim
    ·simp only[Gh.bV,hi,lf,if_false] at h3 h4
     exact I.apart.rr i i' k (ho _ h1 hi) (ho _ h2 lf) h3 h4
   rb:=fun i b h1 h2 h3=>by
    by_cases hi:i=id
    ·simp only[Gh.bV,hi,if_true] at h3
     exact (hF _ h3).2.2.1 b h2 rfl
    ·simp only[Gh.bV,hi,if_false] at h3
     exact I.apart.rb i b (ho _ h1 hi) h2 h3
   bb:=I.apart.bb
   ew:=fun i k h1 h3=>by
    by_cases hi:i=id
    ·simp only[Gh.bV,hi,if_true] at h3;exact (hF _ h3).2.1
    ·simp only[Gh.bV,hi,if_false] at h3;exact I.apart.ew i k (ho _ h1 hi) h3
   fI:=I.apart.fI
   cj:=fun i k h1 h3=>by
    by_cases hi:i=id
    ·simp only[Gh.bV,hi,if_true] at h3;exact (hF _ h3).2.2.2.1
    ·simp only[Gh.bV,hi,if_false] at h3;exact I.apart.cj i k (ho _ h1 hi) h3
   dN:=I.apart.dN
   er:=fun i k h1 h3=>by
    by_cases hi:i=id
    ·simp only[Gh.bV,hi,if_true] at h3;exact (hF _ h3).2.2.2.2
    ·simp only[Gh.bV,hi,if_false] at h3;exact I.apart.er i k (ho _ h1 hi) h3
   da:=I.apart.da
   bM:=I.apart.bM }
  kept:=I.kept
  defers:=I.defers
  size:=I.size
  base:=⟨I.base.wl,I.base.ap,I.base.ro⟩ }
end Go.Gm
namespace Go.Gm
open Go
def dY(t:Ty):List Value:=(enc t (zero t)).map fun | .v x=>x | .l _ _=> .slice none 0 0
def bl(E:Env)(P:Program)(T:Nat)(t:Ty):Prop:=
  match t with
 | .i k=>P.underlying T=some (.int k)
 | .bool=>P.underlying T=some .bool
 | .str=>P.underlying T=some .string
 | .sl e=>∃el,P.underlying T=some (.slice el)∧E.code el=some e
 |_=>∃fs,P.underlying T=some (.struct fs)
def et:List Ty→List Value→List Value→Option Bool
 | [],[],[]=>some true
 | .i q::ts,.int k a::r,.int k' b::s=>cond (decide (k=q)&&decide (k'=q)) ((et ts r s).bind fun e=>some ((a==b)&&e)) none
 | .str::ts,.string a::r,.string b::s=>(et ts r s).bind fun e=>some ((a==b)&&e)
 | .bool::ts,.bool a::r,.bool b::s=>(et ts r s).bind fun e=>some ((a==b)&&e)
 |_,_,_=>none
structure Env.Ok (E:Env) (P:Program):Prop where
 info:∀T t,E.code T=some t→∃i zv,P.info? T=some i∧i.size=ao t∧i.bytes≤1024∧i.zero=some zv∧zv.cells=(dY t).toArray
 pN:∀T t,E.code T=some t→bl E P T t
 pL:∀T f off ft,E.pL T f=some (off,ft)→∃fs fd t,P.underlying T=some (.struct fs)∧fs[f]? =some fd∧fd.offset=off∧fd.type=ft∧E.code ft=some t
 Uk:∀T fs,P.underlying T=some (.struct fs)→(E.code T).isSome→∃pl,fs.toList.mapM (fun f=>(P.info? f.type).map fun i=>(f.offset,i.size))=some pl
 spec : ∀ f s, E.spec f = some s → fb P f s ∧ ∃ fn, P.funcs[f]? = some fn ∧ fn.body.isSome ∧ fn.name ≠ "runtime.NumGoroutine"
 eqs:∀T ts,E.eq T=some ts→∀(us vs:Array Value)(e:Bool),et ts us.toList vs.toList=some e→∀w,
  (Op.equal T (.agg us) (.agg vs)).run P w = .ok e w∧(∀ op x y,(eqGuard op T x y (.agg us) (.agg vs)).run P w = .ok () w)
 ord:P.follows .mixedOrders=true
variable {R : Type} {P : Program} {E : Env} {w0 w : World} {Mf : Nat → Prop} {g : Gh} {st : St} {a : Act} {Q : Exit → Act → World → Prop}
theorem Env.Ok.size(hE:E.Ok P){T:Nat}{t:Ty}(h:E.code T=some t)(w:World):(sizeOf T).run P w = .ok (ao t) w:=by
 obtain⟨i,zv,h1,h2,_⟩:=hE.info T t h
 simp[sizeOf,run_typeInfo w h1,h2]
theorem Env.Ok.agg(hE:E.Ok P){T:Nat}{t:Ty}(h:E.code T=some t)(w:World):(isAgg T).run P w = .ok (e8 t) w:=by
 have hu:=hE.pN T t h
 unfold bl at hu
 cases t<;>simp only at hu
 case sl e=>obtain⟨el,hu,_⟩:=hu;simp[isAgg,run_underlying hu,e8]
 case i k=>simp[isAgg,run_underlying hu,e8]
 case bool=>simp[isAgg,run_underlying hu,e8]
 case str=>simp[isAgg,run_underlying hu,e8]
 all_goals (obtain⟨fs,hu⟩:=hu;simp[isAgg,run_underlying hu,e8])
theorem Env.Ok.zero(hE:E.Ok P){T:Nat}{t:Ty}(h:E.code T=some t)(w:World):∃zv,(zeroValue T).run P w = .ok zv w∧zv.cells=(dY t).toArray:=by
 obtain⟨i,zv,h1,_,_,h4,h5⟩:=hE.info T t h
 exact⟨zv,by simp[zeroValue,run_typeInfo w h1,h4],h5⟩
theorem Env.Ok.slice(hE:E.Ok P){T:Nat}{e:Ty}(h:E.code T=some (.sl e)):∃el,P.underlying T=some (.slice el)∧E.code el=some e:=hE.pN T _ h
theorem Form.cells{t:Ty}{u:Value}{us:Array Value}(h:Form t u us):u.cells=us:=by
 unfold Form at h
 split at h
 ·subst h;rfl
 ·obtain⟨rfl,hf⟩:=h
  cases u<;>first | rfl | simp[cO] at hf
theorem Form.size{t:Ty}{u:Value}{us:Array Value}(h:Form t u us)(hs:e8 t=false):us = #[u]∧cO u=true:=by simpa [Form,hs] using h
theorem lk{o:Oper}{v:Value}{w':World}{K:Act→World→Prop}(h:(execOp a.eval o).run P w = .ok (.value v) w')(hK:K (a.put o.dst v) w'):o.wp P a w K Q:=by
 unfold Oper.wp;rw[h];exact hK
theorem Inv.val(I:Inv w0 Mf g st a w){o:Oper}(hd:∀d,o.dst=some d→d<g.n.sz){s:Sv}{v:Value}{k:Dl→Option R}{r:R}{K:Act→World→Prop}
 (hK:∀δ g' a' w',k δ=some r→g'.n=g.n→Inv w0 Mf g' (st.apply δ) a' w'→K a' w')
 (dM:(execOp a.eval o).run P w = .ok (.value v) w) (hk:k (put o s)=some r) (hs:dX w g st s v):o.wp P a w K Q:=
  lk dM (hK _ g _ _ hk rfl (I.zz hd hs))
theorem Inv.fQ(I:Inv w0 Mf g st a w){o:Oper}(hd:∀d,o.dst=some d→d<g.n.sz){c:Sc}{v:Value}{k:Dl→Option R}{r:R}{K:Act→World→Prop}
 (hK:∀δ g' a' w',k δ=some r→g'.n=g.n→Inv w0 Mf g' (st.apply δ) a' w'→K a' w')
 (dM:(execOp a.eval o).run P w = .ok (.value v) w) (hk:k (fG o c)=some r) (hf:cO v=true) (hs:jZ w g st c v):o.wp P a w K Q:=
  I.val hd hK dM (s:= .c (.one c)) hk ⟨hf,hs⟩
def tE:Value→Value→Prop
 | .nilIface,.nilIface=>False
 | .agg _,.agg _=>False
 |_,_=>True
theorem MC{op:BinOp}{T:Nat}{x y:Operand}{u v:Value}(h:tE u v)(w:World):(eqGuard op T x y u v).run P w = .ok () w:=by
 unfold eqGuard
 cases bZ:(!(op matches .eql | .neq))
 ·simp only[Bool.false_eq_true,if_false]
  cases u<;>cases v<;>first | rfl | exact h.elim
 ·simp only[if_true];rfl
theorem FU{T:Nat}(hu:P.underlying T=some .bool)(a b:Bool)(w:World):(Op.equal T (.bool a) (.bool b)).run P w = .ok (a==b) w:=by
 have key:∀d,(Op.equalIn (d+1) T (.bool a) (.bool b)).run P w = .ok (a==b) w:=fun d=>by
  rw[Op.equalIn]
  simp only[Sem.run_bind,run_underlying hu,Result.andThen_ok,Sem.run_pure]
 exact key 9999
theorem xB(hE:E.Ok P){op:BinOp}{T:Nat}{x y:Value}{k:Value→Option R}{r:R}(h:tz op (X4 (E.code T)) x y k=some r)(w:World):
    ∃z,k z=some r∧(Go.binOp op T x y).run P w = .ok z w∧cO z=true∧tE x y:=by
 unfold tz at h
 split at h
 ·rename_i k1 a k2 b
  have key:∀{c:Bool}{x:Option R},(cond c none x)=some r→c=false∧x=some r:=by intro c x h;cases c<;>simp_all
  cases op
  case shl=>obtain⟨hb,h⟩:=key h;exact⟨_,h,by simp[Go.binOp,Op.shift,of_decide_eq_false hb],rfl,trivial⟩
  case shr=>obtain⟨hb,h⟩:=key h;exact⟨_,h,by simp[Go.binOp,Op.shift,of_decide_eq_false hb],rfl,trivial⟩
  all_goals
   obtain⟨hk,h⟩:=bg h
   have hk:=of_decide_eq_true hk
   subst hk
   simp only at h
  case quo=>obtain⟨hb,h⟩:=key h;exact⟨_,h,by simp[Go.binOp,Op.intDiv,of_decide_eq_false hb],rfl,trivial⟩
  case rem=>obtain⟨hb,h⟩:=key h;exact⟨_,h,by simp[Go.binOp,Op.intDiv,of_decide_eq_false hb],rfl,trivial⟩
  all_goals first
   | cases h;done
   | exact⟨_,h,by simp[Go.binOp,Op.intArith,Op.intBits,Op.intCmp],rfl,trivial⟩
 ·rename_i a b
  cases op
  case add=>
   obtain⟨hk,h⟩:=bg h
   have hk:=of_decide_eq_true hk
   refine⟨_,h,?_,rfl,trivial⟩
   have : ¬(((a.size+b.size:Nat):Int)>IntKind.i64.max):=by
    simp only[IntKind.max,IntKind.signed,IntKind.bits,if_true];omega
   simp only[Go.binOp,Op.stringOp,this,if_false,Sem.run_pure]
  all_goals first
   | cases h;done
   | exact⟨_,h,by simp[Go.binOp,Op.stringOp,fX,gS],rfl,trivial⟩
 ·rename_i a b
  cases op
  case eql=>
   obtain⟨ht,h⟩:=bg h
   unfold X4 at ht
   split at ht<;>simp only[Bool.false_eq_true] at ht
   rename_i hT
   have hu:P.underlying T=some .bool:=hE.pN T _ hT
   exact⟨_,h,by
    rw[show Go.binOp .eql T (.bool a) (.bool b)=(do pure (.bool (← Op.equal T (.bool a) (.bool b)))) from rfl]
    simp only[Sem.run_bind,FU hu,Result.andThen_ok,Sem.run_pure],rfl,trivial⟩
  case neq=>
   obtain⟨ht,h⟩:=bg h
   unfold X4 at ht
   split at ht<;>simp only[Bool.false_eq_true] at ht
   rename_i hT
   have hu:P.underlying T=some .bool:=hE.pN T _ hT
   exact⟨_,h,by
    rw[show Go.binOp .neq T (.bool a) (.bool b)=(do pure (.bool (!(← Op.equal T (.bool a) (.bool b))))) from rfl]
    simp only[Sem.run_bind,FU hu,Result.andThen_ok,Sem.run_pure],rfl,trivial⟩
  all_goals cases h
 ·cases h
end Go.Gm
namespace Go.Gm
open Go
variable {R : Type} {P : Program} {E : Env} {w0 w : World} {Mf : Nat → Prop} {g : Gh} {st : St} {a : Act} {Q : Exit → Act → World → Prop}
  {o:Oper} {k:Dl→Option R} {r:R} {K:Act→World→Prop}
def Then(w0:World)(Mf:Nat→Prop)(g:Gh)(st:St)(k:Dl→Option R)(r:R)(K:Act→World→Prop):Prop:=
  ∀δ g' a' w',k δ=some r→g'.n=g.n→Inv w0 Mf g' (st.apply δ) a' w'→K a' w'
theorem FV(I:Inv w0 Mf g st a w)(hd:∀d,o.dst=some d→d<g.n.sz)(hK:Then w0 Mf g st k r K){x:Operand}(bZ:o.op = .move x∨o.op = .assign x)
 (h:dq st x (fun s=>k (put o s))=some r):o.wp P a w K Q:=by
 replace h:=I.dq h;obtain⟨s,hk,hs⟩:=h
 exact I.val hd hK (by rcases bZ with bZ | bZ<;>simp[execOp,bZ]) hk hs
theorem Rg(I:Inv w0 Mf g st a w)(hd:∀d,o.dst=some d→d<g.n.sz)(hK:Then w0 Mf g st k r K){c x y:Operand}(bZ:o.op = .pick c x y)
 (h:eQ E o st k=some r):o.wp P a w K Q:=by
 simp only[eQ,bZ] at h
 replace h:=I.getBool h;obtain⟨b,h,hb⟩:=h
 cases b
 ·replace h:=I.dq h;obtain⟨s,hk,hs⟩:=h
  exact I.val hd hK (by simp[execOp,bZ,hb,asBool]) hk hs
 ·replace h:=I.dq h;obtain⟨s,hk,hs⟩:=h
  exact I.val hd hK (by simp[execOp,bZ,hb,asBool]) hk hs
theorem zA(I:Inv w0 Mf g st a w)(hd:∀d,o.dst=some d→d<g.n.sz)(hK:Then w0 Mf g st k r K){x:Operand}(bZ:o.op = .nilCheck x)
 (h:eQ E o st k=some r):o.wp P a w K Q:=by
 simp only[eQ,bZ] at h
 replace h:=I.fu h;obtain⟨c,h,hc⟩:=h
 have key:∀v:Value,a.eval x=v→(match v with | .pointer (some _)=>True | .func (.func _) _ _=>True | _=>False)→(execOp a.eval o).run P w = .ok (.value v) w:=by
  intro v hv hm
  split at hm
  ·simp[execOp,bZ,hv]
  ·simp[execOp,bZ,hv]
  ·exact hm.elim
 split at h
 ·exact I.fQ hd hK (key _ rfl (by rw[hc.2.1];trivial)) h hc.1 hc.2
 ·replace h:=de h;obtain⟨ro,dh,h⟩:=h
  obtain⟨s,b,oo,n,cap,_,_,_,hu⟩:=hc.2.2 ro dh.x
  exact I.fQ hd hK (key _ rfl (by rw[hu];trivial)) h hc.1 hc.2
 ·obtain⟨b,oo,cs,el,fz,hu,_⟩:=hc.2
  exact I.fQ hd hK (key _ rfl (by rw[hu];trivial)) h hc.1 hc.2
 ·exact I.fQ hd hK (key _ rfl (by rw[hc.2.1];trivial)) h hc.1 hc.2
 ·obtain⟨ps,hu,_⟩:=hc.2
  exact I.fQ hd hK (key _ rfl (by rw[hu];trivial)) h hc.1 hc.2
 ·cases h
theorem Rh(I:Inv w0 Mf g st a w)(hd:∀d,o.dst=some d→d<g.n.sz)(hK:Then w0 Mf g st k r K){op:UnOp}{T:Nat}{x:Operand}(bZ:o.op = .unOp op T x)
 (h:eQ E o st k=some r):o.wp P a w K Q:=by
 simp only[eQ,bZ] at h
 replace h:=I.iA h;obtain⟨h,hf⟩:=h
 split at h
 ·rename_i b hx
  exact I.fQ hd hK (by simp[execOp,bZ,hx,Op.unary]) h rfl rfl
 ·rename_i kd n hx
  exact I.fQ hd hK (by simp[execOp,bZ,hx,Op.unary,Op.intArith]) h rfl rfl
 ·cases h
theorem iB{w:World}{g:Gh}{st:St}:∀{ts:List Ty}{xs ys:List Sc}{us vs:List Value}{e:Bool},iN ts xs ys=some e→ka w g st xs us→ka w g st ys vs→et ts us vs=some e
 | [],xs,ys,us,vs,e,h,h1,h2=>by
  cases xs with | cons _ _=>simp[iN] at h | nil=>
  cases ys with | cons _ _=>simp[iN] at h | nil=>
  cases us<;>cases vs<;>first | exact h1.elim | exact h2.elim | exact h
 |t::ts,[],_,_,_,_,h,_,_=>by cases t<;>simp[iN] at h
 |t::ts,c::r,[],_,_,_,h,_,_=>by cases t<;>simp[iN] at h
 |t::ts,c::r,c'::s,us,vs,e,h,h1,h2=>by
  cases us with | nil=>exact h1.elim | cons u us=>
  cases vs with | nil=>exact h2.elim | cons v vs=>
  obtain⟨⟨_,hu⟩,h1⟩:=h1
  obtain⟨⟨_,hv⟩,h2⟩:=h2
  cases t<;>try (simp[iN] at h;done)
  all_goals
   cases c<;>cases c'<;>try (simp[iN] at h;done)
   rename_i x y
   simp only[jZ] at hu hv
   subst hu;subst hv
   cases u<;>cases v<;>try (simp[iN] at h;done)
  ·simp only[iN] at h
   obtain⟨hq,h⟩:=bg h
   replace h:=aR h;obtain⟨e',he,h⟩:=h
   simp only[et,hq,cond_true,iB he h1 h2,Option.bind_some];exact h
  ·simp only[iN] at h
   replace h:=aR h;obtain⟨e',he,h⟩:=h
   simp only[et,iB he h1 h2,Option.bind_some];exact h
  ·simp only[iN] at h
   replace h:=aR h;obtain⟨e',he,h⟩:=h
   simp only[et,iB he h1 h2,Option.bind_some];exact h
theorem MD(hE:E.Ok P)(I:Inv w0 Mf g st a w)(hd:∀d,o.dst=some d→d<g.n.sz)(hK:Then w0 Mf g st k r K){op:BinOp}{T T':Nat}{x y:Operand}(bZ:o.op = .binOp op T x y T')
 (h:eQ E o st k=some r):o.wp P a w K Q:=by
 simp only[eQ,bZ] at h
 replace h:=I.dq h;obtain⟨s,h,hs⟩:=h
 replace h:=I.dq h;obtain⟨s',h,eZ⟩:=h
 split at h
 ·rename_i u v
  have hu:=hs.2
  have hv:=eZ.2
  simp only[jZ] at hu hv
  obtain⟨z,hz,dM,hf,hn⟩:=xB hE h w
  exact I.fQ hd hK (by simp[execOp,bZ,hu,hv,MC hn,dM]) hz hf rfl
 ·rename_i xs ys
  replace h:=aR h;obtain⟨ets,he,h⟩:=h
  obtain⟨us,hu,gu⟩:=hs
  obtain⟨vs,hv,m8⟩:=eZ
  split at h
  ·replace h:=aR h;obtain⟨e,Ul,h⟩:=h
   obtain⟨h1,h2⟩:=hE.eqs T ets he us vs e (iB Ul gu.l m8.l) w
   refine I.fQ hd hK ?_ h rfl rfl
   simp only[execOp,bZ,hu,hv,Sem.run_bind,h2,Result.andThen_ok]
   rw[show Go.binOp .eql T (.agg us) (.agg vs)=(do pure (.bool (← Op.equal T (.agg us) (.agg vs)))) from rfl]
   simp only[Sem.run_bind,h1,Result.andThen_ok,Sem.run_pure]
  ·replace h:=aR h;obtain⟨e,Ul,h⟩:=h
   obtain⟨h1,h2⟩:=hE.eqs T ets he us vs e (iB Ul gu.l m8.l) w
   refine I.fQ hd hK ?_ h rfl rfl
   simp only[execOp,bZ,hu,hv,Sem.run_bind,h2,Result.andThen_ok]
   rw[show Go.binOp .neq T (.agg us) (.agg vs)=(do pure (.bool (!(← Op.equal T (.agg us) (.agg vs))))) from rfl]
   simp only[Sem.run_bind,h1,Result.andThen_ok,Sem.run_pure]
  ·cases h
 ·rename_i t xs
  replace h:=aR h;obtain⟨e,he,h⟩:=h
  have he:E.code T=some (.sl e):=by
   unfold gF at he;split at he<;>cases he;assumption
  obtain⟨el,hu,lR⟩:=hE.slice he
  cases pO:xs.isEmpty
  ·rw[pO,cond_false] at h
   obtain⟨av,h0,fw⟩:=hs.2
   obtain⟨ad,cap,e1,_,dP⟩:=fw [] ⟨t,xs⟩ rfl
   obtain⟨b,oo,cs,mc,fz,rfl,_⟩:=dP (fun hn=>by simp only at hn;rw[hn] at pO;cases pO)
   rw[h0] at e1
   have hv:a.eval y = .slice none 0 0:=eZ.2
   have hq:∀neg:Bool,(Go.binOp (if neg then .neq else .eql) T (a.eval x) (a.eval y)).run P w = .ok (.bool neg) w:=by
    intro neg
    rw[e1,hv]
    cases neg
    ·exact Lib.run_eql_slice_nil w T _ _ _ _ _ _ hu
    ·exact run_neq_slice_nil w T _ _ _ _ hu
   split at h
   ·exact I.fQ hd hK (by have q:=hq false;rw[e1,hv] at q;simp only[if_true,if_false,Bool.false_eq_true] at q;simp[execOp,bZ,e1,hv,eqGuard_at_slice,q]) h rfl rfl
   ·exact I.fQ hd hK (by have q:=hq true;rw[e1,hv] at q;simp only[if_true,if_false,Bool.false_eq_true] at q;simp[execOp,bZ,e1,hv,eqGuard_at_slice,q]) h rfl rfl
   ·cases h
  ·rw[pO,cond_true] at h;cases h
 ·cases h
theorem zB(I:Inv w0 Mf g st a w)(hd:∀d,o.dst=some d→d<g.n.sz)(hK:Then w0 Mf g st k r K){fn:Fn}{first lg:Array Operand}(bZ:o.op = .makeFunc fn first lg)
 (h:eQ E o st k=some r):o.wp P a w K Q:=by
 simp only[eQ,bZ] at h
 split at h
 ·rename_i f hf
  replace h:=I.j7 h;obtain⟨ss,h,hl,qC⟩:=h
  replace h:=aR h;obtain⟨bs,PF,h⟩:=h
  have zC:first = #[]:=by
   have:=congrArg List.toArray hf;simpa using this
  have key:∀(ss:List Sv)(bs:List Nat)(cs:List Operand),xv ss=some bs→ss.length=cs.length→
    (∀(j:Nat) s,ss[j]? =some s→∃x,cs[j]? =some x∧dX w g st s (a.eval x))→
    cs.map a.eval=bs.map (fun b=>Value.pointer (some ⟨g.bx b,0,none⟩))∧∀b∈bs,(ak st.boxes b).isSome:=by
   intro ss
   induction ss with
   |nil=>
    intro bs cs h1 h2 _
    simp only[xv,Option.some.injEq] at h1;subst h1
    cases cs with | nil=>simp | cons c cs=>simp at h2
   |cons s ss ih=>
    intro bs cs h1 h2 h3
    cases cs with
    |nil=>simp at h2
    |cons c cs=>
     unfold xv at h1
     split at h1
     ·rename_i heq;cases heq
     ·rename_i b r' heq
      obtain⟨rfl,rfl⟩:=List.cons.inj heq
      obtain⟨bs',fl,h1⟩:=aR h1
      simp only[Option.some.injEq] at h1;subst h1
      obtain⟨e1,e2⟩:=ih bs' cs fl (by simpa using h2) (fun j s hj=>by simpa using h3 (j+1) s (by simpa using hj))
      obtain⟨x,hx,hs⟩:=h3 0 _ rfl
      simp only[List.getElem?_cons_zero,Option.some.injEq] at hx;subst hx
      exact⟨by simp[e1,hs.2.1],fun b' hb=>by
       rcases List.mem_cons.1 hb with rfl | hb
       ·exact hs.2.2
       ·exact e2 b' hb⟩
     ·cases h1
  obtain⟨e1,e2⟩:=key ss bs lg.toList PF hl qC
  have e3:lg.map a.eval=(bs.map (fun b=>Value.pointer (some ⟨g.bx b,0,none⟩))).toArray:=by
   apply Array.ext';simpa using e1
  refine I.fQ hd hK (v:= .func (.func f) #[] (bs.map (fun b=>Value.pointer (some ⟨g.bx b,0,none⟩))).toArray) ?_ h rfl ⟨rfl,e2⟩
  simp[execOp,bZ,Instr.makeFunc,zC,e3]
 ·cases h
theorem DC(I:Inv w0 Mf g st a w)(hd:∀d,o.dst=some d→d<g.n.sz)(hK:Then w0 Mf g st k r K){x:Operand}{i:Nat}(bZ:o.op = .extract x i)
 (h:eQ E o st k=some r):o.wp P a w K Q:=by
 simp only[eQ,bZ] at h
 replace h:=I.dq h;obtain⟨s,h,hs⟩:=h
 split at h
 ·replace h:=aR h;obtain⟨c,hc,h⟩:=h
  obtain⟨us,hu,_,hr⟩:=hs
  obtain⟨z,hz,u7⟩:=hr i c hc
  exact I.val hd hK (by simp[execOp,bZ,Instr.extract,hu,hz]) h u7
 ·cases h
theorem ME(hE:E.Ok P)(I:Inv w0 Mf g st a w)(hd:∀d,o.dst=some d→d<g.n.sz)(hK:Then w0 Mf g st k r K){T:Nat}{x i:Operand}(bZ:o.op = .index T x i)
 (h:eQ E o st k=some r):o.wp P a w K Q:=by
 simp only[eQ,bZ] at h
 replace h:=I.iA h;obtain⟨h,_⟩:=h
 replace h:=I.getInt h;obtain⟨n,h,hn⟩:=h
 split at h
 ·rename_i s hT hx
  replace h:=bg h;obtain⟨hb,h⟩:=h
  simp only[Bool.and_eq_true,decide_eq_true_eq] at hb
  have hu:P.underlying T=some .string:=hE.pN T _ hT
  have cc:n.toNat<s.data.size:=by have:s.data.size=s.size:=rfl;omega
  refine I.fQ hd hK ?_ h rfl rfl
  have e1:s[n.toNat]? =some (s.data.getD n.toNat 0):=by
   show (if h:n.toNat<s.size then some s[n.toNat] else none)=_
   have nf:n.toNat<s.size:=cc
   rw[dif_pos nf,Array.getD,dif_pos cc];rfl
  simp only[execOp,bZ,hx,hn,Instr.index,asIntOf,Sem.run_bind,Sem.run_pure,Result.andThen_ok,run_underlying hu,hb.1,if_true,e1]
 ·cases h
theorem ez(b o n:Nat):(⟨b,o,none⟩:Addr).add n=⟨b,o+n,none⟩:=by
 unfold Addr.add;split
 ·rename_i h;subst h;rfl
 ·rfl
theorem fK{q:Option Ty}{e:Ty}(h:gF q=some e):q=some (.sl e):=by
 unfold gF at h;split at h
 ·simp only[Option.some.injEq] at h;subst h;rfl
 ·cases h
theorem qD{q:Option Ty}(h:isStr q=true):q=some .str:=by
 unfold isStr at h;split at h
 ·rfl
 ·cases h
theorem xC(hE:E.Ok P)(I:Inv w0 Mf g st a w)(hd:∀d,o.dst=some d→d<g.n.sz)(hK:Then w0 Mf g st k r K){T f:Nat}{x:Operand}(bZ:o.op = .fieldAddr T x f)
 (h:eQ E o st k=some r):o.wp P a w K Q:=by
 simp only[eQ,bZ] at h
 replace h:=aR h;obtain⟨⟨off,ft⟩,FW,h⟩:=h
 obtain⟨fs,fd,t,hu,Ri,rfl,rfl,qE⟩:=hE.pL T f _ _ FW
 replace h:=I.fu h;obtain⟨c,h,hc⟩:=h
 have key:∀b oo,a.eval x = .pointer (some ⟨b,oo,none⟩)→(execOp a.eval o).run P w = .ok (.value (.pointer (some ⟨b,oo+fd.offset,none⟩))) w:=by
  intro b oo hx
  have dQ:ao t≠0:=by have:=eN t;omega
  simp[execOp,bZ,hx,Instr.fieldAt,Instr.sureAddr,fieldPlace,run_underlying hu,Ri,hE.size qE,dQ,ez]
 split at h
 ·rename_i b off
  exact I.fQ hd hK (key _ _ hc.2.1) h rfl ⟨rfl,hc.2.2⟩
 ·rename_i id ver iv p i off
  replace h:=de h;obtain⟨ro,dh,h⟩:=h
  obtain⟨s,b,oo,n,cap,h1,h2,h3,hu⟩:=hc.2.2 ro dh.x
  refine I.fQ hd hK (key _ _ hu) h rfl ⟨hc.2.1,fun ro' zD=> ?_⟩
  obtain⟨s,b',Rj,n',gU,sI,BV,h3',lS⟩:=hc.2.2 ro' zD
  rw[hu] at lS
  simp only[Value.pointer.injEq,Option.some.injEq,Addr.mk.injEq,and_true] at lS
  refine⟨s,b',Rj,n',gU,sI,BV,h3',?_⟩
  simp only[Value.pointer.injEq,Option.some.injEq,Addr.mk.injEq,and_true]
  omega
 ·rename_i t' y off
  obtain⟨b,oo,cs,el,fz,hu,h1,h2,h3⟩:=hc.2
  refine I.fQ hd hK (key _ _ hu) h rfl ⟨b,oo,cs,el,fz,by rw[Nat.add_assoc],h1,h2,h3⟩
 ·cases h
theorem xD(hE:E.Ok P)(I:Inv w0 Mf g st a w)(hd:∀d,o.dst=some d→d<g.n.sz)(hK:Then w0 Mf g st k r K){T:Nat}{x i:Operand}(bZ:o.op = .indexAddr T x i)
 (h:eQ E o st k=some r):o.wp P a w K Q:=by
 simp only[eQ,bZ] at h
 replace h:=I.fu h;obtain⟨c,h,hc⟩:=h
 replace h:=I.getInt h;obtain⟨n,h,hn⟩:=h
 replace h:=aR h;obtain⟨e,he,h⟩:=h
 have hT:=fK he
 obtain⟨el,hu,lR⟩:=hE.slice hT
 have key:∀b oo len cap,a.eval x = .slice (some ⟨b,oo,none⟩) len cap→0≤n→n<len→(execOp a.eval o).run P w = .ok (.value (.pointer (some ⟨b,oo+n.toNat*ao e,none⟩))) w:=by
  intro b oo len cap hx h0 h1
  simp[execOp,bZ,hx,hn,Instr.indexAt,asIntOf,run_underlying hu,h0,h1,hE.size lR,ez]
 split at h
 ·rename_i t xs
  replace h:=bg h;obtain⟨dQ,h⟩:=h
  replace h:=bg h;obtain⟨hb,h⟩:=h
  have dQ:=gB dQ
  simp only[Bool.and_eq_true,decide_eq_true_eq] at hb
  have cc:n.toNat<xs.length:=by omega
  obtain⟨av,h0,fw⟩:=hc.2
  obtain⟨ad,cap,e1,_,hh⟩:=fw [] ⟨t,xs⟩ rfl
  obtain⟨b,oo,cs,mc,fz,rfl,hP,X7,db⟩:=hh (fun mG=>by simp only at mG;subst mG;simp at cc)
  rw[h0] at e1
  refine I.fQ hd hK (key b oo _ cap e1 hb.1 hb.2) h rfl ⟨b,oo+n.toNat*ao e,cs,mc,fz,by simp,hP,X7,fun j c hj=> ?_⟩
  obtain⟨z,hz,iO⟩:=db n.toNat _ j c (eo cc) hj
  refine⟨z,by rw[dQ];exact hz,?_⟩
  cases c with
  |v y=>exact iO
  |l t' ys=>
   have hs:aQ t xs [(n.toNat,j)]=some ⟨t',ys⟩:=by simp only[aQ,eo cc,hj]
   exact⟨fun q=>av ([(n.toNat,j)]++q),by simpa [dH] using iO.symm,fw.at hs⟩
 ·rename_i id ver iv p
  replace h:=de h;obtain⟨ro,dh,h⟩:=h
  replace h:=bg h;obtain⟨xk,h⟩:=h
  replace h:=aR h;obtain⟨s,hs,h⟩:=h
  replace h:=bg h;obtain⟨dQ,h⟩:=h
  replace h:=bg h;obtain⟨hb,h⟩:=h
  have dQ:=gB dQ
  simp only[Bool.and_eq_true,decide_eq_true_eq] at hb
  have cc:n.toNat<s.xs.length:=by omega
  obtain⟨hx,je⟩:=hc.2.2 ro dh.x
  obtain⟨s',eZ⟩:=Option.isSome_iff_exists.1 je
  have:=cV eZ;rw[hs] at this;cases this
  obtain⟨ad,cap,e1,_,hh⟩:=I.lj dh.1 xk eZ
  obtain⟨b,oo,cs,mc,fz,rfl,hP,X7,db⟩:=hh (fun mG=>by rw[mG] at cc;simp at cc)
  refine I.fQ hd hK (key b oo _ cap (hx.trans e1) hb.1 hb.2) h rfl ⟨?_,fun ro' zD=> ?_⟩
  ·have:=dh.1
   unfold cJ;simp only[this]
   exact .inr ⟨dh.2.1.symm,Nat.le_refl _⟩
  ·have:ro'=ro:=zD.is dh.1
   subst this
   exact⟨s,b,oo,_,cap,eZ,cc,e1,by rw[dQ];simp⟩
 ·rename_i id ver lo hi
  replace h:=dg h;obtain⟨ro,hv,fJ,h⟩:=h
  replace h:=bg h;obtain⟨dQ,h⟩:=h
  replace h:=bg h;obtain⟨hb,h⟩:=h
  have dQ:=gB dQ
  simp only[Bool.and_eq_true,decide_eq_true_eq] at hb
  obtain⟨h1,h2,hx⟩:=hc.2.2 ro ⟨.inl hv,fJ,fY _ _⟩
  have hlen:((ro.xs.take hi).drop lo).length=hi-lo:=by simp;omega
  rw[hlen] at hb
  obtain⟨ad,cap,e1,hle,hh⟩:=I.lj hv (p:=[]) (s:=⟨ro.t,ro.xs⟩) (by cases ro.md<;>rfl) rfl
  obtain⟨b,oo,cs,mc,fz,rfl,hP,X7,db⟩:=hh (fun mG=>by simp only at mG;rw[mG] at h2;simp at h2;omega)
  have kF:a.eval x = .slice (some ⟨b,oo+lo*ao ro.t,none⟩) (hi-lo) (cap-lo):=by
   rw[hx,e1]
   simp only[jM]
   simp only at hle
   rw[if_neg (by omega)]
   simp[ez]
  refine I.fQ hd hK (key b _ _ _ kF hb.1 (by omega)) h rfl ⟨?_,fun ro' zD=> ?_⟩
  ·unfold cJ;simp only[hv]
   exact .inr ⟨fJ.symm,Nat.le_refl _⟩
  ·have:ro'=ro:=zD.is hv
   subst this
   refine⟨⟨ro'.t,ro'.xs⟩,b,oo,_,cap,rfl,by simp only;omega,e1,?_⟩
   rw[dQ];simp only[Nat.add_mul];simp;omega
 ·cases h
theorem lT{x:Value}{n:Int}{y:Nat}{code:BoundsCode}(hx:x = .int .i64 n)(h0:0≤n)(h1:n≤y)(w:World):(Instr.sliceBound x y code).run P w = .ok n.toNat w:=by
 subst hx
 simp[Instr.sliceBound,asIntOf,h0,h1]
theorem MF(hE:E.Ok P)(I:Inv w0 Mf g st a w)(hd:∀d,o.dst=some d→d<g.n.sz)(hK:Then w0 Mf g st k r K){T:Nat}{x:Operand}{lo hi:Option Operand}(bZ:o.op = .slice T x lo hi none)
 (h:eQ E o st k=some r):o.wp P a w K Q:=by
 simp only[eQ,bZ] at h
 replace h:=I.fu h;obtain⟨c,h,hc⟩:=h
 have bounds:∀(b:Bool)(len cap:Nat)(l hh:Int),BT a lo 0 l→BT a hi len hh→
   0≤l→l≤hh→hh≤len→len≤cap→(Instr.sliceBounds b len cap (lo.map a.eval) (hi.map a.eval) none).run P w = .ok (l.toNat,hh.toNat,cap) w:=by
  intro b len cap l hh h1 h2 h3 h4 h5 h6
  cases lo<;>cases hi<;>simp only[BT] at h1 h2<;>unfold Instr.sliceBounds
  ·subst h1;subst h2;simp
  ·subst h1;simp[lT (P:=P) h2 (by omega) (by omega:hh≤(cap:Int)) w]
  ·subst h2;simp[lT (P:=P) h1 h3 (by omega:l≤(len:Int)) w]
  ·simp[lT (P:=P) h2 (by omega) (by omega:hh≤(cap:Int)) w,lT (P:=P) h1 h3 (by omega:l≤((hh.toNat:Nat):Int)) w]
 split at h
 ·rename_i s
  replace h:=bg h;obtain⟨hT,h⟩:=h
  have hu:P.underlying T=some .string:=hE.pN T _ (qD hT)
  replace h:=I.fv h;obtain⟨l,h,hl⟩:=h
  replace h:=I.fv h;obtain⟨hh,h,UP⟩:=h
  replace h:=bg h;obtain⟨hb,h⟩:=h
  simp only[Bool.and_eq_true,decide_eq_true_eq] at hb
  refine I.fQ hd hK ?_ h rfl rfl
  have hx:=hc.2;simp only[jZ] at hx
  simp only[execOp,bZ,hx,Instr.sliceAt,Instr.slice,Sem.run_bind,run_underlying hu,Result.andThen_ok,Option.map_none,Option.isSome_none,Bool.false_eq_true,if_false,
   bounds false s.size s.size l hh hl UP hb.1 hb.2.1 hb.2.2 (Nat.le_refl _),Sem.run_pure]
 ·rename_i t xs
  replace h:=aR h;obtain⟨e,he,h⟩:=h
  have hT:=fK he
  obtain⟨el,hu,lR⟩:=hE.slice hT
  replace h:=bg h;obtain⟨dQ,h⟩:=h
  have dQ:=gB dQ
  replace h:=I.fv h;obtain⟨l,h,hl⟩:=h
  replace h:=I.fv h;obtain⟨hh,h,UP⟩:=h
  replace h:=bg h;obtain⟨hb,h⟩:=h
  simp only[Bool.and_eq_true,decide_eq_true_eq] at hb
  obtain⟨av,h0,fw⟩:=hc.2
  obtain⟨ad,cap,e1,hle,_⟩:=fw [] ⟨t,xs⟩ rfl
  simp only at e1 hle
  have sS:=fw.cut (lo:=l.toNat) (hi:=hh.toNat) (by omega) (by omega)
  rw[h0] at e1
  rw[h0,e1] at sS
  refine I.fQ hd hK (v:=jM (ao t) (.slice ad xs.length cap) l.toNat hh.toNat) ?_ h rfl sS
  simp only[execOp,bZ,e1,Instr.sliceAt,Instr.slice,Sem.run_bind,run_underlying hu,Result.andThen_ok,Option.map_none,
   bounds true xs.length cap l hh hl UP hb.1 hb.2.1 hb.2.2 hle,Sem.run_pure,hE.size lR,dQ,jM]
 ·rename_i id ver iv
  replace h:=aR h;obtain⟨e,he,h⟩:=h
  have hT:=fK he
  obtain⟨el,hu,lR⟩:=hE.slice hT
  replace h:=dg h;obtain⟨ro,hv,fJ,h⟩:=h
  replace h:=bg h;obtain⟨dQ,h⟩:=h
  have dQ:=gB dQ
  replace h:=I.fv h;obtain⟨l,h,hl⟩:=h
  replace h:=I.fv h;obtain⟨hh,h,UP⟩:=h
  replace h:=bg h;obtain⟨hb,h⟩:=h
  simp only[Bool.and_eq_true,decide_eq_true_eq] at hb
  obtain⟨hx,_⟩:=hc.2.2 ro ⟨.inl hv,fJ,fY _ _⟩
  obtain⟨ad,cap,e1,hle,_⟩:=I.lj hv (p:=[]) (s:=⟨ro.t,ro.xs⟩) (by cases ro.md<;>rfl) rfl
  simp only at e1 hle
  refine I.fQ hd hK (v:=jM (ao ro.t) (g.rv id []) l.toNat hh.toNat) ?_ h ?_ ⟨?_,fun ro' zD=> ?_⟩
  ·rw[e1] at hx ⊢
   simp only[execOp,bZ,hx,Instr.sliceAt,Instr.slice,Sem.run_bind,run_underlying hu,Result.andThen_ok,Option.map_none,
    bounds true ro.xs.length cap l hh hl UP hb.1 hb.2.1 hb.2.2 hle,Sem.run_pure,hE.size lR,dQ,jM]
  ·rw[e1];rfl
  ·unfold cJ;simp only[hv];exact .inr ⟨fJ.symm,Nat.zero_le _⟩
  ·have:ro'=ro:=zD.is hv
   subst this
   exact⟨by omega,by omega,rfl⟩
 ·cases h
theorem Form.of{t:Ty}{cs:List Sc}{c:Cm}(h:xt t cs=some c){us:Array Value}(hc:cG w g st cs us):∃u,Form t u us∧gH w g st c u:=by
 unfold xt at h
 split at h
 ·rename_i ht
  simp only[Option.some.injEq] at h;subst h
  exact⟨.agg us,by simp[Form,ht],us,rfl,hc⟩
 ·rename_i c' ht
  simp only[Option.some.injEq] at h;subst h
  obtain⟨z,hz,hr⟩:=hc.2 0 c' rfl
  have hs:=hc.1
  simp only[List.length_singleton] at hs
  have oZ:us = #[z]:=by
   apply Array.ext
   ·simpa using hs
   ·intro i h1 h2
    have:i=0:=by simp at h2;omega
    subst this
    have:=Array.getElem?_eq_getElem (xs:=us) (i:=0) (by omega)
    rw[this] at hz;simpa using hz
  exact⟨z,by simp[Form,ht,oZ,hr.1],hr⟩
 ·cases h
theorem FX(hE:E.Ok P){T:Nat}{t:Ty}(hT:E.code T=some t)(cs:Array Value)(off:Nat)(hl:off+ao t≤cs.size)(hf:∀(i:Nat) v,cs[i]? =some v→cO v=true)(w:World):
    ∃u,(part T cs off).run P w = .ok u w∧Form t u (cs.extract off (off+ao t)):=by
 cases hs:e8 t
 ·have h1:=BP t hs
  have cc:off<cs.size:=by omega
  refine⟨cs[off],by simp[part,hE.agg hT,hs,cc],?_⟩
  simp only[Form,hs,Bool.false_eq_true,if_false]
  refine⟨?_,hf off _ (by simp[cc])⟩
  apply Array.ext
  ·simp;omega
  ·intro i h2 h3
   have:i=0:=by simp at h3;omega
   subst this;simp
 ·exact⟨.agg (cs.extract off (off+ao t)),by simp[part,hE.agg hT,hs,hE.size hT],by simp[Form,hs]⟩
theorem MG(hE:E.Ok P)(I:Inv w0 Mf g st a w)(hd:∀d,o.dst=some d→d<g.n.sz)(hK:Then w0 Mf g st k r K){T f:Nat}{x:Operand}(bZ:o.op = .field T x f)
 (h:eQ E o st k=some r):o.wp P a w K Q:=by
 simp only[eQ,bZ] at h
 replace h:=aR h;obtain⟨⟨off,ft⟩,FW,h⟩:=h
 obtain⟨fs,fd,t,hu,Ri,rfl,rfl,qE⟩:=hE.pL T f _ _ FW
 simp only at h
 replace h:=aR h;obtain⟨t',Um,h⟩:=h
 rw[qE] at Um;cases Um
 replace h:=I.dq h;obtain⟨s,h,hs⟩:=h
 split at h
 ·rename_i cs
  replace h:=bg h;obtain⟨hl,h⟩:=h
  replace h:=aR h;obtain⟨c,hc,h⟩:=h
  have hl:=gT hl
  obtain⟨us,lS,fc⟩:=hs
  have j3:∀(i:Nat) v,us[i]? =some v→cO v=true:=by
   intro i v hv
   have hi:i<cs.length:=by
    rw[← fc.1]
    rcases Nat.lt_or_ge i us.size with h' | h'
    ·exact h'
    ·simp[Array.getElem?_eq_none h'] at hv
   obtain⟨z,hz,hr⟩:=fc.2 i _ (List.getElem?_eq_getElem hi)
   rw[hv] at hz;cases hz;exact hr.1
  obtain⟨u,dM,eM⟩:=FX hE qE us fd.offset (by rw[fc.1];exact hl) j3 w
  have sS:cG w g st ((cs.drop fd.offset).take (ao t)) (us.extract fd.offset (fd.offset+ao t)):=by
   have dQ:=fc.1
   refine⟨by simp[fc.1];omega,fun j c' hj=> ?_⟩
   rw[List.getElem?_take] at hj
   split at hj
   ·rw[List.getElem?_drop] at hj
    obtain⟨z,hz,hr⟩:=fc.2 _ _ hj
    refine⟨z,?_,hr⟩
    rw[Array.getElem?_extract,if_pos (by omega)];exact hz
   ·cases hj
  obtain⟨u',eI,u7⟩:=Form.of hc sS
  have:u=u':=by
   unfold Form at eM eI
   split at eM
   ·rename_i ix;simp only[ix,if_true] at eI;rw[eM,eI]
   ·rename_i ix;simp only[ix,if_false] at eI;have:=eM.1.symm.trans eI.1;simpa using this
  subst this
  refine I.val hd hK ?_ h u7
  simp[execOp,bZ,Instr.field,run_underlying hu,Ri,lS,asAgg,dM]
 ·cases h
theorem MH{w:World}{b:Nat}{us:Array Value}{el:Nat}{fz:Nat×Nat}(hb:w.heap[b]? =some (.cells us el fz))(o:Nat):w.cell? ⟨b,o,none⟩=us[o]? :=by
 simp[World.cell?,hb]
theorem DD(hE:E.Ok P)(I:Inv w0 Mf g st a w)(hd:∀d,o.dst=some d→d<g.n.sz)(hK:Then w0 Mf g st k r K){S T:Nat}{x:Operand}(bZ:o.op = .convert S T x)
 (h:eQ E o st k=some r):o.wp P a w K Q:=by
 simp only[eQ,bZ] at h
 split at h
 ·rename_i ks kd hS hT
  have h1:P.underlying S=some (.int ks):=hE.pN S _ hS
  have h2:P.underlying T=some (.int kd):=hE.pN T _ hT
  replace h:=I.iA h;obtain⟨h,_⟩:=h
  split at h
  ·rename_i kk n hx
   exact I.fQ hd hK (by simp[execOp,bZ,hx,convert,run_underlying h1,run_underlying h2,Conv.intToInt]) h rfl rfl
  ·cases h
 ·rename_i ks hS hT
  have h1:P.underlying S=some (.int ks):=hE.pN S _ hS
  have h2:P.underlying T=some .string:=hE.pN T _ hT
  replace h:=I.iA h;obtain⟨h,_⟩:=h
  split at h
  ·rename_i kk n hx
   exact I.fQ hd hK (by simp[execOp,bZ,hx,convert,run_underlying h1,run_underlying h2,Conv.intToString]) h rfl rfl
  ·cases h
 ·rename_i hS hT
  have h1:P.underlying S=some .string:=hE.pN S _ hS
  have h2:P.underlying T=some .string:=hE.pN T _ hT
  replace h:=I.iA h;obtain⟨h,_⟩:=h
  split at h
  ·rename_i s hx
   exact I.fQ hd hK (by simp[execOp,bZ,hx,convert,run_underlying h1,run_underlying h2]) h rfl rfl
  ·cases h
 ·rename_i hS hT
  obtain⟨el,h1,lR⟩:=hE.slice hS
  have sI:P.underlying el=some (.int .u8):=hE.pN el _ lR
  have h2:P.underlying T=some .string:=hE.pN T _ hT
  replace h:=I.fu h;obtain⟨c,h,hc⟩:=h
  replace h:=I.ma h hc;obtain⟨cv,h,m8⟩:=h
  replace h:=aR h;obtain⟨xs,pO,h⟩:=h
  have:=Cv.eO pO;subst this
  obtain⟨av,h0,fw⟩:=m8
  obtain⟨ad,cap,e1,hle,hh⟩:=fw [] ⟨.i .u8,xs⟩ rfl
  simp only at e1 hh
  rw[h0] at e1
  refine I.fQ hd hK ?_ h rfl rfl
  have hc:(convert S T (.slice ad xs.length cap)).run P w = .ok (.string (bytesOf xs)) w:=by
   rw[run_convert_bytes_string w S T el ad xs.length cap h1 sI h2]
   cases ad with
   |none=>
    have hn:xs=[]:=Classical.byContradiction fun hn=>by
     obtain⟨b,o',cs,mc,fz,h3,_⟩:=hh hn
     cases h3
    subst hn
    simp[Conv.bytesToString,bytesOf,ByteArray.empty,ByteArray.emptyWithCapacity];rfl
   |some adr=>
    have hl:(loadCells adr xs.length).run P w = .ok (xs.map (Value.int .u8)).toArray w:=by
     by_cases hn:xs=[]
     ·subst hn;rfl
     ·obtain⟨b,o',cs,mc,fz,h3,_,h4,h5⟩:=hh hn
      cases h3
      have:=run_loadCells_list (P:=P) w ⟨b,o',none⟩ (xs.map (Value.int .u8)) (fun j v hj=>by
       obtain⟨x,hx,rfl⟩:∃x,xs[j]? =some x∧Value.int .u8 x=v:=by simpa using hj
       obtain⟨u,hu,gu⟩:=h5 j x 0 (.v (.int .u8 x)) hx rfl
       have gu:u = .int .u8 x:=gu
       subst gu
       have e1:ao (.i .u8)=1:=rfl
       simp only[e1,Nat.mul_one,Nat.add_zero] at hu
       rw[show (⟨b,o',none⟩:Addr).add j=⟨b,o'+j,none⟩ by unfold Addr.add;split<;>simp_all,MH h4]
       exact hu)
      simpa using this
    rw[run_bytesToString w adr xs.length cap xs hl,foldl_push_bytes]
    simp[bytesOf,ByteArray.empty,ByteArray.emptyWithCapacity];rfl
  simp only[execOp,bZ,e1,Sem.run_bind,hc,Result.andThen_ok]
  rfl
 ·cases h
theorem UQ(hE:E.Ok P)(I:Inv w0 Mf g st a w)(hd:∀d,o.dst=some d→d<g.n.sz)(hK:Then w0 Mf g st k r K){c:Call}(bZ:o.op = .call c)(hc:c.callee = .builtin .len)
 (h:eQ E o st k=some r):o.wp P a w K Q:=by
 simp only[eQ,bZ,hc,eP] at h
 split at h
 case h_2=>cases h
 rename_i x T fZ FY
 have hI:c.args = #[x]:=by apply Array.ext';simpa using fZ
 have xE:c.argTypes = #[T]:=by apply Array.ext';simpa using FY
 have key:∀v:Value,(Builtin.len_ #[T] o.type #[a.eval x]).run P w = .ok v w→(execOp a.eval o).run P w = .ok (.value v) w:=by
  intro v hv
  simp[execOp,bZ,resolve,hc,invoke,builtin,hI,xE,hv]
 replace h:=I.fu h;obtain⟨c',h,j0⟩:=h
 have sl:∀{e:Ty},gF (E.code T)=some e→∃el,P.underlying T=some (.slice el):=fun he=>let ⟨el,h,_⟩:=hE.slice (fK he);⟨el,h⟩
 split at h
 ·replace h:=bg h;obtain⟨hT,h⟩:=h
  have hu:P.underlying T=some .string:=hE.pN T _ (qD hT)
  have hx:=j0.2;simp only[jZ] at hx
  exact I.fQ hd hK (key _ (by simp[Builtin.len_,run_underlying hu,hx,goInt])) h rfl rfl
 ·replace h:=aR h;obtain⟨e,he,h⟩:=h
  obtain⟨el,hu⟩:=sl he
  have hx:=j0.2;simp only[jZ] at hx
  exact I.fQ hd hK (key _ (by simp[Builtin.len_,run_underlying hu,hx,goInt])) h rfl rfl
 ·replace h:=aR h;obtain⟨e,he,h⟩:=h
  obtain⟨el,hu⟩:=sl he
  obtain⟨av,h0,fw⟩:=j0.2
  obtain⟨ad,cap,e1,_⟩:=fw [] _ rfl
  rw[h0] at e1
  exact I.fQ hd hK (key _ (by simp[Builtin.len_,run_underlying hu,e1,goInt])) h rfl rfl
 ·replace h:=aR h;obtain⟨e,he,h⟩:=h
  obtain⟨el,hu⟩:=sl he
  replace h:=de h;obtain⟨ro,dh,h⟩:=h
  replace h:=bg h;obtain⟨xk,h⟩:=h
  replace h:=aR h;obtain⟨s,hs,h⟩:=h
  obtain⟨hx,je⟩:=j0.2.2 ro dh.x
  obtain⟨s',eZ⟩:=Option.isSome_iff_exists.1 je
  have:=cV eZ;rw[hs] at this;cases this
  obtain⟨ad,cap,e1,_⟩:=I.lj dh.1 xk eZ
  exact I.fQ hd hK (key _ (by simp[Builtin.len_,run_underlying hu,hx.trans e1,goInt])) h rfl rfl
 ·replace h:=aR h;obtain⟨e,he,h⟩:=h
  obtain⟨el,hu⟩:=sl he
  replace h:=dg h;obtain⟨ro,hv,fJ,h⟩:=h
  obtain⟨h1,h2,hx⟩:=j0.2.2 ro ⟨.inl hv,fJ,fY _ _⟩
  obtain⟨ad,cap,e1,_⟩:=(I.lj hv (p:=[]) (s:=⟨ro.t,ro.xs⟩) (by cases ro.md<;>rfl) rfl).YH h1 h2
  rw[← hx] at e1
  exact I.fQ hd hK (key _ (by simp only[Builtin.len_];simp[run_underlying hu,e1,goInt])) h rfl rfl
 ·cases h
theorem UR(I:Inv w0 Mf g st a w)(hd:∀d,o.dst=some d→d<g.n.sz)(hK:Then w0 Mf g st k r K){c:Call}(bZ:o.op = .call c)(hc:c.callee = .builtin .min)
 (h:eQ E o st k=some r):o.wp P a w K Q:=by
 simp only[eQ,bZ,hc,eP] at h
 split at h
 case h_2=>cases h
 rename_i x y fZ
 have hI:c.args = #[x,y]:=by apply Array.ext';simpa using fZ
 replace h:=I.iA h;obtain⟨h,_⟩:=h
 replace h:=I.iA h;obtain⟨h,_⟩:=h
 replace h:=aR h;obtain⟨z,hz,h⟩:=h
 unfold u5 at hz
 split at hz
 ·rename_i k1 n1 k2 n2 hx hy
  simp only[cond_false,Option.some.injEq] at hz;subst hz
  refine I.fQ hd hK ?_ h rfl rfl
  simp[execOp,bZ,resolve,hc,invoke,builtin,hI,Builtin.min_,hx,hy,Builtin.min2]
 ·cases hz
theorem US(I:Inv w0 Mf g st a w)(hd:∀d,o.dst=some d→d<g.n.sz)(hK:Then w0 Mf g st k r K){c:Call}(bZ:o.op = .call c)(hc:c.callee = .builtin .max)
 (h:eQ E o st k=some r):o.wp P a w K Q:=by
 simp only[eQ,bZ,hc,eP] at h
 split at h
 case h_2=>cases h
 rename_i x y fZ
 have hI:c.args = #[x,y]:=by apply Array.ext';simpa using fZ
 replace h:=I.iA h;obtain⟨h,_⟩:=h
 replace h:=I.iA h;obtain⟨h,_⟩:=h
 replace h:=aR h;obtain⟨z,hz,h⟩:=h
 unfold u5 at hz
 split at hz
 ·rename_i k1 n1 k2 n2 hx hy
  simp only[cond_true,Option.some.injEq] at hz;subst hz
  refine I.fQ hd hK ?_ h rfl rfl
  simp[execOp,bZ,resolve,hc,invoke,builtin,hI,Builtin.max_,hx,hy,Builtin.max2]
 ·cases hz
theorem jO{w:World}{b:Nat}{us:Array Value}{el:Nat}{fz:Nat×Nat}(hb:w.heap[b]? =some (.cells us el fz))(o:Nat):w.cell? ⟨b,o,none⟩=us[o]? :=by
 simp[World.cell?,hb]
theorem o0(hE:E.Ok P){T:Nat}{t:Ty}(hT:E.code T=some t){b off:Nat}{us:Array Value}{el:Nat}{fz:Nat×Nat}(hb:w.heap[b]? =some (.cells us el fz))(hl:off+ao t≤us.size)
 (hf:∀(j:Nat) v,(us.extract off (off+ao t))[j]? =some v→cO v=true):∃u,(loadVar T ⟨b,off,none⟩).run P w = .ok u w∧Form t u (us.extract off (off+ao t)):=by
 cases hs:e8 t
 ·have h1:=BP t hs
  have cc:off<us.size:=by omega
  have hc:=jO hb off
  rw[Array.getElem?_eq_getElem cc] at hc
  refine⟨us[off],by simp[loadVar,hE.agg hT,hs,hc],?_⟩
  simp only[Form,hs,Bool.false_eq_true,if_false]
  refine⟨?_,hf 0 _ (by rw[Array.getElem?_extract,if_pos (by omega)];simp[cc])⟩
  apply Array.ext
  ·simp;omega
  ·intro i h2 h3
   have:i=0:=by simp at h3;omega
   subst this;simp
 ·have hlen:(us.extract off (off+ao t)).toList.length=ao t:=by simp;omega
  have:=run_loadCells_list (P:=P) w ⟨b,off,none⟩ (us.extract off (off+ao t)).toList (fun j v hj=>by
   rw[ez,jO hb]
   rw[Array.getElem?_toList,Array.getElem?_extract] at hj
   split at hj
   ·exact hj
   ·cases hj)
  rw[hlen,Array.toArray_toList] at this
  exact⟨.agg (us.extract off (off+ao t)),by simp[loadVar,hE.agg hT,hs,hE.size hT,this],by simp[Form,hs]⟩
theorem cG.flat{cs:List Sc}{us:Array Value}(h:cG w g st cs us):∀(j:Nat) v,us[j]? =some v→cO v=true:=by
 intro j v hv
 have hi:j<cs.length:=by
  rw[← h.1]
  rcases Nat.lt_or_ge j us.size with h' | h'
  ·exact h'
  ·simp[Array.getElem?_eq_none h'] at hv
 obtain⟨z,hz,hr⟩:=h.2 j _ (List.getElem?_eq_getElem hi)
 rw[hv] at hz;cases hz;exact hr.1
theorem cG.cut{cs:List Sc}{us:Array Value}(h:cG w g st cs us)(off n:Nat)(hl:off+n≤cs.length):cG w g st ((cs.drop off).take n) (us.extract off (off+n)):=by
 have dQ:=h.1
 refine⟨by simp;omega,fun j c' hj=> ?_⟩
 rw[List.getElem?_take] at hj
 split at hj
 ·rw[List.getElem?_drop] at hj
  obtain⟨z,hz,hr⟩:=h.2 _ _ hj
  exact⟨z,by rw[Array.getElem?_extract,if_pos (by omega)];exact hz,hr⟩
 ·cases hj
theorem ff{P':Nat→Prop}{t:Ty}{x:El t}{j:Nat}{c:Cv}(hc:(enc t x)[j]? =some c){u:Value}(h:lQ w P' c u):cO u=true:=by
 cases c with
 |v y=>
  have:=qk t x
  rw[List.all_eq_true] at this
  have:=this _ (List.mem_of_getElem? hc)
  simp only[lQ] at h;subst h;exact this
 |l t' ys=>
  obtain⟨av,h0,fw⟩:=h
  obtain⟨ad,cap,e,_⟩:=fw [] _ rfl
  rw[h0] at e;subst e;rfl
theorem Inv.DE(I:Inv w0 Mf g st a w){id ver iv:Nat}{p:Path}{ro:cy}(dh:Vd st id ver iv p ro)(xk:ro.md.nodeAt p=true){s:Sl}(hs:aQ ro.t ro.xs p=some s){i:Nat}(hi:i<s.xs.length):
    ∃b oo us el fz,g.rv id p = .slice (some ⟨b,oo,none⟩) s.xs.length (match g.rv id p with | .slice _ _ c=>c | _=>0)∧w.heap[b]? =some (.cells us el fz)∧oo+i*ao s.t+ao s.t≤us.size∧
      cG w g st ((enc s.t (ax s.xs i)).zipIdx.map fun (c,j)=>match c with | .v x=> .v x | .l t ys=>cond ro.md.tv (.ro t ys) (.h id ver ro.log.length (p++[(i,j)])))
 (us.extract (oo+i*ao s.t) (oo+i*ao s.t+ao s.t)):=by
 obtain⟨ad,cap,e1,hle,hh⟩:=I.lj dh.1 xk hs
 obtain⟨b,oo,us,el,fz,rfl,hP,hb,db⟩:=hh (fun mG=>by rw[mG] at hi;simp at hi)
 have hx:=eo hi
 have hlen:=aS s.t (ax s.xs i)
 have me:=eN s.t
 -- each cell
 have iP:∀(j:Nat)(c:Cv),(enc s.t (ax s.xs i))[j]? =some c→∃u,us[oo+i*ao s.t+j]? =some u∧dH c u (g.rv id (p++[(i,j)])):=fun j c hc=>db i _ j c hx hc
 have dy:oo+i*ao s.t+ao s.t≤us.size:=by
  have:∃c,(enc s.t (ax s.xs i))[ao s.t-1]? =some c:=⟨_,List.getElem?_eq_getElem (by omega)⟩
  obtain⟨c,hc⟩:=this
  obtain⟨u,hu,_⟩:=iP _ c hc
  rcases Nat.lt_or_ge (oo+i*ao s.t+(ao s.t-1)) us.size with h' | h'
  ·omega
  ·simp[Array.getElem?_eq_none h'] at hu
 refine⟨b,oo,us,el,fz,by rw[e1],hb,dy,?_⟩
 refine⟨by simp[hlen];omega,fun j c' hj=> ?_⟩
 rw[List.getElem?_map,List.getElem?_zipIdx] at hj
 cases hc:(enc s.t (ax s.xs i))[j]? with
 |none=>simp[hc] at hj
 |some c=>
  simp only[hc,Option.map_some,Option.some.injEq,Nat.zero_add] at hj
  have DF:j<ao s.t:=by
   rw[← hlen]
   rcases Nat.lt_or_ge j (enc s.t (ax s.xs i)).length with h' | h'
   ·exact h'
   ·simp[List.getElem?_eq_none h'] at hc
  obtain⟨u,hu,gu⟩:=iP j c hc
  refine⟨u,by rw[Array.getElem?_extract,if_pos (by omega)];exact hu,?_⟩
  cases c with
  |v y=>
   simp only at hj;subst hj
   simp only[dH] at gu;subst gu
   exact⟨ff (P':=fun _=>True) (w:=w) hc rfl,rfl⟩
  |l t ys=>
   simp only at hj
   simp only[dH] at gu
   have dp:aQ ro.t ro.xs (p++[(i,j)])=some ⟨t,ys⟩:=by
    rw[cn _ hs];simp only[aQ,hx,hc]
   have j3:cO u=true:=by
    rw[gu];exact I.xx dh.1 dp
   cases hd:ro.md.tv
   rotate_left
   ·simp only[hd,cond_true] at hj;subst hj
    refine⟨j3,fun q=>g.rv id ((p++[(i,j)])++q),by simp[gu],?_⟩
    have hr:=I.roots id ro dh.1
    unfold aX at hr
    have hts:ep w (fun k=>g.ro k) t ys fun q=>g.rv id ((p++[(i,j)])++q):=by
     intro q s' eZ
     have PG:aQ ro.t ro.xs ((p++[(i,j)])++q)=some s':=by rw[cn _ dp];exact eZ
     split at hr
     ·rename_i hm;simp[hm,Md.tv] at hd
     ·have:=hr.2 _ s' (by simp) PG
      simpa [List.append_assoc] using this
     ·have:=hr _ s' PG
      simpa [List.append_assoc] using this
     ·rename_i hm;simp[hm,Md.tv] at hd
    exact hts
   ·simp only[hd,cond_false] at hj;subst hj
    refine⟨j3,?_,fun r' jf=> ?_⟩
    ·unfold cJ;simp only[dh.1];exact .inr ⟨dh.2.1.symm,Nat.le_refl _⟩
    ·have:r'=ro:=jf.is dh.1
     subst this
     exact⟨gu,by rw[dp];rfl⟩
theorem Rk(hE:E.Ok P)(I:Inv w0 Mf g st a w)(hd:∀d,o.dst=some d→d<g.n.sz)(hK:Then w0 Mf g st k r K){T:Nat}{x:Operand}(bZ:o.op = .load T x)
 (h:eQ E o st k=some r):o.wp P a w K Q:=by
 simp only[eQ,bZ] at h
 replace h:=aR h;obtain⟨t,hT,h⟩:=h
 replace h:=I.fu h;obtain⟨c,h,hc⟩:=h
 -- where it lies, and what is there
 have fin:∀(b off:Nat)(us:Array Value)(el:Nat)(fz:Nat×Nat)(cs:List Sc),a.eval x = .pointer (some ⟨b,off,none⟩)→w.heap[b]? =some (.cells us el fz)→off+ao t≤us.size→
   cG w g st cs (us.extract off (off+ao t))→((xt t cs).bind fun c=>k (put o (.c c)))=some r→o.wp P a w K Q:=by
  intro b off us el fz cs hx hb hl fc h
  replace h:=aR h;obtain⟨cm,u7,h⟩:=h
  obtain⟨u,dM,eM⟩:=o0 hE hT hb hl fc.flat
  obtain⟨u',eI,u9⟩:=Form.of u7 fc
  have:u=u':=by
   unfold Form at eM eI
   split at eM
   ·rename_i ix;simp only[ix,if_true] at eI;rw[eM,eI]
   ·rename_i ix;simp only[ix] at eI;have:=eM.1.symm.trans eI.1;simpa using this
  subst this
  exact I.val hd hK (by simp[execOp,bZ,Instr.loadAt,hx,Instr.sureAddr,dM]) h u9
 unfold loadAt at h
 split at h
 ·rename_i b off
  replace h:=aR h;obtain⟨bx,u6,h⟩:=h
  replace h:=bg h;obtain⟨hl,h⟩:=h
  have hl:=gT hl
  obtain⟨us,el,hb,fc⟩:=I.boxes b bx u6
  have:=fc.1
  exact fin _ _ us el _ _ hc.2.1 hb (by omega) (fc.cut off (ao t) hl) h
 ·rename_i id ver iv p i off
  replace h:=de h;obtain⟨ro,dh,h⟩:=h
  replace h:=bg h;obtain⟨xk,h⟩:=h
  replace h:=aR h;obtain⟨s,hs,h⟩:=h
  replace h:=bg h;obtain⟨hl,h⟩:=h
  have hl:=gT hl
  obtain⟨s',b,oo,n,cap,h1,h2,h3,hu⟩:=hc.2.2 ro dh.x
  have:=cV h1;rw[hs] at this;cases this
  obtain⟨b',Rj,us,el,fz,e1,hb,dy,fc⟩:=I.DE dh xk h1 h2
  rw[h3] at e1
  simp only[Value.slice.injEq,Option.some.injEq,Addr.mk.injEq,and_true] at e1
  obtain⟨⟨rfl,rfl⟩,_⟩:=e1
  have hlen:((enc s.t (ax s.xs i)).zipIdx.map fun (c,j)=>(match c with | .v x=>Sc.v x | .l t ys=>cond ro.md.tv (.ro t ys) (.h id ver ro.log.length (p++[(i,j)])))).length=ao s.t:=by simp[aS]
  have sS:=fc.cut off (ao t) (by rw[hlen];omega)
  have hex:(us.extract (oo+i*ao s.t) (oo+i*ao s.t+ao s.t)).extract off (off+ao t)=us.extract (oo+i*ao s.t+off) (oo+i*ao s.t+off+ao t):=by
   apply Array.ext
   ·simp;omega
   ·intro i' h1 h2;simp[Nat.add_assoc]
  rw[hex] at sS
  refine fin _ _ us el fz _ hu hb (by omega) sS ?_
  rw[List.map_take,List.map_drop] at h
  exact h
 ·rename_i t' y off
  replace h:=bg h;obtain⟨hl,h⟩:=h
  have hl:=gT hl
  obtain⟨b,oo,us,el,fz,hu,hP,hb,ll⟩:=hc.2
  have hlen:=aS t' y
  have me:=eN t'
  have dy:oo+ao t'≤us.size:=by
   have:∃c,(enc t' y)[ao t'-1]? =some c:=⟨_,List.getElem?_eq_getElem (by omega)⟩
   obtain⟨c,hc⟩:=this
   obtain⟨u,hu,_⟩:=ll _ c hc
   rcases Nat.lt_or_ge (oo+(ao t'-1)) us.size with h' | h'
   ·omega
   ·simp[Array.getElem?_eq_none h'] at hu
  have dm:cG w g st ((enc t' y).map fun | .v x=>Sc.v x | .l t ys=> .ro t ys) (us.extract oo (oo+ao t')):=by
   refine⟨by simp[hlen];omega,fun j c' hj=> ?_⟩
   rw[List.getElem?_map] at hj
   cases xl:(enc t' y)[j]? with
   |none=>simp[xl] at hj
   |some cv=>
    simp only[xl,Option.map_some,Option.some.injEq] at hj
    obtain⟨z,hz,iO⟩:=ll j cv xl
    have DF:j<ao t':=by
     rw[← hlen]
     rcases Nat.lt_or_ge j (enc t' y).length with h' | h'
     ·exact h'
     ·simp[List.getElem?_eq_none h'] at xl
    refine⟨z,by rw[Array.getElem?_extract,if_pos (by omega)];exact hz,ff xl iO,?_⟩
    cases cv with
    |v q=>simp only at hj;subst hj;exact iO
    |l t1 ys=>simp only at hj;subst hj;exact iO
  have sS:=dm.cut off (ao t) (by simp[hlen];omega)
  have hex:(us.extract oo (oo+ao t')).extract off (off+ao t)=us.extract (oo+off) (oo+off+ao t):=by
   apply Array.ext
   ·simp;omega
   ·intro i' h1 h2;simp[Nat.add_assoc]
  rw[hex] at sS
  refine fin _ _ us el fz _ hu hb (by omega) sS ?_
  rw[List.map_take,List.map_drop] at h
  exact h
 ·cases h
def ga(w:World)(o:Obj):World:={ w with heap:=w.heap.push o }
theorem xF(w:World)(o:Obj):(ga w o).heap[w.heap.size]? =some o:=by show (w.heap.push o)[w.heap.size]? =_;rw[Array.getElem?_push,if_pos rfl]
theorem kb(w:World)(o:Obj):bw (fun _=>False) w (ga w o):=
 ⟨by simp[ga],fun b hb _=>by simp only[ga];rw[Array.getElem?_push,if_neg (by omega)]⟩
theorem Kept.step{w1 w2:World}{X:Nat→Prop}(h:Kept w0 w1 Mf)(ho:w2.os=w1.os)(ht:w2.tape=w1.tape)(hp:w2.output=w1.output)(hs:bw X w1 w2)
 (hX:∀k,X k→w0.heap.size≤k∨Mf k):Kept w0 w2 Mf:=
 ⟨ho.trans h.os,ht.trans h.tape,hp.trans h.output,⟨Nat.le_trans h.same.1 hs.1,fun b hb hm=>
 (hs.2 b (Nat.lt_of_lt_of_le hb h.same.1) fun hx=>(hX b hx).elim (fun h=>by omega) hm).trans (h.same.2 b hb hm)⟩⟩
theorem Kept.push(h:Kept w0 w Mf)(o:Obj):Kept w0 (ga w o) Mf:=h.step rfl rfl rfl (kb w o) (fun _ h=>h.elim)
theorem Inv.push(I:Inv w0 Mf g st a w)(o:Obj):Inv w0 Mf g st a (ga w o):=
  I.world (kb w o) (fun _ _=>id) (fun _ _ _ _=>id) (fun _ _=>id) (I.kept.push o)
def Gh.dR(g:Gh)(d nb:Nat):Gh:={ g with bx:=fun i=>if i=d then nb else g.bx i }
theorem jZ.dR{d nb:Nat}{x:Bx}(hn:ak st.boxes d=none){c:Sc}{u:Value}(h:jZ w g st c u):jZ w (g.dR d nb) { st with boxes:=bc st.boxes d x } c u:=by
 have hb:∀b,(ak st.boxes b).isSome→b≠d∧(ak (bc st.boxes d x) b).isSome:=fun b hb=>by
  have:b≠d:=fun e=>by subst e;simp[hn] at hb
  exact⟨this,by rw[bQ _ _ this];exact hb⟩
 cases c with
 |pt b off=>obtain⟨h1,h2⟩:=hb b h.2;exact⟨by simp only[Gh.dR,h1,if_false];exact h.1,h2⟩
 |fq fn bs=>
  refine⟨?_,fun b hm=>(hb b (h.2 b hm)).2⟩
  have:bs.map (fun b=>Value.pointer (some ⟨(g.dR d nb).bx b,0,none⟩))=bs.map (fun b=>Value.pointer (some ⟨g.bx b,0,none⟩)):=
   List.map_congr_left fun b hm=>by simp[Gh.dR,(hb b (h.2 b hm)).1]
  rw[this];exact h.1
 |_=>exact h
theorem Inv.zE(I:Inv w0 Mf g st a w){d nb:Nat}(hn:ak st.boxes d=none){t:Ty}{cs:List Sc}{us:Array Value}{el:Nat}(hb:w.heap[nb]? =some (.cells us el (0,0)))
 (fc:cG w g st cs us) (hr:∀id,aT st id→ ¬g.rf id nb) (dh : ¬g.ro nb) (u6:∀b,bz st b→g.bx b≠nb) (hm:w0.heap.size≤nb∨Mf nb):
    Inv w0 Mf (g.dR d nb) { st with boxes:=bc st.boxes d ⟨t,cs⟩ } a w:=by
 have BW:∀c u,bf w g st c u→bf w (g.dR d nb) { st with boxes:=bc st.boxes d ⟨t,cs⟩ } c u:=fun _ _ hc=>⟨hc.1,hc.2.dR hn⟩
 have cH:∀b,bz { st with boxes:=bc st.boxes d ⟨t,cs⟩ } b→b=d∨(b≠d∧bz st b):=fun b h=>by
  by_cases e:b=d
  ·exact .inl e
  ·exact .inr ⟨e,by simpa [bz,aJ,e] using h⟩
 exact {
  az:=fun s sv h=>let ⟨u,hu,hr⟩:=I.az s sv h;⟨u,hu,hr.map BW⟩
  boxes:=fun b x h=>by
   simp only[aJ] at h
   by_cases e:b=d
   ·subst e
    simp only[if_true,Option.some.injEq] at h;subst h
    exact⟨us,el,by simpa [Gh.dR] using hb,fc.map BW⟩
   ·simp only[e,if_false] at h
    obtain⟨us',mc,h1,h2⟩:=I.boxes b x h
    exact⟨us',mc,by simpa [Gh.dR,e] using h1,h2.map BW⟩
  roots:=I.roots
  apart:={
   rr:=I.apart.rr
   rb:=fun id b h1 h2=>by
    rcases cH b h2 with rfl | ⟨e,h⟩
    ·simpa [Gh.dR] using hr id h1
    ·simpa [Gh.dR,e] using I.apart.rb id b h1 h
   bb:=fun b b' h1 h2 h3=>by
    rcases cH b h1 with rfl | ⟨e,h⟩<;>rcases cH b' h2 with rfl | ⟨e',h'⟩
    ·rfl
    ·simp only[Gh.dR,if_true,e',if_false] at h3;exact (u6 b' h' h3.symm).elim
    ·simp only[Gh.dR,if_true,e,if_false] at h3;exact (u6 b h h3).elim
    ·simp only[Gh.dR,e,e',if_false] at h3;exact I.apart.bb b b' h h' h3
   ew:=I.apart.ew
   fI:=fun b h=>by
    rcases cH b h with rfl | ⟨e,h⟩
    ·simpa [Gh.dR] using dh
    ·simpa [Gh.dR,e] using I.apart.fI b h
   cj:=I.apart.cj
   dN:=fun b h=>by
    rcases cH b h with rfl | ⟨e,h⟩
    ·simpa [Gh.dR] using hm
    ·simpa [Gh.dR,e] using I.apart.dN b h
   er:=I.apart.er
   da:=I.apart.da
   bM:=I.apart.bM }
  kept:=I.kept
  defers:=I.defers
  size:=I.size
  base:=⟨I.base.wl,I.base.ap,I.base.ro⟩ }
theorem cG.push{cs:List Sc}{us:Array Value}(h:cG w g st cs us)(o:Obj):cG (ga w o) g st cs us:=
  h.map fun c u hc=>⟨hc.1,hc.2.world (kb w o) (fun _ _=>id)⟩
theorem Inv.alloc(I:Inv w0 Mf g st a w){d:Nat}(hn:ak st.boxes d=none){t:Ty}{cs:List Sc}{us:Array Value}(el:Nat)(fc:cG w g st cs us):
    Inv w0 Mf (g.dR d w.heap.size) { st with boxes:=bc st.boxes d ⟨t,cs⟩ } a (ga w (.cells us el)):=
 (I.push _).zE hn (xF _ _) (fc.push _) (fun id h1 h2=>by have:=I.apart.er id _ h1 h2;omega) (fun h=>by have:=I.apart.da _ h;omega)
 (fun b h e=>by
      obtain⟨x,hx⟩:=Option.isSome_iff_exists.1 h
      obtain⟨us',mc,h1,_⟩:=I.boxes b x hx
      have:=(Array.getElem?_eq_some_iff.1 h1).1
      omega) (.inl I.kept.same.1)
theorem BX(t:Ty):cG w g st (m9 t) (dY t).toArray:=by
 refine⟨by simp[m9,dY],fun j c hj=> ?_⟩
 simp only[m9,List.getElem?_map] at hj
 cases hc:(enc t (zero t))[j]? with
 |none=>simp[hc] at hj
 |some cv=>
  simp only[hc,Option.map_some,Option.some.injEq] at hj
  cases cv with
  |v x=>simp only at hj;subst hj;exact⟨x,by simp[dY,hc],ff (P':=fun _=>True) (w:=w) hc rfl,rfl⟩
  |l t' ys=>simp only at hj;subst hj;exact⟨.slice none 0 0,by simp[dY,hc],rfl,rfl⟩
theorem qF{T:Nat}{v:Value}(w:World):(newVar T v).run P w = .ok ⟨w.heap.size,0,none⟩ (ga w (.cells v.cells T)):=by
 simp[newVar,newRow,ga]
theorem MI(hE:E.Ok P)(I:Inv w0 Mf g st a w)(hd:∀d,o.dst=some d→d<g.n.sz)(hK:Then w0 Mf g st k r K){T:Nat}(bZ:o.op = .alloc T)
 (h:eQ E o st k=some r):o.wp P a w K Q:=by
 simp only[eQ,bZ] at h
 replace h:=aR h;obtain⟨t,hT,h⟩:=h
 replace h:=aR h;obtain⟨d,jg,h⟩:=h
 split at h
 case h_2=>cases h
 rename_i hn
 obtain⟨zv,hz,qG⟩:=hE.zero hT w
 have I':=I.alloc hn T (BX (w:=w) (g:=g) (st:=st) t) (t:=t)
 have Rl:=I'.zz (dst:=some d) (fun d' e=>by simp only[Option.some.injEq] at e;subst e;exact hd d jg) (s:= .c (.one (.pt d 0))) (v:= .pointer (some ⟨w.heap.size,0,none⟩))
  ⟨rfl,by simp[jZ,Gh.dR,bj]⟩
 refine lk (v:= .pointer (some ⟨w.heap.size,0,none⟩)) (w':=ga w (.cells (dY t).toArray T)) ?_ ?_
 ·simp[execOp,bZ,Instr.alloc,hz,qF,qG]
 ·rw[jg]
  exact hK _ (g.dR d w.heap.size) _ _ h rfl Rl
theorem UT(hE:E.Ok P)(I:Inv w0 Mf g st a w)(hd:∀d,o.dst=some d→d<g.n.sz)(hK:Then w0 Mf g st k r K){T:Nat}{x:Operand}(bZ:o.op = .box T x)
 (h:eQ E o st k=some r):o.wp P a w K Q:=by
 simp only[eQ,bZ] at h
 replace h:=aR h;obtain⟨t,hT,h⟩:=h
 replace h:=aR h;obtain⟨d,jg,h⟩:=h
 split at h
 case h_2=>cases h
 rename_i hn
 replace h:=I.dq h;obtain⟨s,h,hs⟩:=h
 replace h:=aR h;obtain⟨cs,fc,h⟩:=h
 replace h:=bg h;obtain⟨hl,h⟩:=h
 obtain⟨us,eM,pC⟩:=dr fc hs
 have I':=I.alloc hn T pC (t:=t)
 have Rl:=I'.zz (dst:=some d) (fun d' e=>by simp only[Option.some.injEq] at e;subst e;exact hd d jg) (s:= .c (.one (.pt d 0))) (v:= .pointer (some ⟨w.heap.size,0,none⟩))
  ⟨rfl,by simp[jZ,Gh.dR,bj]⟩
 refine lk (v:= .pointer (some ⟨w.heap.size,0,none⟩)) (w':=ga w (.cells us T)) ?_ ?_
 ·simp[execOp,bZ,Instr.box,qF,eM.cells]
 ·rw[jg]
  exact hK _ (g.dR d w.heap.size) _ _ h rfl Rl
theorem Inv.ng(I:Inv w0 Mf g st a w){b:Nat}(cH:bz st b){w':World}(hs:bw (fun k=>k=g.bx b) w w')(hk:Kept w0 w' Mf){t:Ty}{cs:List Sc}{us:Array Value}{el:Nat}
    (hb:w'.heap[g.bx b]? =some (.cells us el (0,0))) (fc:cG w g st cs us):Inv w0 Mf g { st with boxes:=bc st.boxes b ⟨t,cs⟩ } a w':=by
 have dh:∀k,g.ro k→ ¬k=g.bx b:=fun k h1 h2=>I.apart.fI b cH (h2▸h1)
 have hm:∀c u,bf w g st c u→bf w' g { st with boxes:=bc st.boxes b ⟨t,cs⟩ } c u:=fun c u hc=>
  ⟨hc.1,jZ.roots (st:=st) (fun b' fl=>by
    simp only[aJ];split
    ·rfl
    ·exact fl) (fun _ _ _ h=>h) (fun _ _ _ _ _ _ h=>h) (hc.2.world hs dh)⟩
 have nh:∀b',bz { st with boxes:=bc st.boxes b ⟨t,cs⟩ } b'→bz st b':=fun b' h=>by
  by_cases e:b'=b
  ·subst e;exact cH
  ·simpa [bz,aJ,e] using h
 exact {
  az:=fun s sv h=>let ⟨u,hu,hr⟩:=I.az s sv h;⟨u,hu,hr.map hm⟩
  boxes:=fun b' x h=>by
   simp only[aJ] at h
   by_cases e:b'=b
   ·subst e
    simp only[if_true,Option.some.injEq] at h;subst h
    exact⟨us,el,hb,fc.map hm⟩
   ·simp only[e,if_false] at h
    obtain⟨us',mc,h1,h2⟩:=I.boxes b' x h
    refine⟨us',mc,hs.get h1 (fun e'=>e (I.apart.bb b' b (by simp[bz,h]) cH e')),h2.map hm⟩
  roots:=fun id r h=>by
   have hr:=I.roots id r h
   have hx:r.md.cq=false→∀k,g.rf id k→ ¬k=g.bx b:=fun hm k h1 h2=>I.apart.rb id b ⟨r,h,hm⟩ cH (h2▸h1)
   unfold aX at hr ⊢
   split at hr
   ·rename_i cI;exact hr.same hs (hx (by rw[cI];rfl))
   ·rename_i cI;exact hr.same hs (hx (by rw[cI];rfl)) dh
   ·exact hr.same hs dh
   ·rename_i cI;exact hr.same hs (hx (by rw[cI];rfl))
  apart:={
   rr:=I.apart.rr
   rb:=fun id b' h1 h2=>I.apart.rb id b' h1 (nh _ h2)
   bb:=fun b1 b2 h1 h2=>I.apart.bb b1 b2 (nh _ h1) (nh _ h2)
   ew:=I.apart.ew
   fI:=fun b' h=>I.apart.fI b' (nh _ h)
   cj:=I.apart.cj
   dN:=fun b' h=>I.apart.dN b' (nh _ h)
   er:=fun id k h1 h2=>Nat.lt_of_lt_of_le (I.apart.er id k h1 h2) hs.1
   da:=fun k h=>Nat.lt_of_lt_of_le (I.apart.da k h) hs.1
   bM:=I.apart.bM }
  kept:=hk
  defers:=I.defers
  size:=I.size
  base:=⟨I.base.wl,I.base.ap,I.base.ro⟩ }
theorem dZ(w:World)(b:Nat)(us:Array Value):bw (fun k=>k=b) w (w.setRow b us):=
 ⟨by simp,fun k _ h=>setRow_other w b k us h⟩
theorem cG.set{cs ys:List Sc}{us vs:Array Value}(h:cG w g st cs us)(hy:cG w g st ys vs)(off:Nat)(hl:off+ys.length≤cs.length):
    cG w g st (eu cs off ys) (us.toList.take off++vs.toList++us.toList.drop (off+vs.toList.length)).toArray:=by
 have h1:=h.l
 have h2:=hy.l
 have hlen:=h.1
 have UU:=hy.1
 refine ka.arr ?_
 refine ka.of (by simp[eu];omega) fun j c hj=> ?_
 simp only[eu] at hj
 by_cases X8:j<off
 ·rw[List.append_assoc,List.getElem?_append_left (by simp;omega),List.getElem?_take,if_pos X8] at hj
  obtain⟨z,hz,hr⟩:=h1.get j c hj
  exact⟨z,by simp only;rw[List.append_assoc,List.getElem?_append_left (by simp;omega),List.getElem?_take,if_pos X8];exact hz,hr⟩
 ·by_cases YK:j<off+ys.length
  ·rw[List.getElem?_append_left (by simp;omega),List.getElem?_append_right (by simp;omega)] at hj
   have e:min off cs.length=off:=by omega
   simp only[List.length_take,e] at hj
   obtain⟨z,hz,hr⟩:=h2.get _ c hj
   refine⟨z,?_,hr⟩
   simp only
   rw[List.getElem?_append_left (by simp;omega),List.getElem?_append_right (by simp;omega)]
   have e':min off us.size=off:=by omega
   simpa [e'] using hz
  ·rw[List.getElem?_append_right (by simp;omega)] at hj
   have e:min off cs.length=off:=by omega
   simp only[List.length_append,List.length_take,e,List.getElem?_drop] at hj
   obtain⟨z,hz,hr⟩:=h1.get _ c hj
   refine⟨z,?_,hr⟩
   simp only
   rw[List.getElem?_append_right (by simp;omega)]
   have e':min off us.size=off:=by omega
   simp only[List.length_append,List.length_take,Array.length_toList,e',List.getElem?_drop,UU]
   exact hz
theorem lp{v:Value}(h:cO v=true):v.oneCell'=true:=by cases v<;>first | rfl | simp[cO] at h
theorem ni(hE:E.Ok P){T:Nat}{t:Ty}(hT:E.code T=some t){b off:Nat}{us:Array Value}{el:Nat}(hb:w.heap[b]? =some (.cells us el (0,0))){v:Value}{vs:Array Value}(hf:Form t v vs)
 (hs:vs.size=ao t) (hl:off+ao t≤us.size) (j3:∀(j:Nat) z,vs[j]? =some z→cO z=true):
 (storeVar T ⟨b,off,none⟩ v).run P w = .ok () (w.setRow b (us.toList.take off++vs.toList++us.toList.drop (off+vs.toList.length)).toArray):=by
 have:=run_storeCells_at (P:=P) b off el vs.toList 0 us w hb (by simp;omega) (fun z hz=>by
  obtain⟨j,hj⟩:=List.getElem?_of_mem hz
  exact lp (j3 j z (by simpa using hj)))
 simp only[Nat.add_zero] at this
 simp[storeVar,hf.cells,hE.size hT,hs,this]
end Go.Gm
namespace Go.Gm
open Go
variable {w : World}
structure dS (w:World) (ro:Nat→Prop) (deep:Bool) (t:Ty) (xs:List (El t)) (cs:Array Value) (o:Nat) (G:Nat→Nat→Nat→Prop):Prop where
 rows:∀i x j c,xs[i]? =some x→(enc t x)[j]? =some c→∃u,cs[o+i*ao t+j]? =some u∧lQ w (fun k=>G i j k∨ro k) c u∧(deep=true→fP w (G i j) c u)
 PH:∀i j i' j' k,G i j k→G i' j' k→i=i'∧j=j'
theorem bp.k8{F:Nat→Prop}{t:Ty}{ys:List (El t)}{v:Value}{kid:Nat→Nat→Value}(h:bp w F t ys v kid){k:Nat}(hk:j8 v=some k):F k:=by
 rcases h with ⟨_,rfl⟩ | ⟨b,o,cap,cs,el,rfl,hF,_⟩
 ·simp[j8] at hk
 ·simp only[j8,Option.some.injEq] at hk;subst hk;exact hF
theorem bp.Un{F G:Nat→Prop}{t:Ty}{ys:List (El t)}{v:Value}{kid:Nat→Nat→Value}(h:bp w F t ys v kid)(hG:∀k,j8 v=some k→G k):bp w G t ys v kid:=by
 rcases h with h | ⟨b,o,cap,cs,el,rfl,hF,h⟩
 ·exact .inl h
 ·exact .inr ⟨b,o,cap,cs,el,rfl,hG b rfl,h⟩
theorem bp.kid{F:Nat→Prop}{t:Ty}{ys:List (El t)}{v:Value}{kid zF:Nat→Nat→Value}(h:bp w F t ys v kid)(hk:∀i y (j:Nat) t' zs,ys[i]? =some y→(enc t y)[j]? =some (.l t' zs)→zF i j=kid i j):
    bp w F t ys v zF:=by
 rcases h with h | ⟨b,o,cap,cs,el,h1,h2,h3,h4,h5,h6⟩
 ·exact .inl h
 ·refine .inr ⟨b,o,cap,cs,el,h1,h2,h3,h4,h5,fun i y j c hy hc=> ?_⟩
  obtain⟨u,hu,gu⟩:=h6 i y j c hy hc
  refine⟨u,hu,?_⟩
  cases c with
  |v x=>exact gu
  |l t' zs=>simp only[dH] at gu ⊢;rw[hk i y j t' zs hy hc];exact gu
theorem eH.kid{F:Nat→Prop}{t:Ty}{ys:List (El t)}{v:Value}{kid zF:Nat→Nat→Value}(h:eH w F t ys v kid)(hk:∀i y (j:Nat) t' zs,ys[i]? =some y→(enc t y)[j]? =some (.l t' zs)→zF i j=kid i j):
    eH w F t ys v zF:=by
 obtain⟨a,cap,h1,h2,h3⟩:=h
 refine⟨a,cap,h1,h2,fun hn=> ?_⟩
 obtain⟨b,o,cs,el,fz,h4,h5,h6,h7⟩:=h3 hn
 refine⟨b,o,cs,el,fz,h4,h5,h6,fun i y j c hy hc=> ?_⟩
 obtain⟨u,hu,gu⟩:=h7 i y j c hy hc
 refine⟨u,hu,?_⟩
 cases c with
 |v x=>exact gu
 |l t' zs=>simp only[dH] at gu ⊢;rw[hk i y j t' zs hy hc];exact gu
theorem bp.here{w':World}{F:Nat→Prop}{X:Nat→Prop}(hs:bw X w w'){t:Ty}{ys:List (El t)}{v:Value}{kid:Nat→Nat→Value}(h:bp w F t ys v kid)
 (hx:∀k,j8 v=some k→ ¬X k):bp w' F t ys v kid:=by
 rcases h with h | ⟨b,o,cap,cs,el,rfl,h2,h3,h4⟩
 ·exact .inl h
 ·exact .inr ⟨b,o,cap,cs,el,rfl,h2,hs.get h3 (hx b rfl),h4⟩
def eb(t:Ty)(xs:List (El t))(av:Path→Value)(p:Path)(k:Nat):Prop:=∃q s,aQ t xs (p++q)=some s∧j8 (av (p++q))=some k
theorem aW.at{F:Nat→Prop}{t:Ty}{xs:List (El t)}{av:Path→Value}(h:aW w F t xs av){p:Path}{s:Sl}(hs:aQ t xs p=some s):
    aW w (eb t xs av p) s.t s.xs fun q=>av (p++q):=by
 refine⟨fun q s' eZ=> ?_,fun q q' s1 s2 b h1 h2 h3 h4=> ?_⟩
 ·have hp:aQ t xs (p++q)=some s':=by rw[cn q hs];exact eZ
  have:=(h.1 (p++q) s' hp).Un (G:=eb t xs av p) fun k hk=>⟨q,s',hp,hk⟩
  simpa [List.append_assoc] using this
 ·have e1:aQ t xs (p++q)=some s1:=by rw[cn q hs];exact h1
  have e2:aQ t xs (p++q')=some s2:=by rw[cn q' hs];exact h2
  exact List.append_cancel_left (h.2 _ _ _ _ b e1 e2 h3 h4)
theorem gb{t:Ty}{xs:List (El t)}{i j:Nat}{x:El t}{t':Ty}{ys:List (El t')}(hx:xs[i]? =some x)(hc:(enc t x)[j]? =some (.l t' ys)):aQ t xs [(i,j)]=some ⟨t',ys⟩:=by
 simp only[aQ,hx,hc]
theorem aW.pieces{F ro:Nat→Prop}{t:Ty}{xs:List (El t)}{av:Path→Value}(h:aW w F t xs av){cs:Array Value}{o:Nat}(hr:RowsIn t xs cs o fun i j=>av [(i,j)]):
    dS w ro true t xs cs o (fun i j=>eb t xs av [(i,j)]):=by
 refine⟨fun i x j c hx hc=> ?_,fun i j i' j' k ⟨q,s,h1,h2⟩ ⟨q',s',h3,h4⟩=> ?_⟩
 ·obtain⟨u,hu,gu⟩:=hr i x j c hx hc
  refine⟨u,hu,?_,fun _=> ?_⟩
  ·cases c with
   |v y=>exact gu
   |l t' ys=>
    have hs:=gb hx hc
    exact⟨fun q=>av ([(i,j)]++q),by simpa [dH] using gu.symm,(h.at hs).rd.mono fun k=> .inl⟩
  ·cases c with
   |v y=>exact gu
   |l t' ys=>exact⟨fun q=>av ([(i,j)]++q),by simpa [dH] using gu.symm,h.at (gb hx hc)⟩
 ·have:=h.2 _ _ _ _ k h1 h3 h2 h4
  simp only[List.singleton_append,List.cons.injEq,Prod.mk.injEq] at this
  exact this.1
theorem kD.pieces{F ro:Nat→Prop}{t:Ty}{xs:List (El t)}{av:Path→Value}(h:kD w F ro t xs av){cs:Array Value}{o:Nat}(hr:RowsIn t xs cs o fun i j=>av [(i,j)]):
    dS w ro false t xs cs o (fun _ _ _=>False):=by
 refine⟨fun i x j c hx hc=> ?_,fun i j i' j' k h=>h.elim⟩
 obtain⟨u,hu,gu⟩:=hr i x j c hx hc
 refine⟨u,hu,?_,fun h=>by cases h⟩
 cases c with
 |v y=>exact gu
 |l t' ys=>
  have hs:=gb hx hc
  refine⟨fun q=>av ([(i,j)]++q),by simpa [dH] using gu.symm,fun q s' eZ=> ?_⟩
  have hp:aQ t xs ([(i,j)]++q)=some s':=by rw[cn q hs];exact eZ
  have:=(h.2 ([(i,j)]++q) s' (by simp) hp).mono (Q:=fun k=>False∨ro k) fun k=> .inr
  simpa [List.append_assoc] using this
open Classical in
theorem dS.own{ro:Nat→Prop}{t:Ty}{xs:List (El t)}{cs:Array Value}{o b cap el:Nat}{G:Nat→Nat→Nat→Prop}(h:dS w ro true t xs cs o G)
 (hb:w.heap[b]? =some (.cells cs el (0,0))) (dJ:xs.length≤cap) (dQ:o+cap*ao t≤cs.size) (hG:∀i j,¬G i j b):
    ∃av,av [] = .slice (some ⟨b,o,none⟩) xs.length cap∧aW w (fun k=>k=b∨∃i j,G i j k) t xs av:=by
 have hw:∀ij:Nat×Nat,∃f:Path→Value,∀x t' ys,xs[ij.1]? =some x→(enc t x)[ij.2]? =some (.l t' ys)→cs[o+ij.1*ao t+ij.2]? =some (f [])∧aW w (G ij.1 ij.2) t' ys f:=by
  intro ⟨i,j⟩
  by_cases hex:∃x t' ys,xs[i]? =some x∧(enc t x)[j]? =some (.l t' ys)
  ·obtain⟨x,t',ys,hx,hc⟩:=hex
   obtain⟨u,hu,_,ho⟩:=h.rows i x j _ hx hc
   obtain⟨f,h0,h1⟩:=ho rfl
   refine⟨f,fun x2 t2 YL pD xG=> ?_⟩
   simp only at pD xG
   rw[hx] at pD;cases pD
   rw[hc] at xG;cases xG
   exact⟨by rw[h0];exact hu,h1⟩
  ·exact⟨fun _=>undef,fun x t' ys hx hc=>(hex ⟨x,t',ys,hx,hc⟩).elim⟩
 obtain⟨f,hf⟩:=Classical.axiomOfChoice hw
 refine⟨fun q=>match q with | []=> .slice (some ⟨b,o,none⟩) xs.length cap | ij::q=>f ij q,rfl,?_,?_⟩
 ·intro p s hs
  cases p with
  |nil=>
   simp only[aQ,Option.some.injEq] at hs;subst hs
   refine .inr ⟨b,o,cap,cs,el,rfl,.inl rfl,hb,dJ,dQ,fun i y j c hy hc=> ?_⟩
   obtain⟨u,hu,hr,_⟩:=h.rows i y j c hy hc
   refine⟨u,hu,?_⟩
   cases c with
   |v x=>exact hr
   |l t' ys=>
    obtain⟨h1,_⟩:=hf (i,j) y t' ys hy hc
    simp only at h1
    rw[hu] at h1
    simpa [dH] using h1
  |cons ij p=>
   obtain⟨i,j⟩:=ij
   simp only[aQ] at hs
   split at hs
   case h_2=>cases hs
   rename_i x hx
   split at hs
   case h_2=>cases hs
   rename_i t' ys hc
   obtain⟨_,h2⟩:=hf (i,j) x t' ys hx hc
   have:=(h2.1 p s hs).mono (Q:=fun k=>k=b∨∃i j,G i j k) fun k hk=> .inr ⟨i,j,hk⟩
   exact this
 ·intro p q s s' k h1 h2 h3 h4
  have kZ:∀i j p s,aQ t xs ((i,j)::p)=some s→∃x t' ys,xs[i]? =some x∧(enc t x)[j]? =some (.l t' ys)∧aQ t' ys p=some s:=by
   intro i j p s hs
   simp only[aQ] at hs
   split at hs
   case h_2=>cases hs
   rename_i x hx
   split at hs
   case h_2=>cases hs
   rename_i t' ys hc
   exact⟨x,t',ys,hx,hc,hs⟩
  have lq:∀i j p s,aQ t xs ((i,j)::p)=some s→j8 (f (i,j) p)=some k→G i j k:=by
   intro i j p s hs hk
   obtain⟨x,t',ys,hx,hc,hs⟩:=kZ i j p s hs
   exact ((hf (i,j) x t' ys hx hc).2.1 p s hs).k8 hk
  cases p with
  |nil=>
   cases q with
   |nil=>rfl
   |cons ij q=>
    simp only[j8,Option.some.injEq] at h3;subst h3
    exact (hG _ _ (lq ij.1 ij.2 q s' h2 h4)).elim
  |cons ij p=>
   cases q with
   |nil=>
    simp only[j8,Option.some.injEq] at h4;subst h4
    exact (hG _ _ (lq ij.1 ij.2 p s h1 h3)).elim
   |cons ij' q=>
    obtain⟨i,j⟩:=ij
    obtain⟨i',j'⟩:=ij'
    obtain⟨rfl,rfl⟩:=h.PH _ _ _ _ k (lq i j p s h1 h3) (lq i' j' q s' h2 h4)
    obtain⟨x,t',ys,hx,hc,hs⟩:=kZ i j p s h1
    obtain⟨x2,t2,YL,pD,xG,qt⟩:=kZ i j q s' h2
    rw[hx] at pD;cases pD
    rw[hc] at xG;cases xG
    rw[(hf (i,j) x t' ys hx hc).2.2 p q s s' k hs qt h3 h4]
open Classical in
theorem dS.iZ{ro:Nat→Prop}{d:Bool}{t:Ty}{xs:List (El t)}{cs:Array Value}{o b cap el:Nat}{G:Nat→Nat→Nat→Prop}(h:dS w ro d t xs cs o G)
 (hb:w.heap[b]? =some (.cells cs el (0,0))) (dJ:xs.length≤cap) (dQ:o+cap*ao t≤cs.size) {ro':Nat→Prop} (dh:∀k,ro k→ro' k) (hG:∀i j k,G i j k→ro' k):
    ∃av,av [] = .slice (some ⟨b,o,none⟩) xs.length cap∧kD w (fun k=>k=b) ro' t xs av:=by
 have hw:∀ij:Nat×Nat,∃f:Path→Value,∀x t' ys,xs[ij.1]? =some x→(enc t x)[ij.2]? =some (.l t' ys)→cs[o+ij.1*ao t+ij.2]? =some (f [])∧ep w ro' t' ys f:=by
  intro ⟨i,j⟩
  by_cases hex:∃x t' ys,xs[i]? =some x∧(enc t x)[j]? =some (.l t' ys)
  ·obtain⟨x,t',ys,hx,hc⟩:=hex
   obtain⟨u,hu,hr,_⟩:=h.rows i x j _ hx hc
   obtain⟨f,h0,h1⟩:=hr
   refine⟨f,fun x2 t2 YL pD xG=> ?_⟩
   simp only at pD xG
   rw[hx] at pD;cases pD
   rw[hc] at xG;cases xG
   exact⟨by rw[h0];exact hu,h1.mono fun k hk=>hk.elim (hG i j k) (dh k)⟩
  ·exact⟨fun _=>undef,fun x t' ys hx hc=>(hex ⟨x,t',ys,hx,hc⟩).elim⟩
 obtain⟨f,hf⟩:=Classical.axiomOfChoice hw
 refine⟨fun q=>match q with | []=> .slice (some ⟨b,o,none⟩) xs.length cap | ij::q=>f ij q,rfl,?_,?_⟩
 ·refine .inr ⟨b,o,cap,cs,el,rfl,rfl,hb,dJ,dQ,fun i y j c hy hc=> ?_⟩
  obtain⟨u,hu,hr,_⟩:=h.rows i y j c hy hc
  refine⟨u,hu,?_⟩
  cases c with
  |v x=>exact hr
  |l t' ys=>
   obtain⟨h1,_⟩:=hf (i,j) y t' ys hy hc
   simp only at h1
   rw[hu] at h1
   simpa [dH] using h1
 ·intro p s hp hs
  cases p with
  |nil=>exact (hp rfl).elim
  |cons ij p=>
   obtain⟨i,j⟩:=ij
   simp only[aQ] at hs
   split at hs
   case h_2=>cases hs
   rename_i x hx
   split at hs
   case h_2=>cases hs
   rename_i t' ys hc
   obtain⟨_,h2⟩:=hf (i,j) x t' ys hx hc
   exact h2 p s hs
end Go.Gm
namespace Go.Gm
open Go
variable {P : Program} {E : Env} {w : World}
def sU(w:World)(ad:Option Addr)(vs:List Value):Prop:=vs=[]∨∃b o cs el fz,ad=some ⟨b,o,none⟩∧w.heap[b]? =some (.cells cs el fz)∧∀(j:Nat) v,vs[j]? =some v→cs[o+j]? =some v
theorem sU.cells{ad:Addr}{vs:List Value}(h:sU w (some ad) vs):∀(j:Nat) v,vs[j]? =some v→w.cell? (ad.add j)=some v:=by
 intro j v hj
 rcases h with rfl | ⟨b,o,cs,el,fz,e,hb,hc⟩
 ·simp at hj
 ·cases e
  rw[ez,jO hb];exact hc j v hj
theorem lU{sz n:Nat}{ad:Option Addr}{cap:Nat}{vs:List Value}(hl:vs.length=n*sz)(h:sU w ad vs):(Builtin.firstCells sz n (.slice ad n cap)).run P w = .ok vs.toArray w:=by
 cases ad with
 |none=>
  rcases h with rfl | ⟨b,o,cs,el,fz,e,_⟩
  ·exact run_firstCells_none w sz n n cap
  ·cases e
 |some a=>exact run_firstCells_some w sz n a n cap vs hl h.cells
theorem qH(hE:E.Ok P){T T' ty:Nat}{e e':Ty}(hT:E.code T=some (.sl e))(BY:E.code T'=some (.sl e')){sa:Option Addr}{n cap:Nat}{xa:Option Addr}{m c:Nat}{ca news:List Value}
 (ho:ca.length=n*ao e) (qB:sU w sa ca) (hn:news.length=m*ao e) (Mn:sU w xa news) (hf:∀v∈news,v.oneCell'=true)
 (dJ:n≤cap) (kZ:∀b o,sa=some ⟨b,o,none⟩→∃cs el,w.heap[b]? =some (.cells cs el (0,0))∧o+cap*ao e≤cs.size) (hsa:sa=none→cap=0)
 (FZ:∀a,sa=some a→a.spot=none) (iC:n+m≤fO):
    ∃v' w',(Builtin.append_ #[T,T'] ty #[.slice sa n cap,.slice xa m c]).run P w = .ok v' w'∧w'.os=w.os∧w'.tape=w.tape∧w'.output=w.output∧
 ((v' = .slice none 0 0∧sa=none∧n=0∧m=0∧w'=w)∨
       ∃b o gU cs el,v' = .slice (some ⟨b,o,none⟩) (n+m) gU∧w'.heap[b]? =some (.cells cs el (0,0))∧n+m≤gU∧o+gU*ao e≤cs.size∧
 (∀(j:Nat) v,(ca++news)[j]? =some v→cs[o+j]? =some v)∧bw (fun k=>k=b) w w'∧((∃ o',sa=some ⟨b,o',none⟩)∨b=w.heap.size)):=by
 obtain⟨el,hu,lR⟩:=hE.slice hT
 obtain⟨mc,lS,_⟩:=hE.slice BY
 obtain⟨i,zv,hi,dQ,Rm,hz,qG⟩:=hE.info el e lR
 have me:=eN e
 have UW:(dY e).length=ao e:=by simp[dY,aS]
 by_cases jz:n+m≤cap
 ·-- in place
  by_cases hm:m=0
  ·subst hm
   have mG:news=[]:=List.eq_nil_of_length_eq_zero (by simpa using hn)
   subst mG
   have Uo:=lU (P:=P) (sz:=ao e) (n:=0) (ad:=xa) (cap:=c) (vs:=[]) (w:=w) (by simp) (.inl rfl)
   cases sa with
   |none=>
    have PI:=hsa rfl
    have F4:n=0:=by omega
    subst PI;subst F4
    refine⟨.slice none 0 0,w,?_,rfl,rfl,rfl,.inl ⟨rfl,rfl,rfl,rfl,rfl⟩⟩
    simp[Builtin.append_,run_underlying hu,run_underlying lS,sizeOf,typeInfo,hi,dQ,Builtin.lenOf,Uo]
   |some a=>
    obtain⟨b,o,sp⟩:=a
    have:=FZ _ rfl
    simp only at this;subst this
    obtain⟨cs,MJ,hb,dy⟩:=kZ b o rfl
    refine⟨.slice (some ⟨b,o,none⟩) (n+0) cap,w,?_,rfl,rfl,rfl,.inr ⟨b,o,cap,cs,MJ,rfl,hb,by simpa using dJ,dy,?_,⟨Nat.le_refl _,fun _ _ _=>rfl⟩,.inl ⟨o,rfl⟩⟩⟩
    ·simp[Builtin.append_,run_underlying hu,run_underlying lS,sizeOf,typeInfo,hi,dQ,Builtin.lenOf,dJ,Uo,storeCells]
    ·intro j v hj
     rw[List.append_nil] at hj
     rcases qB with rfl | ⟨b',o',m0,mc,fz',e1,fl,mZ⟩
     ·simp at hj
     ·simp only[Option.some.injEq,Addr.mk.injEq,and_true] at e1
      obtain⟨rfl,rfl⟩:=e1
      rw[hb] at fl;cases fl
      exact mZ j v hj
  ·cases sa with
   |none=>have:=hsa rfl;omega
   |some a=>
    obtain⟨b,o,sp⟩:=a
    have:=FZ _ rfl
    simp only at this;subst this
    obtain⟨cs,MJ,hb,dy⟩:=kZ b o rfl
    have Uo:=lU (P:=P) (sz:=ao e) (n:=m) (ad:=xa) (cap:=c) (vs:=news) (w:=w) hn Mn
    have ek:o+n*ao e+news.length≤cs.size:=by
     rw[hn,Nat.add_assoc,←Nat.add_mul]
     exact Nat.le_trans (Nat.add_le_add_left (Nat.mul_le_mul_right _ jz) _) dy
    have ix:=run_storeCells_at P b (o+n*ao e) MJ news 0 cs w hb (by simpa using ek) hf
    simp only[Nat.add_zero] at ix
    refine⟨.slice (some ⟨b,o,none⟩) (n+m) cap,w.setRow b (cs.toList.take (o+n*ao e)++news++cs.toList.drop (o+n*ao e+news.length)).toArray,?_,rfl,rfl,rfl,.inr ⟨b,o,cap,_,MJ,rfl,setRow_heap w b cs _ MJ _ hb,jz,?_,?_,dZ w b _,.inl ⟨o,rfl⟩⟩⟩
    ·simp[Builtin.append_,run_underlying hu,run_underlying lS,sizeOf,typeInfo,hi,dQ,Builtin.lenOf,jz,Uo,ez,ix]
    ·simp only[List.size_toArray,List.length_append,List.length_take,List.length_drop,Array.length_toList];omega
    ·intro j v hj
     have hlen:o+n*ao e≤cs.size:=by omega
     simp only[List.getElem?_toArray]
     by_cases hjn:j<n*ao e
     ·rw[List.getElem?_append_left (by omega)] at hj
      rw[List.append_assoc,List.getElem?_append_left (by simp;omega),List.getElem?_take,if_pos (by omega)]
      rcases qB with rfl | ⟨b',o',m0,mc,fz',e1,fl,mZ⟩
      ·simp at hj
      ·simp only[Option.some.injEq,Addr.mk.injEq,and_true] at e1
       obtain⟨rfl,rfl⟩:=e1
       rw[hb] at fl;cases fl
       simpa using mZ j v hj
     ·rw[List.getElem?_append_right (by omega)] at hj
      have DF:j-ca.length<news.length:=by
       rcases Nat.lt_or_ge (j-ca.length) news.length with h' | h'
       ·exact h'
       ·simp[List.getElem?_eq_none h'] at hj
      rw[List.getElem?_append_left (by simp;omega),List.getElem?_append_right (by simp;omega)]
      have:o+j-min (o+n*ao e) cs.size=j-ca.length:=by omega
      simpa [this] using hj
 ·-- elsewhere
  have cc:n+m>cap:=by omega
  have om:(n+m)*i.bytes≤140737488355328:=by
   have:(n+m)*i.bytes≤fO*1024:=Nat.mul_le_mul iC Rm
   unfold fO at this;omega
  have aa0:=growslice_fits (need:=n+m) (old:=cap) (by omega) om
  have YM : ¬(9223372036854775807<((n:Int)+(m:Int))):=by unfold fO at iC;omega
  have YN : ¬(281474976710656<Builtin.nextslicecap (n+m) cap*i.bytes):=by omega
  have F5 : ¬(n+m≤cap):=jz
  have X9:sU w.drew sa ca:=by rcases qB with h | ⟨b,o,cs,el,fz,h1,h2,h3⟩;exact .inl h;exact .inr ⟨b,o,cs,el,fz,h1,h2,h3⟩
  have YO:sU w.drew xa news:=by rcases Mn with h | ⟨b,o,cs,el,fz,h1,h2,h3⟩;exact .inl h;exact .inr ⟨b,o,cs,el,fz,h1,h2,h3⟩
  have YP:=lU (P:=P) (sz:=ao e) (n:=n) (ad:=sa) (cap:=cap) (vs:=ca) (w:=w.drew) ho X9
  have Uo:=lU (P:=P) (sz:=ao e) (n:=m) (ad:=xa) (cap:=c) (vs:=news) (w:=w.drew) hn YO
  have PJ:=grownCap_ge w (n+m) cap el
  have DG:zv.cells.size=ao e:=by rw[qG];simp[UW]
  refine⟨.slice (some ⟨w.heap.size,0,none⟩) (n+m) (grownCap w (n+m) cap el),w.drew.alloc (.cells (ca.toArray++news.toArray++Builtin.zeroCells zv.cells (grownCap w (n+m) cap el-(n+m))) el),?_,rfl,rfl,rfl,
   .inr ⟨w.heap.size,0,_,_,el,rfl,heap_alloc_new w.drew _,PJ,?_,?_,?_,.inr rfl⟩⟩
  ·simp[Builtin.append_,run_underlying hu,run_underlying lS,sizeOf,typeInfo,zeroValue,hi,hz,dQ,Builtin.lenOf,F5,YM,YN,Question.forced,newRow,grownCap,Uo,YP]
   congr 2
   apply Array.ext'
   simp[List.append_assoc]
  ·simp only[Array.size_append,List.size_toArray,size_zeroCells,DG,ho,hn,Nat.zero_add,←Nat.add_mul]
   refine Nat.le_of_eq ?_
   congr 1;omega
  ·intro j v hj
   have DF:j<(ca++news).length:=by
    rcases Nat.lt_or_ge j (ca++news).length with h' | h'
    ·exact h'
    ·simp[List.getElem?_eq_none h'] at hj
   rw[Nat.zero_add,Array.getElem?_append_left (by simpa using DF)]
   simpa using hj
  ·refine⟨by simp,fun k hk _=>heap_alloc_old w.drew _ k hk⟩
end Go.Gm
namespace Go.Gm
open Go
variable {R : Type} {w0 w : World} {Mf : Nat → Prop} {g : Gh} {st : St} {a : Act}
abbrev Gh.pE(g:Gh)(rf:Nat→Nat→Prop):Gh:={ g with rf:=rf }
structure fm (w:World) (g:Gh) (rf:Nat→Nat→Prop) (st aI:St) (fe:List (Nat×Rt)) (Fs:List (Nat→Prop)):Prop where
 eq:aI={ st with roots:=ck st.roots fe }
 own:∀id,aT aI id→aT st id
 less:∀id k,rf id k→g.rf id k
 map:∀c u,bf w g st c u→bf w g aI c u
 apart:bH Fs
 src:∀F∈Fs,∀k,F k→∃id,aT st id∧g.rf id k
 off:∀F∈Fs,∀k,F k→∀id,aT aI id→ ¬rf id k
 live:∀id r,ak aI.roots id=some (.live r)→∃r0,ak st.roots id=some (.live r0)∧r0.ver=r.ver
theorem bf.rf(rf:Nat→Nat→Prop){c:Sc}{u:Value}(h:bf w g st c u):bf w (g.pE rf) st c u:=by
 cases c<;>exact h
theorem bf.Up{rf:Nat→Nat→Prop}{c:Sc}{u:Value}(h:bf w (g.pE rf) st c u):bf w g st c u:=by
 cases c<;>exact h
theorem ka.rf(rf:Nat→Nat→Prop):∀{cs:List Sc}{us:List Value},ka w g st cs us→ka w (g.pE rf) st cs us
 | [],[],_=>trivial
 | [],_::_,h=>h.elim
 |_::_,[],h=>h.elim
 |_::_,_::_,h=>⟨h.1.rf rf,ka.rf rf h.2⟩
theorem fm.refl(w:World)(g:Gh)(st:St):fm w g g.rf st st [] []:=
 ⟨rfl,fun _ h=>h,fun _ _ h=>h,fun _ _ h=>h,List.Pairwise.nil,by simp,by simp,fun _ r h=>⟨r,h,rfl⟩⟩
theorem fm.trans{rf X':Nat→Nat→Prop}{s1 s2 s3:St}{u v:List (Nat×Rt)}{Fs Gs:List (Nat→Prop)}(h:fm w g rf s1 s2 u Fs)(k:fm w (g.pE rf) X' s2 s3 v Gs):fm w g X' s1 s3 (u++v) (Fs++Gs):=by
 refine⟨?_,fun id hi=>h.own id (k.own id hi),fun id n hn=>h.less id n (k.less id n hn),fun c u hc=>(k.map c u ((h.map c u hc).rf rf)).Up,?_,?_,?_,fun id r hr=> ?_⟩
 ·rw[k.eq,h.eq,bh]
 ·refine List.pairwise_append.2 ⟨h.apart,k.apart,fun F hF G hG n hn Mj=> ?_⟩
  obtain⟨id,cQ,k7⟩:=k.src G hG n Mj
  exact h.off F hF n hn id cQ k7
 ·intro F hF n hn
  rcases List.mem_append.1 hF with hF | hF
  ·exact h.src F hF n hn
  ·obtain⟨id,cQ,k7⟩:=k.src F hF n hn
   exact⟨id,h.own id cQ,h.less id n k7⟩
 ·intro F hF n hn id cQ hr
  rcases List.mem_append.1 hF with hF | hF
  ·exact h.off F hF n hn id (k.own id cQ) (k.less id n hr)
  ·exact k.off F hF n hn id cQ hr
 ·obtain⟨r1,h1,e1⟩:=k.live id r hr
  obtain⟨r0,h0,e0⟩:=h.live id r1 h1
  exact⟨r0,h0,e0.trans e1⟩
theorem iS.P{aI:St}{fe:List (Nat×Rt)}{Fs:List (Nat→Prop)}(T:iS w g st aI fe Fs):fm w g g.rf st aI fe Fs:=
 ⟨T.eq,T.own,fun _ _ h=>h,T.map,T.apart,T.src,T.off,fun id r h=>⟨r,T.live id r h,rfl⟩⟩
theorem Inv.va(I:Inv w0 Mf g st a w){id:Nat}{r:cy}(h:ak st.roots id=some (.live r))(hm:r.md.cq=false){md:Md}(cI:md.cq=false){F:Nat→Prop}(hF:∀k,F k→g.rf id k)
 (hr:aX w (g.pE fun i k=>if i=id then F k else g.rf i k) id ⟨r.t,md,r.ver,r.log,r.xs⟩):
    Inv w0 Mf (g.pE fun i k=>if i=id then F k else g.rf i k) { st with roots:=bc st.roots id (.live ⟨r.t,md,r.ver,r.log,r.xs⟩) } a w∧
    ∀c u,bf w g st c u→bf w g { st with roots:=bc st.roots id (.live ⟨r.t,md,r.ver,r.log,r.xs⟩) } c u:=by
 have cH:aT st id:=⟨r,h,hm⟩
 have ho:∀aK,aT { st with roots:=bc st.roots id (.live ⟨r.t,md,r.ver,r.log,r.xs⟩) } aK→aT st aK:=fun aK ⟨r',h1,h2⟩=>by
  simp only[aJ] at h1
  by_cases e:aK=id
  ·rw[e];exact cH
  ·exact⟨r',by simpa [e] using h1,h2⟩
 have hl:∀aK k,(if aK=id then F k else g.rf aK k)→g.rf aK k:=by
  intro aK k hk
  by_cases e:aK=id
  ·rw[if_pos e] at hk;rw[e];exact hF k hk
  ·rw[if_neg e] at hk;exact hk
 have qI:∀c u,bf w g st c u→bf w g { st with roots:=bc st.roots id (.live ⟨r.t,md,r.ver,r.log,r.xs⟩) } c u:=by
  intro c u hc
  have hv:∀aK ver iv,cJ st aK ver iv→cJ { st with roots:=bc st.roots id (.live ⟨r.t,md,r.ver,r.log,r.xs⟩) } aK ver iv:=by
   intro aK ver iv hv
   unfold cJ at hv ⊢
   simp only[aJ]
   by_cases e:aK=id
   ·subst e;simp only[h] at hv;simp only[if_true];exact hv
   ·simpa [e] using hv
  have hx:∀aK ver iv p r',Vx { st with roots:=bc st.roots id (.live ⟨r.t,md,r.ver,r.log,r.xs⟩) } aK ver iv p r'→∃r0,Vx st aK ver iv p r0∧r0.t=r'.t∧HEq r0.xs r'.xs:=by
   intro aK ver iv p r' ⟨h1,h2,h3⟩
   simp only[aJ] at h1
   by_cases e:aK=id
   ·subst e
    simp only[if_true,Option.some.injEq,Rt.live.injEq,reduceCtorEq,or_false] at h1
    subst h1
    exact⟨r,⟨.inl h,h2,h3⟩,rfl,.rfl⟩
   ·exact⟨r',⟨by simpa [e] using h1,h2,h3⟩,rfl,.rfl⟩
  refine⟨hc.1,?_⟩
  have h2:=hc.2
  cases c with
  |h aK ver iv p=>
   refine⟨hv _ _ _ h2.1,fun r' jf=> ?_⟩
   obtain⟨⟨t0,Uq,v0,l0,x0⟩,h3,e1,e2⟩:=hx _ _ _ _ _ jf
   obtain⟨t1,md1,v1,l1,x1⟩:=r'
   simp only at e1;subst e1
   have e2:=eq_of_heq e2
   simp only at e2;subst e2
   have h4:=h2.2 ⟨t0,Uq,v0,l0,x0⟩ h3
   exact h4
  |vw aK ver lo hi=>
   refine⟨hv _ _ _ h2.1,fun r' jf=> ?_⟩
   obtain⟨⟨t0,Uq,v0,l0,x0⟩,h3,e1,e2⟩:=hx _ _ _ _ _ jf
   obtain⟨t1,md1,v1,l1,x1⟩:=r'
   simp only at e1;subst e1
   have e2:=eq_of_heq e2
   simp only at e2;subst e2
   have h4:=h2.2 ⟨t0,Uq,v0,l0,x0⟩ h3
   exact h4
  |pe aK ver iv p i off=>
   refine⟨hv _ _ _ h2.1,fun r' jf=> ?_⟩
   obtain⟨⟨t0,Uq,v0,l0,x0⟩,h3,e1,e2⟩:=hx _ _ _ _ _ jf
   obtain⟨t1,md1,v1,l1,x1⟩:=r'
   simp only at e1;subst e1
   have e2:=eq_of_heq e2
   simp only at e2;subst e2
   have h4:=h2.2 ⟨t0,Uq,v0,l0,x0⟩ h3
   exact h4
  |_=>exact h2
 refine⟨?_,qI⟩
 exact {
  az:=fun s sv h'=>let ⟨u,hu,hr⟩:=I.az s sv h';⟨u,hu,hr.map fun c u hc=>(qI c u hc).rf _⟩
  boxes:=fun b x h'=>let ⟨us,el,h1,h2⟩:=I.boxes b x h';⟨us,el,h1,h2.map fun c u hc=>(qI c u hc).rf _⟩
  roots:=fun aK r' h'=>by
   simp only[aJ] at h'
   by_cases e:aK=id
   ·subst e;simp only[if_true,Option.some.injEq,Rt.live.injEq] at h';subst h';exact hr
   ·have:=I.roots aK r' (by simpa [e] using h')
    unfold aX at this ⊢
    simpa [e] using this
  apart:={
   rr:=fun i i' k h1 h2 h3 h4=>I.apart.rr i i' k (ho _ h1) (ho _ h2) (hl _ _ h3) (hl _ _ h4)
   rb:=fun i b h1 h2 h3=>I.apart.rb i b (ho _ h1) h2 (hl _ _ h3)
   bb:=I.apart.bb
   ew:=fun i k h1 h3=>I.apart.ew i k (ho _ h1) (hl _ _ h3)
   fI:=I.apart.fI
   cj:=fun i k h1 h3=>I.apart.cj i k (ho _ h1) (hl _ _ h3)
   dN:=I.apart.dN
   er:=fun i k h1 h3=>I.apart.er i k (ho _ h1) (hl _ _ h3)
   da:=I.apart.da
   bM:=I.apart.bM }
  kept:=I.kept
  defers:=I.defers
  size:=I.size
  base:=⟨I.base.wl,I.base.ap,I.base.ro⟩ }
theorem qJ{m:Md}{i j:Nat}(h:m.oW i j=true):m.cq=false∧(m = .deep∨∃a b,m = .part (.cur a b)∧ld a b i j=true):=by
 cases m with
 |deep=>exact⟨rfl,.inl rfl⟩
 |part k=>
  cases k with
  |cur a b=>exact⟨rfl,.inr ⟨a,b,rfl,h⟩⟩
  |hole p=>cases h
 |iZ=>cases h
 |BQ=>cases h
theorem Inv.zG(I:Inv w0 Mf g st a w){id:Nat}{r:cy}(h:ak st.roots id=some (.live r)){i j:Nat}(ht:r.md.oW i j=true):cW w (g.rf id) (.cur i j) r.t r.xs (g.rv id):=by
 have hr:=I.roots id r h
 unfold aX at hr
 obtain⟨_,hm | ⟨a',b',hm,hl⟩⟩:=qJ ht
 ·rw[hm] at hr;exact hr.part _
 ·rw[hm] at hr;exact hr.on hl
theorem Inv.take(I:Inv w0 Mf g st a w){id:Nat}{r:cy}(h:ak st.roots id=some (.live r)){i j i' j':Nat}(ht:r.md.oW i j=true)(hl:ld i j i' j'=true){Fs:Nat→Prop}
 (hF:∀k,Fs k↔∃p s,(Pt.cur i j).nodeAt p=true∧(Pt.cur i' j').nodeAt p=false∧aQ r.t r.xs p=some s∧j8 (g.rv id p)=some k):
    ∃rf,Inv w0 Mf (g.pE rf) (st.taken id r i' j') a w∧fm w g rf st (st.taken id r i' j') [(id,.live ⟨r.t,.part (.cur i' j'),r.ver,r.log,r.xs⟩)] [Fs]:=by
 have hp:=I.zG h ht
 have sJ:=(qJ ht).1
 have cH:aT st id:=⟨r,h,sJ⟩
 have MK:∀k,Fs k→g.rf id k:=fun k hk=>by
  obtain⟨p,s,h1,_,h3,h4⟩:=(hF k).1 hk
  exact bp.k8 (hp.1 p s h1 h3) h4
 have gV:cW w (fun k=>g.rf id k∧ ¬Fs k) (.cur i' j') r.t r.xs (g.rv id):=by
  have ho:=hp.on hl
  refine⟨fun p s h1 hs=>bp.Un (ho.1 p s h1 hs) fun k hk=>⟨bp.k8 (ho.1 p s h1 hs) hk,fun mb=> ?_⟩,ho.2⟩
  obtain⟨q,s',h2,h3,h4,h5⟩:=(hF k).1 mb
  have:=hp.2.1 p q s s' k (jx hl h1) h2 hs h4 hk h5
  subst this
  rw[h1] at h3;cases h3
 obtain⟨I1,qI⟩:=I.va h sJ (md:= .part (.cur i' j')) rfl (F:=fun k=>g.rf id k∧ ¬Fs k) (fun k hk=>hk.1) (by unfold aX;simpa using gV)
 refine⟨_,I1,rfl,fun aK ⟨r',h1,h2⟩=> ?_,fun aK k hk=> ?_,qI,List.pairwise_singleton _ _,fun F Rn k hk=> ?_,fun F Rn k hk aK cQ k7=> ?_,fun aK r' h'=> ?_⟩
 ·simp only[St.taken,aJ] at h1
  by_cases e:aK=id
  ·rw[e];exact cH
  ·exact⟨r',by simpa [e] using h1,h2⟩
 ·by_cases e:aK=id
  ·rw[if_pos e] at hk;rw[e];exact hk.1
  ·rw[if_neg e] at hk;exact hk
 ·simp only[List.mem_singleton] at Rn;subst Rn
  exact⟨id,cH,MK k hk⟩
 ·simp only[List.mem_singleton] at Rn;subst Rn
  by_cases e:aK=id
  ·rw[if_pos e] at k7;exact k7.2 hk
  ·rw[if_neg e] at k7
   obtain⟨r',h1,h2⟩:=cQ
   simp only[St.taken,aJ,e,if_false] at h1
   exact e (I.apart.rr aK id k ⟨r',h1,h2⟩ cH k7 (MK k hk))
 ·simp only[St.taken,aJ] at h'
  by_cases e:aK=id
  ·subst e
   simp only[if_true,Option.some.injEq,Rt.live.injEq] at h'
   subst h';exact⟨r,h,rfl⟩
  ·exact⟨r',by simpa [e] using h',rfl⟩
theorem cW.at{F:Nat→Prop}{a b:Nat}{t:Ty}{xs:List (El t)}{av:Path→Value}(hp:cW w F (.cur a b) t xs av){i j:Nat}(hl:ld a b i j=true){s:Sl}(eZ:aQ t xs [(i,j)]=some s):
    aW w (eb t xs av [(i,j)]) s.t s.xs fun q=>av ([(i,j)]++q):=by
 have xk:∀q,(Pt.cur a b).nodeAt ([(i,j)]++q)=true:=fun q=>hl
 refine⟨fun q s2 hq=> ?_,fun q q' s1 s2 b h1 h2 h3 h4=> ?_⟩
 ·have h1:aQ t xs ([(i,j)]++q)=some s2:=by rw[cn q eZ];exact hq
  have:=bp.Un (G:=eb t xs av [(i,j)]) (hp.1 _ s2 (xk q) h1) fun k hk=>⟨q,s2,h1,hk⟩
  simpa [List.append_assoc] using this
 ·have e1:aQ t xs ([(i,j)]++q)=some s1:=by rw[cn q eZ];exact h1
  have e2:aQ t xs ([(i,j)]++q')=some s2:=by rw[cn q' eZ];exact h2
  have:=hp.2.1 _ _ _ _ b (xk q) (xk q') e1 e2 h3 h4
  simpa using this
theorem Inv.jL(I:Inv w0 Mf g st a w){c:Sc}{q:Option Ty}{k:Cv→Bool→St→List (Nat×Rt)→Option R}{r:R}{u:Value}(h:jL st c q k=some r)(hc:bf w g st c u):
    ∃cv d aI fe F rf,k cv d aI fe=some r∧Inv w0 Mf (g.pE rf) aI a w∧fm w g rf st aI fe [F]∧lQ w (fun k=>F k∨g.ro k) cv u∧(d=true→fP w F cv u):=by
 unfold Gm.jL at h
 split at h
 ·rename_i id ver iv i j t
  obtain⟨ro,dh,h⟩:=de h
  obtain⟨ht,h⟩:=bg h
  obtain⟨s,hs,h⟩:=aR h
  obtain⟨hu,je⟩:=hc.2.2 ro dh.x
  obtain⟨s',eZ⟩:=Option.isSome_iff_exists.1 je
  have:=cV eZ
  rw[hs] at this;cases this
  have hp:=I.zG dh.1 ht
  have hl:ld i j i (j+1)=true:=fD.2 (.inr ⟨rfl,Nat.le_succ _⟩)
  have xk:∀q,(Pt.cur i j).nodeAt ([(i,j)]++q)=true:=fun q=>fD.2 (.inr ⟨rfl,Nat.le_refl _⟩)
  let F:Nat→Prop:=eb ro.t ro.xs (g.rv id) [(i,j)]
  obtain⟨rf,I1,T1⟩:=I.take dh.1 ht hl (Fs:=F) (fun k=>by
   constructor
   ·rintro⟨q,s2,h1,h2⟩
    refine⟨[(i,j)]++q,s2,xk q,?_,h1,h2⟩
    show ld i (j+1) i j=false
    cases hh:ld i (j+1) i j with
    |false=>rfl
    |true=>rw[fD] at hh;omega
   ·rintro⟨p,s2,h1,h2,h3,h4⟩
    cases p with
    |nil=>cases h2
    |cons ij p=>
     obtain⟨i2,j2⟩:=ij
     have h1:ld i j i2 j2=true:=h1
     have h2:ld i (j+1) i2 j2=false:=h2
     have:i2=i∧j2=j:=by
      rw[fD] at h1
      have BV : ¬(i<i2∨(i=i2∧j+1≤j2)):=fun hh=>by rw[fD.2 hh] at h2;cases h2
      omega
     obtain⟨rfl,rfl⟩:=this
     exact⟨p,s2,h3,h4⟩)
  have dO:aW w F s.t s.xs fun q=>g.rv id ([(i,j)]++q):=hp.at (fD.2 (.inr ⟨rfl,Nat.le_refl _⟩)) eZ
  exact⟨_,_,_,_,F,rf,h,I1,T1,⟨_,by simpa using hu.symm,dO.rd.mono fun k=> .inl⟩,fun _=>⟨_,by simpa using hu.symm,dO⟩⟩
 ·obtain⟨cv,d,aI,fe,F,h1,I1,T1,h2,h3⟩:=I.iM h hc
  exact⟨cv,d,aI,fe,F,g.rf,h1,I1,T1.P,h2,h3⟩
theorem Inv.oX:∀{cs:List Sc}{g:Gh}{st:St}{qs:List (Option Ty)}{k:List Cv→Bool→St→List (Nat×Rt)→Option R}{r:R}{us:List Value},Inv w0 Mf g st a w→
    oX st cs qs k=some r→ka w g st cs us→
    ∃cv d aI fe Fs rf,k cv d aI fe=some r∧Inv w0 Mf (g.pE rf) aI a w∧fm w g rf st aI fe Fs∧kE w g.ro cv us Fs d
 | [],g,st,[],k,r,us,I,h,hc=>by
  cases us with
  |nil=>exact⟨[],true,st,[],[],g.rf,h,I,fm.refl _ _ _,.nil⟩
  |cons u us=>exact hc.elim
 |c::cs,g,st,q::qs,k,r,us,I,h,hc=>by
  cases us with
  |nil=>exact hc.elim
  |cons u us=>
   obtain⟨cv,d,s1,u1,F,rf,h1,I1,T1,hr,ho⟩:=I.jL h hc.1
   obtain⟨xy,d2,s2,u2,Fs,X',h2,I2,T2,hA⟩:=Inv.oX I1 h1 ((hc.2.map T1.map).rf rf)
   exact⟨_,_,_,_,_,X',h2,I2,T1.trans T2,.cons hr ho hA⟩
 | [],g,_,_::_,k,r,us,I,h,hc=>by cases h
 |_::_,g,_,[],k,r,us,I,h,hc=>by cases h
theorem Inv.Ro(I:Inv w0 Mf g st a w){id:Nat}{r:cy}(h:ak st.roots id=some (.live r))(hm:r.md = .deep){p:Path}(PK:p≠[]){s:Sl}(hs:aQ r.t r.xs p=some s){aK ver:Nat}(dP:aK≠id)
 (ek:dI st aK ⟨s.t,.deep,ver,[],s.xs⟩):
    ∃g',g'.n=g.n∧g'.ro=g.ro∧(∀ b,g'.bx b=g.bx b)∧g'.rv aK []=g.rv id p∧
      Inv w0 Mf g' { st with roots:=bc (bc st.roots id (.live ⟨r.t,.part (.hole p),r.ver,r.log,r.xs⟩)) aK (.live ⟨s.t,.deep,ver,[],s.xs⟩) } a w∧
      ∀i k,aT { st with roots:=bc (bc st.roots id (.live ⟨r.t,.part (.hole p),r.ver,r.log,r.xs⟩)) aK (.live ⟨s.t,.deep,ver,[],s.xs⟩) } i→g'.rf i k→∃i0,aT st i0∧g.rf i0 k:=by
 have hr:=I.roots id r h
 unfold aX at hr
 rw[hm] at hr
 have hr:aW w (g.rf id) r.t r.xs (g.rv id):=hr
 have sJ:r.md.cq=false:=by rw[hm];rfl
 have cH:aT st id:=⟨r,h,sJ⟩
 let F:Nat→Prop:=eb r.t r.xs (g.rv id) p
 have MK:∀k,F k→g.rf id k:=fun k ⟨q,s2,h1,h2⟩=>bp.k8 (hr.1 _ s2 h1) h2
 have UX:=hr.part (.hole p)
 have gV:cW w (fun k=>g.rf id k∧ ¬F k) (.hole p) r.t r.xs (g.rv id):=by
  refine⟨fun q s2 h1 h2=>bp.Un (hr.1 q s2 h2) fun k hk=>⟨bp.k8 (hr.1 q s2 h2) hk,fun ⟨q',s3,h3,h4⟩=> ?_⟩,UX.2⟩
  have:=hr.2 _ _ _ _ k h2 h3 hk h4
  subst this
  exact (gI PK).1 h1 (List.prefix_append _ _)
 obtain⟨I1,_⟩:=I.va h sJ (md:= .part (.hole p)) rfl (F:=fun k=>g.rf id k∧ ¬F k) (fun k hk=>hk.1) (by unfold aX;simpa using gV)
 have kc:dI { st with roots:=bc st.roots id (.live ⟨r.t,.part (.hole p),r.ver,r.log,r.xs⟩) } aK ⟨s.t,.deep,ver,[],s.xs⟩:=by
  unfold dI at ek ⊢
  simpa only[bQ _ _ dP] using ek
 have dp:aW w F s.t s.xs fun q=>g.rv id (p++q):=hr.at hs
 have I2:=I1.bV (id:=aK) (r:=⟨s.t,.deep,ver,[],s.xs⟩) kc (av:=fun q=>g.rv id (p++q)) (F:=F) (by unfold aX;simp only[Gh.bV,if_true];exact dp)
  (fun k hk=>⟨fun i ⟨r',h1,h2⟩ hi k7=>by
   simp only[aJ] at h1
   by_cases e:i=id
   ·subst e
    simp only[if_true] at k7
    exact k7.2 hk
   ·simp only[e,if_false] at h1 k7
    exact e (I.apart.rr i id k ⟨r',h1,h2⟩ cH k7 (MK k hk)),I.apart.ew id k cH (MK k hk),fun b hb e=>I.apart.rb id b cH hb (e▸MK k hk),I.apart.cj id k cH (MK k hk),I.apart.er id k cH (MK k hk)⟩)
 refine⟨(g.pE fun i k=>if i=id then g.rf id k∧ ¬F k else g.rf i k).bV aK (fun q=>g.rv id (p++q)) F,rfl,rfl,fun _=>rfl,?_,I2,fun i k ⟨r',h1,h2⟩ k7=> ?_⟩
 ·simp[Gh.bV]
 ·by_cases e:i=aK
  ·subst e
   simp only[Gh.bV,if_true] at k7
   exact⟨id,cH,MK k k7⟩
  ·simp only[Gh.bV,e,if_false] at k7
   by_cases e2:i=id
   ·subst e2
    simp only[if_true] at k7
    exact⟨i,cH,k7.1⟩
   ·simp only[e2,if_false] at k7
    simp only[aJ,e,e2,if_false] at h1
    exact⟨i,⟨r',h1,h2⟩,k7⟩
end Go.Gm
