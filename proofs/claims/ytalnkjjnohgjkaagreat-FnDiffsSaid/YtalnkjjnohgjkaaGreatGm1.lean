/- The G-machine, part 1: an evaluator of translated code on typed values, and that it is sound. No conditions. -/
import Derived.Orders
import Derived.Laws.CopyRow
import Derived.Laws.Entries
import Derived.Laws.Rows
import Derived.ChangeKeysEq
import Derived.Laws.Cover3
import Derived.Lib.SliceRun
import Derived.Laws.BytesArg
import Derived.Laws.BytesString
import Derived.Laws.AppendOwn
namespace Go.Gm
abbrev BA:=ByteArray
theorem bt{α:Type _}{p:α→Prop}{a:α}{l:List α}:(∀ x∈a::l,p x)↔p a∧∀x∈l,p x:=List.forall_mem_cons
theorem gw{α:Type _}{p:α→Prop}:∀x∈([]:List α),p x:=List.forall_mem_nil p
structure ae where
 kind:Int
 n:Int
 s:BA
 keys:List BA
 kids:List ae
structure ai where
 kind:Int
 path:List BA
 src:List BA
 x:ae
structure aj where
 b:List Int
 i:Int
 h:Int
inductive Ty where
 | i (k:IntKind) | bool | str | sl (t:Ty)
 | node
 | pop
 | cur
 deriving DecidableEq
@[reducible] def El:Ty→Type
 | .i _=>Int
 | .bool=>Bool
 | .str=>BA
 | .sl t=>List (El t)
 | .node=>ae
 | .pop=>ai
 | .cur=>aj
inductive Cv where
 | v (x:Value)
 | l (t:Ty) (xs:List (El t))
def Cv.int? :Cv→Option Int | .v (.int .i64 n)=>some n | _=>none
def Cv.KN:Cv→Option BA | .v (.string s)=>some s | _=>none
def Cv.bool? :Cv→Option Bool | .v (.bool b)=>some b | _=>none
def Cv.ik?(k:IntKind):Cv→Option Int | .v (.int k' n)=>if k'=k then some n else none | _=>none
def Cv.KD(t:Ty):Cv→Option (List (El t)) | .l t' xs=>if h:t'=t then some (h▸xs) else none | _=>none
theorem Cv.jG{c:Cv}{n:Int}(h:c.int? =some n):c = .v (.int .i64 n):=by unfold Cv.int? at h;split at h<;>simp_all
theorem Cv.sO{c:Cv}{n:BA}(h:c.KN=some n):c = .v (.string n):=by unfold Cv.KN at h;split at h<;>simp_all
theorem Cv.En{c:Cv}{n:Bool}(h:c.bool? =some n):c = .v (.bool n):=by unfold Cv.bool? at h;split at h<;>simp_all
theorem Cv.KO{k:IntKind}{c:Cv}{n:Int}(h:c.ik? k=some n):c = .v (.int k n):=by unfold Cv.ik? at h;split at h<;>simp_all
theorem Cv.ie{t:Ty}{c:Cv}{n:List (El t)}(h:c.KD t=some n):c = .l t n:=by
 unfold Cv.KD at h;split at h
 ·split at h
  ·rename_i e;subst e;simpa using h
  ·cases h
 ·cases h
def vf(x:ae):List Cv:=[.v (.int .i64 x.kind),.v (.int .i64 x.n),.v (.string x.s),.l .str x.keys,.l .node x.kids]
def vg:List Cv→Option ae
 | [c0,c1,c2,c3,c4]=>(Cv.int? c0).bind fun a0=>(Cv.int? c1).bind fun a1=>(Cv.KN c2).bind fun a2=>(Cv.KD .str c3).bind fun a3=>(Cv.KD .node c4).bind fun a4=>some ⟨a0,a1,a2,a3,a4⟩
 |_=>none
theorem Ar{cs:List Cv}{x:ae}(h:vg cs=some x):cs=vf x:=by
 unfold vg at h;split at h
 ·simp only[Option.bind_eq_some_iff,Option.some.injEq] at h;obtain⟨a0,h0,a1,h1,a2,h2,a3,h3,a4,h4,rfl⟩:=h
  simp only[vf,Cv.jG h0,Cv.jG h1,Cv.sO h2,Cv.ie h3,Cv.ie h4]
 ·cases h
def yY:ae:=⟨0,0,ByteArray.empty,[],[]⟩
def As(x:ai):List Cv:=[.v (.int .i64 x.kind),.l .str x.path,.l .str x.src,.v (.int .i64 x.x.kind),.v (.int .i64 x.x.n),.v (.string x.x.s),.l .str x.x.keys,.l .node x.x.kids]
def Au:List Cv→Option ai
 | [c0,c1,c2,c3,c4,c5,c6,c7]=>(Cv.int? c0).bind fun a0=>(Cv.KD .str c1).bind fun a1=>(Cv.KD .str c2).bind fun a2=>(Cv.int? c3).bind fun a3=>(Cv.int? c4).bind fun a4=>(Cv.KN c5).bind fun a5=>(Cv.KD .str c6).bind fun a6=>(Cv.KD .node c7).bind fun a7=>some ⟨a0,a1,a2,⟨a3,a4,a5,a6,a7⟩⟩
 |_=>none
theorem Cd{cs:List Cv}{x:ai}(h:Au cs=some x):cs=As x:=by
 unfold Au at h;split at h
 ·simp only[Option.bind_eq_some_iff,Option.some.injEq] at h;obtain⟨a0,h0,a1,h1,a2,h2,a3,h3,a4,h4,a5,h5,a6,h6,a7,h7,rfl⟩:=h
  simp only[As,Cv.jG h0,Cv.ie h1,Cv.ie h2,Cv.jG h3,Cv.jG h4,Cv.sO h5,Cv.ie h6,Cv.ie h7]
 ·cases h
def KP:ai:=⟨0,[],[],yY⟩
def Av(x:aj):List Cv:=[.l (.i .u8) x.b,.v (.int .i64 x.i),.v (.int .i64 x.h)]
def Aw:List Cv→Option aj
 | [c0,c1,c2]=>(Cv.KD (.i .u8) c0).bind fun a0=>(Cv.int? c1).bind fun a1=>(Cv.int? c2).bind fun a2=>some ⟨a0,a1,a2⟩
 |_=>none
theorem Ce{cs:List Cv}{x:aj}(h:Aw cs=some x):cs=Av x:=by
 unfold Aw at h;split at h
 ·simp only[Option.bind_eq_some_iff,Option.some.injEq] at h;obtain⟨a0,h0,a1,h1,a2,h2,rfl⟩:=h
  simp only[Av,Cv.ie h0,Cv.jG h1,Cv.jG h2]
 ·cases h
def KQ:aj:=⟨[],0,0⟩
def enc:(t:Ty)→El t→List Cv
 | .i k,n=>[.v (.int k n)]
 | .bool,b=>[.v (.bool b)]
 | .str,s=>[.v (.string s)]
 | .sl t,xs=>[.l t xs]
 | .node,x=>vf x
 | .pop,x=>As x
 | .cur,x=>Av x
def dec:(t:Ty)→List Cv→Option (El t)
 | .i k,[c]=>c.ik? k
 | .bool,[c]=>c.bool?
 | .str,[c]=>c.KN
 | .sl t,[c]=>c.KD t
 | .node,cs=>vg cs
 | .pop,cs=>Au cs
 | .cur,cs=>Aw cs
 |_,_=>none
theorem c8:∀{t:Ty}{cs:List Cv}{x:El t},dec t cs=some x→cs=enc t x
 | .i k,[c],x,h=>by simp only[dec] at h;simp only[enc,Cv.KO h]
 | .bool,[c],x,h=>by simp only[dec] at h;simp only[enc,Cv.En h]
 | .str,[c],x,h=>by simp only[dec] at h;simp only[enc,Cv.sO h]
 | .sl t,[c],x,h=>by simp only[dec] at h;simp only[enc,Cv.ie h]
 | .i k,[],x,h=>by simp[dec] at h
 | .i k,_::_::_,x,h=>by simp[dec] at h
 | .bool,[],x,h=>by simp[dec] at h
 | .bool,_::_::_,x,h=>by simp[dec] at h
 | .str,[],x,h=>by simp[dec] at h
 | .str,_::_::_,x,h=>by simp[dec] at h
 | .sl t,[],x,h=>by simp[dec] at h
 | .sl t,_::_::_,x,h=>by simp[dec] at h
 | .node,cs,x,h=>by simp only[dec] at h;exact Ar h
 | .pop,cs,x,h=>by simp only[dec] at h;exact Cd h
 | .cur,cs,x,h=>by simp only[dec] at h;exact Ce h
def ar:Ty→Nat
 | .i _ | .bool | .str | .sl _=>1
 | .node=>5
 | .pop=>8
 | .cur=>3
theorem bl:∀(t:Ty)(x:El t),(enc t x).length=ar t
 | .i _,_ | .bool,_ | .str,_ | .sl _,_=>rfl
 | .node,_=>rfl
 | .pop,_=>rfl
 | .cur,_=>rfl
def iZ:Ty→Bool
 | .i _ | .bool | .str | .sl _=>false
 |_=>true
def zero:(t:Ty)→El t
 | .i _=>0
 | .bool=>false
 | .str=>ByteArray.empty
 | .sl _=>[]
 | .node=>yY
 | .pop=>KP
 | .cur=>KQ
def cR:Value→Bool | .agg _=>false | .tuple _=>false | _=>true
def Cv.cR:Cv→Bool | .v y=>Gm.cR y | .l _ _=>true
theorem vh:∀(t:Ty)(x:El t),(enc t x).all Cv.cR=true
 | .i _,_ | .bool,_ | .str,_ | .sl _,_=>rfl
 | .node,_=>rfl
 | .pop,_=>rfl
 | .cur,_=>rfl
def Cv.kind:Cv→Option Ty | .v _=>none | .l t _=>some t
def kinds(t:Ty):List (Option Ty):=(enc t (zero t)).map Cv.kind
theorem vi:∀(t:Ty)(x:El t),(enc t x).map Cv.kind=kinds t
 | .i _,_ | .bool,_ | .str,_ | .sl _,_=>rfl
 | .node,_=>rfl
 | .pop,_=>rfl
 | .cur,_=>rfl
theorem eW:∀t:Ty,0<ar t
 | .i _ | .bool | .str | .sl _=>by simp[ar]
 | .node=>by simp[ar]
 | .pop=>by simp[ar]
 | .cur=>by simp[ar]
theorem GI:∀t:Ty,iZ t=false→ar t=1
 | .i _,_ | .bool,_ | .str,_ | .sl _,_=>rfl
 | .node,h=>by simp[iZ] at h
 | .pop,h=>by simp[iZ] at h
 | .cur,h=>by simp[iZ] at h
end Go.Gm
namespace Go.Gm
open Go
abbrev Path:=List (Nat×Nat)
inductive Sc where
 | v (x:Value)
 | nl
 | ro (t:Ty) (xs:List (El t))
 | h (id ver iv:Nat) (p:Path)
 | vw (id ver lo hi:Nat)
 | pt (b off:Nat)
 | pe (id ver iv:Nat) (p:Path) (i off:Nat)
 | rp (t:Ty) (x:El t) (off:Nat)
 | fi (fn:Nat) (ou:List Nat)
 | pJ (fn:Nat) (ou:List (Σ t:Ty,El t))
 | rk (t:Ty) (xs:List (El t))
 | dead
inductive Cm where
 | one (c:Sc)
 | agg (cs:List Sc)
inductive Sv where
 | c (x:Cm)
 | yZ (vs:List Cm)
inductive Pt where
 | cur (i j:Nat)
 | hole (p:List (Nat×Nat))
def vj:List (Nat×Nat)→List (Nat×Nat)→Bool
  | [],_=>true
  |_::_,[]=>false
  | (a,b)::p,(c,d)::q=>Nat.beq a c&&(Nat.beq b d&&vj p q)
def za:List (Nat×Nat)→List (Nat×Nat)→Bool
  | [],[]=>true
  | (a,b)::p,(c,d)::q=>Nat.beq a c&&(Nat.beq b d&&za p q)
  |_,_=>false
inductive Md where
 | deep | n6 | B5
 /-- A list of one's own, of which something was taken away. -/
 | part (k:Pt)
def Md.cV:Md→Bool | .part _=>true | _=>false
def ov(a b i j:Nat):Bool:=Nat.blt a i||(Nat.beq a i&&Nat.ble b j)
def Pt.nodeAt:Pt→List (Nat×Nat)→Bool
 |_,[]=>true
 | .cur a b,(i,j)::_=>ov a b i j
 | .hole p,q=> !(vj p q)
def Md.nodeAt:Md→List (Nat×Nat)→Bool
 |_,[]=>true
 | .part k,q=>k.nodeAt q
 |_,_=>true
def Md.ky:Md→List (Nat×Nat)→Bool
 | .part (.cur a b),(i,j)::_=>ov a b i j
 | .part _,_=>false
 |_,_=>true
def Md.zb:Md→Bool | .n6=>true | .B5=>true | _=>false
def Md.ll:Md→Bool | .n6=>true | _=>false
def Md.norm:Md→Md | .part (.cur i (_+1))=> .part (.cur (i+1) 0) | m=>m
def Md.cr:Md→Bool | .B5=>true | _=>false
def Md.bM:Md→Bool | .deep=>true | _=>false
def Md.meet(m:Md)(deep:Bool):Md:=cond deep m (match m with | .deep=> .n6 | m=>m)
structure cC where
 t:Ty
 md:Md
 ver:Nat
 log:List Nat
 xs:List (El t)
structure Sl where
 t:Ty
 xs:List (El t)
inductive Rt where
 | live (r:cC)
 | dq (r:cC)
 | gone (ver:Nat)
structure Bx where
 t:Ty
 cs:List Sc
structure St where
 ay:List (Nat×Sv)
 boxes:List (Nat×Bx)
 roots:List (Nat×Rt)
structure Dl where
 slot:Option (Nat×Sv):=none
 boxes:List (Nat×Bx):=[]
 roots:List (Nat×Rt):=[]
inductive Dt where
 | d (t:Ty) (x:El t)
 | fi (fn:Nat) (ou:List (Σ t:Ty,El t))
abbrev Kt(R:Type):=List Dt→Option R
abbrev Qt:=List Dt→Option (Bool×List Dt)
inductive Am where
 | ro | mut | oh | D' | bG | fn | SO | kp
structure Spec where
 bR:List Am
 res:List Bool
 own:Bool
 fn:{R:Type}→List Dt→(Kt R)→Option R
 /-- Which arguments go in cell by cell: so many cells; 0: whole. -/
 shape:List Nat:=[]
structure Env where
 code:Nat→Option Ty
 eq:Nat→Option (List Ty)
 yq:Nat→Nat→Option (Nat×Nat)
 spec:Nat→Option Spec
section assoc
variable {α : Type}
def au:List (Nat×α)→Nat→Option α
  | [],_=>none
  | (k,v)::r,n=>cond (Nat.beq n k) (some v) (au r n)
def bd:List (Nat×α)→Nat→α→List (Nat×α)
  | [],n,v=>[(n,v)]
  | (k,u)::r,n,v=>cond (Nat.beq n k) ((n,v)::r) (cond (Nat.blt n k) ((n,v)::(k,u)::r) ((k,u)::bd r n v))
def cj(l:List (Nat×α)):List (Nat×α)→List (Nat×α)
  | []=>l
  | (n,v)::r=>cj (bd l n v) r
end assoc
def St.apply(st:St)(d:Dl):St:=
  { ay:=match d.slot with | some (s,v)=>bd st.ay s v | none=>st.ay,boxes:=cj st.boxes d.boxes,roots:=cj st.roots d.roots }
def qU(t:Ty):List Sc:=(enc t (zero t)).map fun | .v x=> .v x | .l _ _=> .nl
def k6:Value→Option Sc
 | .bool b=>some (.v (.bool b))
 | .int k n=>some (.v (.int k n))
 | .string s=>some (.v (.string s))
 | .nilFunc=>some (.v .nilFunc)
 | .nilIface=>some (.v .nilIface)
 | .pointer none=>some (.v (.pointer none))
 | .slice none 0 0=>some .nl
 |_=>none
def iA:List Value→Option (List Sc)
 | []=>some []
 |v::r=>(k6 v).bind fun c=>(iA r).bind fun cs=>some (c::cs)
def pf:Value→Option Sv
 | .agg cs=>(iA cs.toList).bind fun l=>some (.c (.agg l))
 |v=>(k6 v).bind fun c=>some (.c (.one c))
section ev
variable {R : Type}
def dv(st:St)(x:Operand)(k:Sv→Option R):Option R:=
  match x with
 | .tmp t=>(au st.ay t).bind k
 | .const v=>(pf v).bind k
 | .func f=>k (.c (.one (.fi f [])))
 | .global _=>none
def Sc.soft:Sc→Sc | .rk t xs=> .ro t xs | c=>c
def fV(st:St)(x:Operand)(k:Sc→Option R):Option R:=
  dv st x fun | .c (.one c)=>k c.soft | _=>none
def j9(st:St)(x:Operand)(k:Value→Option R):Option R:=
  fV st x fun | .v u=>k u | _=>none
def getBool(st:St)(x:Operand)(k:Bool→Option R):Option R:=
  j9 st x fun | .bool b=>k b | _=>none
def getInt(st:St)(x:Operand)(k:Int→Option R):Option R:=
  j9 st x fun | .int .i64 n=>k n | _=>none
def kz(st:St)(id ver:Nat)(k:cC→Option R):Option R:=
  match au st.roots id with
 |some (.live r)=>cond (Nat.beq r.ver ver) (k r) none
 |_=>none
def ja(r:cC)(iv:Nat)(p:Path):Bool:=(r.log.drop iv).all fun D=>Nat.ble p.length D
def lp(st:St)(id ver iv:Nat)(p:Path)(k:cC→Option R):Option R:=
  kz st id ver fun r=>cond (ja r iv p) (k r) none
def al{t:Ty}(xs:List (El t))(i:Nat):El t:=xs.getD i (zero t)
def sub:(t:Ty)→List (El t)→Path→Option Sl
 |t,xs,[]=>some ⟨t,xs⟩
 |t,xs,(i,j)::p=>match (enc t (al xs i))[j]? with
  |some (.l t' ys)=>sub t' ys p
  |_=>none
def dz:(t:Ty)→List (El t)→Path→Sl→Option (List (El t))
 |t,_,[],s=>dec (.sl t) [.l s.t s.xs]
 |t,xs,(i,j)::p,s=>match (enc t (al xs i))[j]? with
  |some (.l t' ys)=>(dz t' ys p s).bind fun zs=>(dec t ((enc t (al xs i)).set j (.l t' zs))).bind fun y=>some (xs.set i y)
  |_=>none
def pK(st:St)(c:Sc)(q:Option Ty)(k:Cv→Option R):Option R:=
  match c,q with
 | .v x,none=>k (.v x)
 | .nl,some t=>k (.l t [])
 | .ro t xs,some _=>k (.l t xs)
 | .rk t xs,some _=>k (.l t xs)
 | .h id ver iv p,some _=>lp st id ver iv p fun r=>cond (r.md.ky p) ((sub r.t r.xs p).bind fun s=>k (.l s.t s.xs)) none
 | .vw id ver lo hi,some _=>kz st id ver fun r=>cond (r.md.ky []) (k (.l r.t ((r.xs.take hi).drop lo))) none
 |_,_=>none
def Eo(st:St):List Sc→List (Option Ty)→(List Cv→Option R)→Option R
 | [],[],k=>k []
 |c::cs,q::qs,k=>pK st c q fun x=>Eo st cs qs fun xs=>k (x::xs)
 |_,_,_=>none
def fp(t:Ty)(s:Sv):Option (List Sc):=
  match iZ t,s with
 |true,.c (.agg cs)=>some cs
 |false,.c (.one c)=>some [c]
 |_,_=>none
def Cf(t:Ty)(cs:List Sc):Option Cm:=
  match iZ t,cs with
 |true,cs=>some (.agg cs)
 |false,[c]=>some (.one c)
 |_,_=>none
def sP(st:St)(t:Ty)(s:Sv)(k:El t→Option R):Option R:=
 (fp t s).bind fun cs=>Eo st cs (kinds t) fun xs=>(dec t xs).bind k
def kE(st:St)(c:Sc)(q:Option Ty)(k:Cv→Bool→St→List (Nat×Rt)→Option R):Option R:=
  match c,q with
 | .v x,none=>k (.v x) true st []
 | .nl,some t=>k (.l t []) true st []
 | .ro t xs,some _=>k (.l t xs) false st []
 | .rk t xs,some _=>k (.l t xs) false st []
 | .h id ver _ [],some _=>kz st id ver fun r=>cond (r.md.ky [])
   (cond r.md.cr (k (.l r.t r.xs) false st [])
    (k (.l r.t r.xs) r.md.bM { st with roots:=bd st.roots id (.gone ver) } [(id,.gone ver)])) none
 | .vw id ver lo hi,some _=>kz st id ver fun r=>cond (r.md.ky [])
   (cond r.md.cr (k (.l r.t ((r.xs.take hi).drop lo)) false st [])
    (k (.l r.t ((r.xs.take hi).drop lo)) r.md.bM { st with roots:=bd st.roots id (.gone ver) } [(id,.gone ver)])) none
 |_,_=>none
def qp(st:St):List Sc→List (Option Ty)→(List Cv→Bool→St→List (Nat×Rt)→Option R)→Option R
 | [],[],k=>k [] true st []
 |c::cs,q::qs,k=>kE st c q fun x d st u=>qp st cs qs fun xs d' st u'=>k (x::xs) (d&&d') st (u++u')
 |_,_,_=>none
def zc(st:St)(t:Ty)(s:Sv)(k:El t→Bool→St→List (Nat×Rt)→Option R):Option R:=
 (fp t s).bind fun cs=>qp st cs (kinds t) fun xs d st u=>(dec t xs).bind fun x=>k x d st u
def Md.tB:Md→Nat→Nat→Bool
 | .deep,_,_=>true
 | .part (.cur a b),i,j=>ov a b i j
 |_,_,_=>false
def St.taken(st:St)(id:Nat)(r:cC)(i j:Nat):St:={ st with roots:=bd st.roots id (.live ⟨r.t,.part (.cur i j),r.ver,r.log,r.xs⟩) }
def ml(st:St)(c:Sc)(q:Option Ty)(k:Cv→Bool→St→List (Nat×Rt)→Option R):Option R:=
  match c,q with
 | .h id ver iv [(i,j)],some _=>lp st id ver iv [(i,j)] fun r=>cond (r.md.tB i j)
   ((sub r.t r.xs [(i,j)]).bind fun s=>k (.l s.t s.xs) true (st.taken id r i (j+1)) [(id,.live ⟨r.t,.part (.cur i (j+1)),r.ver,r.log,r.xs⟩)]) none
 |c,q=>kE st c q k
def tC(st:St):List Sc→List (Option Ty)→(List Cv→Bool→St→List (Nat×Rt)→Option R)→Option R
 | [],[],k=>k [] true st []
 |c::cs,q::qs,k=>ml st c q fun x d st u=>tC st cs qs fun xs d' st u'=>k (x::xs) (d&&d') st (u++u')
 |_,_,_=>none
def sQ(st:St)(t:Ty)(s:Sv)(k:El t→Bool→St→List (Nat×Rt)→Option R):Option R:=
 (fp t s).bind fun cs=>tC st cs (kinds t) fun xs d st u=>(dec t xs).bind fun x=>k x d st u
def mkRoot(st:St)(id:Nat)(t:Ty)(md:Md)(xs:List (El t))(k:cC→Option R):Option R:=
  match au st.roots id with
 |none=>k ⟨t,md,0,[],xs⟩
 |some (.gone v)=>k ⟨t,md,v+1,[],xs⟩
 |some _=>none
def kL(st:St)(id:Nat)(t:Ty)(md:Md)(xs:List (El t))(k:cC→Option R):Option R:=
  match au st.roots id with
 |some (.live r)=>cond r.md.cV (k ⟨t,md,r.ver+1,[],xs⟩) none
 |_=>mkRoot st id t md xs k
def vk(own:Bool)(st:St)(id:Nat):List Cv→(List Sc→Nat→St→List (Nat×Rt)→Option R)→Option R
 | [],k=>k [] id st []
 | .v x::cs,k=>vk own st id cs fun ss n st u=>k (.v x::ss) n st u
 | .l t xs::cs,k=>
  cond (Nat.beq (id%64) 63) none (cond own
   (mkRoot st id t .deep xs fun r=>vk own { st with roots:=bd st.roots id (.live r) } (id+1) cs fun ss n st u=>
    k (.h id r.ver 0 []::ss) n st ((id,.live r)::u))
   (vk own st (id+1) cs fun ss n st u=>k (.ro t xs::ss) n st u))
def shr:Ty→Bool | .cur=>true | _=>false
def ID(cs:List Cv):List Sc:=cs.map fun | .v x=> .v x | .l t xs=> .rk t xs
def rdK:Sc→Option Ty→Option Cv
 | .v x,none=>some (.v x)
 | .nl,some t=>some (.l t [])
 | .rk t xs,some _=>some (.l t xs)
 |_,_=>none
def Cg:List Sc→List (Option Ty)→Option (List Cv)
 | [],[]=>some []
 |c::cs,q::qs=>(rdK c q).bind fun x=>(Cg cs qs).bind fun xs=>some (x::xs)
 |_,_=>none
def vl(own:Bool)(st:St)(id:Nat)(t:Ty)(cs:List Cv)(k:List Sc→Nat→St→List (Nat×Rt)→Option R):Option R:=
  cond (shr t) (k (ID cs) id st []) (vk own st id cs k)
def SP(st:St)(t:Ty)(cs:List Sc)(k:List Cv→Bool→St→List (Nat×Rt)→Option R):Option R:=
  cond (shr t) ((Cg cs (kinds t)).bind fun cv=>k cv true st []) (qp st cs (kinds t) k)
def et{α:Type}(l:List α)(off:Nat)(ys:List α):List α:=l.take off++ys++l.drop (off+ys.length)
def cy(x y:BA):Bool:=x.toList==y.toList
def dE(x y:BA):Bool:=Op.bytesLess x.toList y.toList
def zd(op:BinOp)(tb:Bool)(x y:Value)(k:Value→Option R):Option R:=
  match x,y with
 | .int k1 a,.int k2 b=>
  match op with
  | .shl=>cond (decide (b<0)) none (k (.int k1 (k1.wrap (a*2^(min b.toNat k1.bits)))))
  | .shr=>cond (decide (b<0)) none (k (.int k1 (a.fdiv (2^(min b.toNat k1.bits)))))
  |op=>
   cond (decide (k1=k2))
    (match op with
    | .add=>k (.int k1 (k1.wrap (a+b)))
    | .sub=>k (.int k1 (k1.wrap (a-b)))
    | .mul=>k (.int k1 (k1.wrap (a*b)))
    | .quo=>cond (decide (b=0)) none (k (.int k1 (k1.wrap (a.tdiv b))))
    | .rem=>cond (decide (b=0)) none (k (.int k1 (a.tmod b)))
    | .and=>k (.int k1 (k1.wrap (BitVec.ofInt k1.bits a &&& BitVec.ofInt k1.bits b).toNat))
    | .or=>k (.int k1 (k1.wrap (BitVec.ofInt k1.bits a ||| BitVec.ofInt k1.bits b).toNat))
    | .xor=>k (.int k1 (k1.wrap (BitVec.ofInt k1.bits a ^^^ BitVec.ofInt k1.bits b).toNat))
    | .eql=>k (.bool (a==b))
    | .neq=>k (.bool (a !=b))
    | .lss=>k (.bool (decide (a<b)))
    | .leq=>k (.bool (decide (a≤b)))
    | .gtr=>k (.bool (decide (a>b)))
    | .geq=>k (.bool (decide (a≥b)))
    |_=>none) none
 | .string a,.string b=>
  match op with
  | .add=>cond (decide (a.size+b.size≤9223372036854775807)) (k (.string (a++b))) none
  | .eql=>k (.bool (cy a b))
  | .neq=>k (.bool (!cy a b))
  | .lss=>k (.bool (dE a b))
  | .leq=>k (.bool (dE a b||cy a b))
  | .gtr=>k (.bool (!(dE a b||cy a b)))
  | .geq=>k (.bool (!dE a b))
  |_=>none
 | .bool a,.bool b=>
  match op with
  | .eql=>cond tb (k (.bool (a==b))) none
  | .neq=>cond tb (k (.bool (!(a==b)))) none
  |_=>none
 |_,_=>none
def isB:Option Ty→Bool | some .bool=>true | _=>false
def kF:List Ty→List Sc→List Sc→Option Bool
 | [],[],[]=>some true
 | .i q::ts,.v (.int k a)::r,.v (.int k' b)::s=>cond (decide (k=q)&&decide (k'=q)) ((kF ts r s).bind fun e=>some ((a==b)&&e)) none
 | .str::ts,.v (.string a)::r,.v (.string b)::s=>(kF ts r s).bind fun e=>some ((a==b)&&e)
 | .bool::ts,.v (.bool a)::r,.v (.bool b)::s=>(kF ts r s).bind fun e=>some ((a==b)&&e)
 |_,_,_=>none
def bytesOf(xs:List Int):BA:=⟨(xs.map fun n=>UInt8.ofNat n.toNat).toArray⟩
def put(o:Oper)(s:Sv):Dl:={ slot:=o.dst.map fun d=>(d,s) }
def gA(o:Oper)(c:Sc):Dl:=put o (.c (.one c))
def loadAt(st:St)(a:Sc)(n:Nat)(k:List Sc→Option R):Option R:=
  match a with
 | .pt b off=>(au st.boxes b).bind fun x=>cond (Nat.ble (off+n) x.cs.length) (k ((x.cs.drop off).take n)) none
 | .pe id ver iv p i off=>lp st id ver iv p fun r=>cond (r.md.nodeAt p) ((sub r.t r.xs p).bind fun s=>cond (Nat.ble (off+n) (ar s.t))
   (k (((((enc s.t (al s.xs i)).zipIdx).drop off).take n).map fun (c,j)=>
    match c with | .v x=> .v x | .l t ys=>cond r.md.zb (.ro t ys) (.h id ver r.log.length (p++[(i,j)])))) none) none
 | .rp t x off=>cond (Nat.ble (off+n) (ar t))
   (k ((((enc t x).drop off).take n).map fun | .v x=> .v x | .l t ys=> .ro t ys)) none
 |_=>none
def Sc.names:Sc→List Nat×List Nat
 | .h id .. | .vw id .. | .pe id .. =>([],[id])
 | .pt b _=>([b],[])
 | .fi _ bs=>(bs,[])
 |_=>([],[])
def qV(st:St)(b:Nat):List Nat:=match au st.boxes b with | some x=>(x.cs.map fun c=>c.names.2).flatten | none=>[]
def Sc.reach(st:St)(c:Sc):List Nat:=c.names.2++(c.names.1.map (qV st)).flatten
def Cm.cells:Cm→List Sc | .one c=>[c] | .agg cs=>cs
def Sv.cells:Sv→List Sc | .c x=>x.cells | .yZ vs=>(vs.map Cm.cells).flatten
def nw(st:St):List Nat→(List (Σ t:Ty,El t)→Option R)→Option R
 | [],k=>k []
 |b::bs,k=>(au st.boxes b).bind fun x=>Eo st x.cs (kinds x.t) fun cv=>(dec x.t cv).bind fun y=>nw st bs fun ys=>k (⟨x.t,y⟩::ys)
inductive Bk where
 | root (id:Nat) (r:cC) (p:Path)
 | box (b:Nat)
def gh(E:Env)(m:Am)(T:Nat)(s:Sv)(st:St)(k:Dt→List Bk→St→Dl→Option R):Option R:=
  match m with
 | .ro=>(E.code T).bind fun t=>sP st t s fun x=>k (.d t x) [] st {}
 | .oh=>(E.code T).bind fun t=>zc st t s fun x d st u=>cond d (k (.d t x) [] st { roots:=u }) none
 | .mut=>
  match s with
  | .c (.one (.h id ver iv p))=>lp st id ver iv p fun r=>cond r.md.bM
    ((sub r.t r.xs p).bind fun s=>k (.d (.sl s.t) s.xs) [.root id r p] { st with roots:=bd st.roots id (.dq r) } {}) none
  |_=>none
 | .D'=>
  match s with
  | .c (.one (.pt b 0))=>(au st.boxes b).bind fun x=>Eo st x.cs (kinds x.t) fun cv=>(dec x.t cv).bind fun y=>k (.d x.t y) [] st {}
  | .c (.one (.rp t x 0))=>k (.d t x) [] st {}
  |_=>none
 | .bG=>
  match s with
  | .c (.one (.pt b 0))=>(au st.boxes b).bind fun x=>SP st x.t x.cs fun cv d st u=>cond d
    ((dec x.t cv).bind fun y=>let z:Bx:=⟨x.t,x.cs.map fun _=> .dead⟩;k (.d x.t y) [.box b] { st with boxes:=bd st.boxes b z } { boxes:=[(b,z)],roots:=u }) none
  |_=>none
 | .fn=>
  match s with
  | .c (.one (.fi f bs))=>nw st bs fun ys=>k (.fi f ys) [] st {}
  | .c (.one (.pJ f ys))=>k (.fi f ys) [] st {}
  |_=>none
 | .SO=>
  match s with
  | .c (.one _)=>k (.d .bool false) [] st {}
  |_=>none
 | .kp=>(E.code T).bind fun t=>(fp t s).bind fun cs=>(Cg cs (kinds t)).bind fun cv=>(dec t cv).bind fun x=>k (.d t x) [] st {}
def Am.reads:Am→Bool | .ro | .D' | .fn | .SO | .kp=>true | _=>false
def Ax:List Nat→List (Nat×Sv)→Option (List (Nat×Sv))
  | [],l=>some l
  |0::sh,a::l=>(Ax sh l).bind fun r=>some (a::r)
  | (n+1)::sh,(_,.c (.agg cs))::l=>cond (Nat.beq cs.length (n+1)) ((Ax sh l).bind fun r=>some (cs.map (fun c=>(0,.c (.one c)))++r)) none
  |_,_=>none
def dH(E:Env):List (Am×Nat×Sv)→St→(List Dt→List Bk→St→Dl→Option R)→Option R
  | [],st,k=>k [] [] st {}
  | (m,T,s)::r,st,k=>
    match m.reads with
    |true=>dH E r st fun xs bs st d=>gh E m T s st fun x _ _ _=>k (x::xs) bs st d
    |false=>gh E m T s st fun x b st d=>dH E r st fun xs bs st d'=>
      k (x::xs) (b++bs) st { boxes:=d.boxes++d'.boxes,roots:=d.roots++d'.roots }
def gB(st:St):List Bk→List Dt→(St→Dl→Option R)→Option R
 | [],[],k=>k st {}
 | .root id r p::bs,.d (.sl t) ys::ds,k=>(dz r.t r.xs p ⟨t,ys⟩).bind fun zs=>
   let r':cC:=⟨r.t,r.md,r.ver,r.log++[p.length],zs⟩
   gB { st with roots:=bd st.roots id (.live r') } bs ds fun st d=>k st { d with roots:=(id,.live r')::d.roots }
 | .box b::bs,.d t x::ds,k=>vl true st (64*b) t (enc t x) fun cs _ st u=>
   let z:Bx:=⟨t,cs⟩
   gB { st with boxes:=bd st.boxes b z } bs ds fun st d=>k st { d with boxes:=(b,z)::d.boxes,roots:=u++d.roots }
 |_,_,_=>none
def eH(own:Bool)(st:St)(d id:Nat):List Bool→List Dt→(List Cm→St→Dl→Option R)→Option R
 | [],[],k=>k [] st {}
 |false::ps,.d t x::ds,k=>vk own st id (enc t x) fun cs n st u=>(Cf t cs).bind fun c=>eH own st d n ps ds fun r st u'=>
   k (c::r) st { boxes:=u'.boxes,roots:=u++u'.roots }
 |true::ps,.d t x::ds,k=>match au st.boxes d with
  |none=>vl own st id t (enc t x) fun cs n st u=>eH own { st with boxes:=bd st.boxes d ⟨t,cs⟩ } d n ps ds fun r st u'=>
    k (.one (.pt d 0)::r) st { boxes:=(d,⟨t,cs⟩)::u'.boxes,roots:=u++u'.roots }
  |some _=>none
 |_,_,_=>none
def freeze(st:St):List Nat→(St→List (Nat×Rt)→Option R)→Option R
 | [],k=>k st []
 |id::ids,k=>
  match au st.roots id with
  |some (.live r)=>cond r.md.cV none <| let r':cC:={ r with md:= .B5 };freeze { st with roots:=bd st.roots id (.live r') } ids fun st u=>k st ((id,.live r')::u)
  |_=>freeze st ids k
def lq(E:Env)(o:Oper)(fn:Nat)(args:List (Nat×Sv))(st:St)(k:Dl→Option R):Option R:=
 (E.spec fn).bind fun sp=>(Ax sp.shape args).bind fun args=>
    cond (Nat.beq sp.bR.length args.length&&(sp.own||args.all fun a=>a.2.cells.all fun c=>c.names.1.isEmpty))
 (dH E (sp.bR.zip args) st fun ds bs st d=>
      sp.fn ds fun outs=>
        gB st bs (outs.drop sp.res.length) fun st d1=>
 (cond sp.own (fun(k:St→List (Nat×Rt)→Option R)=>k st [])
 (freeze st ((args.map fun a=>(a.2.cells.map fun c=>c.names.2).flatten).flatten))) fun st u0=>
          eH sp.own st (o.dst.getD 0) (64*o.dst.getD 0) sp.res (outs.take sp.res.length) fun rs _ u=>
            k { slot:=o.dst.map fun q=>(q,match rs with | [r]=> .c r | rs=> .yZ rs),boxes:=d.boxes++(d1.boxes++u.boxes),roots:=d.roots++(d1.roots++(u0++u.roots)) }) none
def bT:Nat:=4294967296
def ze(st:St)(c:Sc)(q:Option Ty)(k:Cv→Bool→St→List (Nat×Rt)→Option R):Option R:=
  match c,q with
 | .vw id ver lo hi,some _=>kz st id ver fun r=>cond (r.md.tB lo 0)
   (k (.l r.t ((r.xs.take hi).drop lo)) true (st.taken id r hi 0) [(id,.live ⟨r.t,.part (.cur hi 0),r.ver,r.log,r.xs⟩)])
   (kE st c q k)
 |c,q=>ml st c q k
def lR(st:St)(e:Ty)(c:Sc)(k:List (El e)→Bool→St→List (Nat×Rt)→Option R):Option R:=
  match (kinds e).all (fun q=>q.isNone) with
 |true=>pK st c (some e) fun x=>(dec (.sl e) [x]).bind fun xs=>k xs true st []
 |false=>ze st c (some e) fun x d st u=>(dec (.sl e) [x]).bind fun xs=>k xs d st u
def mQ(E:Env)(o:Oper)(T:Nat)(s x:Sc)(st:St)(k:Dl→Option R):Option R:=
  match E.code T with
  |some (.sl e)=>
    match s with
    | .nl=>lR st e x fun ys d st u=>cond (Nat.ble ys.length bT)
        (kL st (64*o.dst.getD 0) e (Md.deep.meet d) ys fun r=>
          k { slot:=o.dst.map fun q=>(q,.c (.one (.h (64*o.dst.getD 0) r.ver 0 []))),roots:=u++[(64*o.dst.getD 0,.live r)] }) none
    | .h id ver _ []=>lR st e x fun ys d st u=>kz st id ver fun r=>cond (r.md.cr||r.md.cV) none ((dec (.sl e) [.l r.t r.xs]).bind fun xs=>
        cond (Nat.ble (xs.length+ys.length) bT)
          (let r':cC:=⟨e,r.md.meet d,ver+1,[],xs++ys⟩
           k { slot:=o.dst.map fun q=>(q,.c (.one (.h id (ver+1) 0 []))),roots:=u++[(id,.live r')] }) none)
    | .h id ver iv p=>lR st e x fun ys d st u=>lp st id ver iv p fun r=>cond r.md.bM ((sub r.t r.xs p).bind fun s=>(dec (.sl e) [.l s.t s.xs]).bind fun xs=>
        cond (Nat.ble (xs.length+ys.length) bT) (mkRoot st (64*o.dst.getD 0) e .deep xs fun r2=>
          k { slot:=o.dst.map fun q=>(q,.c (.one (.h (64*o.dst.getD 0) (r2.ver+1) 0 []))),roots:=u++[(id,.live ⟨r.t,.part (.hole p),r.ver,r.log,r.xs⟩),(64*o.dst.getD 0,.live ⟨e,Md.deep.meet d,r2.ver+1,[],xs++ys⟩)] }) none) none
    |_=>none
  |_=>none
def Md.Yl:Md→Option (List (Nat×Nat)) | .part (.hole p)=>some p | _=>none
def jb:Option Ty→Option Ty | some (.sl e)=>some e | _=>none
def isStr:Option Ty→Bool | some .str=>true | _=>false
def Ay(mx:Bool):Value→Value→Option Value
 | .int k a,.int _ b=>some (.int k (cond mx (if b>a then b else a) (if b<a then b else a)))
 |_,_=>none
def Ch{α:Type}(z:α)(xs:List α)(lo hi:Nat):List α:=xs.take lo++List.replicate (hi-lo) z++xs.drop hi
def eY(E:Env)(o:Oper)(b:Builtin)(c:Call)(st:St)(k:Dl→Option R):Option R:=
  match b with
 | .len=>match c.args.toList,c.argTypes.toList with
  | [x],[T]=>fV st x fun
   | .v (.string s)=>cond (isStr (E.code T)) (k (gA o (.v (.int .i64 s.size)))) none
   | .nl=>(jb (E.code T)).bind fun _=>k (gA o (.v (.int .i64 0)))
   | .ro _ xs=>(jb (E.code T)).bind fun _=>k (gA o (.v (.int .i64 xs.length)))
   | .h id ver iv p=>(jb (E.code T)).bind fun _=>lp st id ver iv p fun r=>cond (r.md.nodeAt p) ((sub r.t r.xs p).bind fun s=>k (gA o (.v (.int .i64 s.xs.length)))) none
   | .vw id ver lo hi=>(jb (E.code T)).bind fun _=>kz st id ver fun r=>k (gA o (.v (.int .i64 ((r.xs.take hi).drop lo).length)))
   |_=>none
  |_,_=>none
 | .append=>match c.args.toList,c.argTypes.toList with
  | [s,x],[T,T']=>(jb (E.code T')).bind fun _=>fV st s fun s=>fV st x fun x=>mQ E o T s x st k
  |_,_=>none
 | .min=>match c.args.toList with
  | [x,y]=>j9 st x fun x=>j9 st y fun y=>(Ay false x y).bind fun z=>k (gA o (.v z))
  |_=>none
 | .max=>match c.args.toList with
  | [x,y]=>j9 st x fun x=>j9 st y fun y=>(Ay true x y).bind fun z=>k (gA o (.v z))
  |_=>none
 | .clear=>match c.args.toList,c.argTypes.toList with
  | [x],[T]=>cond o.dst.isNone ((jb (E.code T)).bind fun e=>fV st x fun
   | .vw id ver lo hi=>kz st id ver fun r=>cond (r.md.bM&&(Nat.beq (ar e) (ar r.t)&&(enc e (zero e)).all fun c=>c.kind.isNone))
     ((dec r.t (enc e (zero e))).bind fun z=>k { roots:=[(id,.live ⟨r.t,r.md,r.ver,r.log,Ch z r.xs lo hi⟩)] }) none
   |_=>none) none
  |_,_=>none
 |_=>none
def j4(E:Env)(T:Nat)(st:St):List (Nat×Operand)→List Sc→(List Sc→Option R)→Option R
  | [],row,k=>k row
  | (i,x)::r,row,k=>(E.yq T i).bind fun (off,ft)=>(E.code ft).bind fun t=>dv st x fun s=>(fp t s).bind fun cs=>
      cond (Nat.beq cs.length (ar t)&&Nat.ble (off+cs.length) row.length) (j4 E T st r (et row off cs) k) none
def j5(e:Ty)(st:St):List (Nat×Operand)→List (El e)→(List (El e)→Bool→St→List (Nat×Rt)→Option R)→Option R
  | [],xs,k=>k xs true st []
  | (i,x)::r,xs,k=>dv st x fun s=>sQ st e s fun y d st u=>cond (Nat.blt i xs.length)
      (j5 e st r (xs.set i y) fun xs d' st u'=>k xs (d&&d') st (u++u')) none
def mR(st:St):List Operand→(List Sv→Option R)→Option R
 | [],k=>k []
 |x::r,k=>dv st x fun s=>mR st r fun ss=>k (s::ss)
def Ci:List Sv→Option (List Nat)
 | []=>some []
 | .c (.one (.pt b 0))::r=>(Ci r).bind fun bs=>some (b::bs)
 |_=>none
def fW(st:St)(x:Option Operand)(d:Int)(k:Int→Option R):Option R:=
  match x with | none=>k d | some x=>getInt st x k
def eZ(E:Env)(o:Oper)(st:St)(k:Dl→Option R):Option R:=
  match o.op with
  | .move x | .assign x=>dv st x fun s=>k (put o s)
  | .pick c a b=>getBool st c fun t=>cond t (dv st a fun s=>k (put o s)) (dv st b fun s=>k (put o s))
  | .alloc T=>(E.code T).bind fun t=>o.dst.bind fun d=>match au st.boxes d with
      |none=>k { slot:=some (d,.c (.one (.pt d 0))),boxes:=[(d,⟨t,qU t⟩)] }
      |some _=>none
  | .box T x=>(E.code T).bind fun t=>o.dst.bind fun d=>match au st.boxes d with
      |none=>dv st x fun s=>(fp t s).bind fun cs=>cond (Nat.beq cs.length (ar t))
          (k { slot:=some (d,.c (.one (.pt d 0))),boxes:=[(d,⟨t,cs⟩)] }) none
      |some _=>none
  | .build T ps=>(E.code T).bind fun t=>cond (iZ t) (j4 E T st ps.toList (qU t) fun row=>k (put o (.c (.agg row)))) none
  | .buildSlice T n ps=>match E.code T with
      |some (.sl e)=>cond (Nat.ble (n*ar e) 16777216) (j5 e st ps.toList (List.replicate n (zero e)) fun xs d st u=>
          kL st (64*o.dst.getD 0) e (Md.deep.meet d) xs fun r=>
            k { slot:=o.dst.map fun q=>(q,.c (.one (.h (64*o.dst.getD 0) r.ver 0 []))),roots:=u++[(64*o.dst.getD 0,.live r)] }) none
      |_=>none
  | .load T a=>(E.code T).bind fun t=>fV st a fun a=>loadAt st a (ar t) fun cs=>(Cf t cs).bind fun c=>k (put o (.c c))
  | .store T a x=>cond (o.dst.isNone) ((E.code T).bind fun t=>fV st a fun a=>dv st x fun s=>(fp t s).bind fun cs=>cond (Nat.beq cs.length (ar t))
      (match a with
       | .pt b off=>(au st.boxes b).bind fun y=>cond (Nat.ble (off+cs.length) y.cs.length) (k { boxes:=[(b,⟨y.t,et y.cs off cs⟩)] }) none
       | .pe id ver iv p i off=>lp st id ver iv p fun r=>match r.md.Yl with
        |some p0=>cond (za p0 (p++[(i,off)])) (match cs with
          | [c]=>(sub r.t r.xs p0).bind fun s0=>kE st c (some s0.t) fun cv d st u=>cond d (kz st id ver fun r=>(cv.KD s0.t).bind fun ys=>(dz r.t r.xs p0 ⟨s0.t,ys⟩).bind fun zs=>
              k { roots:=u++[(id,.live ⟨r.t,.deep,r.ver,r.log++[p.length],zs⟩)] }) none
          |_=>none) none
        |none=>(sub r.t r.xs p).bind fun s=>
          cond ((r.md.bM||(r.md.ll&&p.isEmpty))&&Nat.ble (off+cs.length) (ar s.t))
          (qp st cs (((kinds s.t).drop off).take cs.length) fun cv d st u=>kz st id ver fun r=>
            cond (d||p.isEmpty) ((dec s.t (et (enc s.t (al s.xs i)) off cv)).bind fun y=>(dz r.t r.xs p ⟨s.t,s.xs.set i y⟩).bind fun zs=>
              k { roots:=u++[(id,.live ⟨r.t,cond (cv.all fun c=>c.kind.isNone) r.md (r.md.meet d),r.ver,cond (cv.all fun c=>c.kind.isNone) r.log (r.log++[p.length]),zs⟩)] }) none) none
       |_=>none) none) none
  | .nilCheck x=>fV st x fun
      | .pt b off=>k (gA o (.pt b off))
      | .pe id ver iv p i off=>lp st id ver iv p fun _=>k (gA o (.pe id ver iv p i off))
      | .rp t x off=>k (gA o (.rp t x off))
      | .fi f bs=>k (gA o (.fi f bs))
      | .pJ f ys=>k (gA o (.pJ f ys))
      |_=>none
  | .binOp op T x y _=>dv st x fun x=>dv st y fun y=>match x,y with
      | .c (.one (.v x)),.c (.one (.v y))=>zd op (isB (E.code T)) x y fun z=>k (gA o (.v z))
      | .c (.agg xs),.c (.agg ys)=>(E.eq T).bind fun ts=>match op with
          | .eql=>(kF ts xs ys).bind fun e=>k (gA o (.v (.bool e)))
          | .neq=>(kF ts xs ys).bind fun e=>k (gA o (.v (.bool (!e))))
          |_=>none
      | .c (.one (.ro _ xs)),.c (.one .nl)=>(jb (E.code T)).bind fun _=>cond xs.isEmpty none (match op with
          | .eql=>k (gA o (.v (.bool false)))
          | .neq=>k (gA o (.v (.bool true)))
          |_=>none)
      |_,_=>none
  | .unOp op _ x=>j9 st x fun x=>match op,x with
      | .not,.bool b=>k (gA o (.v (.bool (!b))))
      | .neg,.int kd n=>k (gA o (.v (.int kd (kd.wrap (0-n)))))
      |_,_=>none
  | .convert S T x=>match E.code S,E.code T with
      |some (.i _),some (.i kd)=>j9 st x fun | .int _ n=>k (gA o (.v (.int kd (kd.wrap n)))) | _=>none
      |some (.i _),some .str=>j9 st x fun | .int _ n=>k (gA o (.v (.string (Utf8.encode n)))) | _=>none
      |some .str,some .str=>j9 st x fun | .string s=>k (gA o (.v (.string s))) | _=>none
      |some (.sl (.i .u8)),some .str=>fV st x fun c=>pK st c (some (.i .u8)) fun cv=>(cv.KD (.i .u8)).bind fun xs=>k (gA o (.v (.string (bytesOf xs))))
      |_,_=>none
  | .makeFunc fn first ou=>match fn,first.toList with
      | .func f,[]=>mR st ou.toList fun ss=>(Ci ss).bind fun bs=>k (gA o (.fi f bs))
      |_,_=>none
  | .makeSlice T n m=>match E.code T with
      |some (.sl e)=>getInt st n fun n=>getInt st m fun m=>cond (decide (n=m)&&(decide (0≤n)&&decide (n≤(bT:Int))))
          (kL st (64*o.dst.getD 0) e .deep (List.replicate n.toNat (zero e)) fun r=>
            k { slot:=o.dst.map fun q=>(q,.c (.one (.h (64*o.dst.getD 0) r.ver 0 []))),roots:=[(64*o.dst.getD 0,.live r)] }) none
      |_=>none
  | .slice T x lo hi none=>fV st x fun
      | .v (.string s)=>cond (isStr (E.code T)) (fW st lo 0 fun l=>fW st hi s.size fun h=>
          cond (decide (0≤l)&&(decide (l≤h)&&decide (h≤(s.size:Int)))) (k (gA o (.v (.string (s.extract l.toNat h.toNat))))) none) none
      | .ro t xs=>(jb (E.code T)).bind fun e=>cond (Nat.beq (ar e) (ar t)) (fW st lo 0 fun l=>fW st hi xs.length fun h=>
          cond (decide (0≤l)&&(decide (l≤h)&&decide (h≤(xs.length:Int)))) (k (gA o (.ro t ((xs.take h.toNat).drop l.toNat)))) none) none
      | .h id ver _ []=>(jb (E.code T)).bind fun e=>kz st id ver fun r=>cond (Nat.beq (ar e) (ar r.t)) (fW st lo 0 fun l=>fW st hi r.xs.length fun h=>
          cond (decide (0≤l)&&(decide (l≤h)&&decide (h≤(r.xs.length:Int)))) (k (gA o (.vw id ver l.toNat h.toNat))) none) none
      |_=>none
  | .fieldAddr T x f=>(E.yq T f).bind fun (off,_)=>fV st x fun
      | .pt b a=>k (gA o (.pt b (a+off)))
      | .pe id ver iv p i a=>lp st id ver iv p fun _=>k (gA o (.pe id ver iv p i (a+off)))
      | .rp t y a=>k (gA o (.rp t y (a+off)))
      |_=>none
  | .field T x f=>(E.yq T f).bind fun (off,ft)=>(E.code ft).bind fun t=>dv st x fun
      | .c (.agg cs)=>cond (Nat.ble (off+ar t) cs.length) ((Cf t ((cs.drop off).take (ar t))).bind fun c=>k (put o (.c c))) none
      |_=>none
  | .indexAddr T x i=>fV st x fun c=>getInt st i fun i=>(jb (E.code T)).bind fun e=>match c with
      | .ro t xs=>cond (Nat.beq (ar e) (ar t)) (cond (decide (0≤i)&&decide (i<(xs.length:Int))) (k (gA o (.rp t (al xs i.toNat) 0))) none) none
      | .h id ver iv p=>lp st id ver iv p fun r=>cond (r.md.nodeAt p) ((sub r.t r.xs p).bind fun s=>cond (Nat.beq (ar e) (ar s.t))
          (cond (decide (0≤i)&&decide (i<(s.xs.length:Int))) (k (gA o (.pe id ver r.log.length p i.toNat 0))) none) none) none
      | .vw id ver lo hi=>kz st id ver fun r=>cond (Nat.beq (ar e) (ar r.t))
          (cond (decide (0≤i)&&decide (i<(((r.xs.take hi).drop lo).length:Int))) (k (gA o (.pe id ver r.log.length [] (lo+i.toNat) 0))) none) none
      |_=>none
  | .index T x i=>j9 st x fun x=>getInt st i fun i=>match E.code T,x with
      |some .str,.string s=>cond (decide (0≤i)&&decide (i<(s.size:Int))) (k (gA o (.v (.int .u8 (s.data.getD i.toNat 0).toNat)))) none
      |_,_=>none
  | .extract x i=>dv st x fun | .yZ vs=>(vs[i]?).bind fun c=>k (put o (.c c)) | _=>none
  | .call c=>match c.callee with
      | .builtin b=>eY E o b c st k
      | .value f=>fV st f fun
          | .fi fn bs=>mR st c.args.toList fun ss=>cond (Nat.beq c.argTypes.toList.length ss.length) (lq E o fn (c.argTypes.toList.zip ss++bs.map fun b=>(0,.c (.one (.pt b 0)))) st k) none
          | .pJ fn ys=>mR st c.args.toList fun ss=>cond (Nat.beq c.argTypes.toList.length ss.length) (lq E o fn (c.argTypes.toList.zip ss++ys.map fun y=>(0,.c (.one (.rp y.1 y.2 0)))) st k) none
          |_=>none
      | .invoke _ _=>none
  |_=>none
end ev
end Go.Gm
namespace Go.Gm
open Go
def aQ:(t:Ty)→List (El t)→Path→Option Sl
 |t,xs,[]=>some ⟨t,xs⟩
 |t,xs,(i,j)::p=>match xs[i]? with
  |some x=>match (enc t x)[j]? with
   |some (.l t' ys)=>aQ t' ys p
   |_=>none
  |none=>none
theorem bm{t:Ty}{xs:List (El t)}{i:Nat}{x:El t}(h:xs[i]? =some x):al xs i=x:=by
 simp[al,List.getD,h]
theorem dm{t:Ty}{xs:List (El t)}{i:Nat}(h:i<xs.length):xs[i]? =some (al xs i):=by
 simp[al,List.getD,List.getElem?_eq_getElem h]
theorem cW:∀{p:Path}{t:Ty}{xs:List (El t)}{s:Sl},aQ t xs p=some s→sub t xs p=some s
  | [],t,xs,s,h=>by simpa [aQ,sub] using h
  | (i,j)::p,t,xs,s,h=>by
    simp only[aQ] at h
    split at h
    · rename_i x hx
      simp only[sub,bm hx]
      split at h
      · rename_i t' ys hc;(try simp only[hc]);exact cW h
      · cases h
    · cases h
theorem ck:∀{p:Path}{t:Ty}{xs:List (El t)}{s:Sl}(q:Path),aQ t xs p=some s→aQ t xs (p++q)=aQ s.t s.xs q
  | [],t,xs,s,q,h=>by simp only[aQ,Option.some.injEq] at h;subst h;rfl
  | (i,j)::p,t,xs,s,q,h=>by
    simp only[aQ,List.cons_append] at h ⊢
    cases hx:xs[i]? with
    |none=>simp[hx] at h
    |some x=>
      simp only[hx] at h ⊢
      cases hc:(enc t x)[j]? with
      |none=>simp[hc] at h
      |some c=>
        simp only[hc] at h ⊢
        cases c with
        |v y=>simp at h
        |l t' ys=>exact ck q h
def qR:Value→Option Nat
 | .slice (some a) _ _=>some a.block
 |_=>none
def eI(c:Cv)(u k:Value):Prop:=match c with | .v x=>u=x | .l _ _=>u=k
def RowsIn(t:Ty)(ys:List (El t))(cs:Array Value)(o:Nat)(fH:Nat→Nat→Value):Prop:=
  ∀i y j c,ys[i]? =some y→(enc t y)[j]? =some c→∃u,cs[o+i*ar t+j]? =some u∧eI c u (fH i j)
def eJ(w:World)(P:Nat→Prop)(t:Ty)(ys:List (El t))(v:Value)(fH:Nat→Nat→Value):Prop:=
  ∃a cap,v = .slice a ys.length cap∧ys.length≤cap∧(ys≠[]→∃b o cs el fz,a=some ⟨b,o,none⟩∧P b∧w.heap[b]? =some (.cells cs el fz)∧RowsIn t ys cs o fH)
def bA(w:World)(F:Nat→Prop)(t:Ty)(ys:List (El t))(v:Value)(fH:Nat→Nat→Value):Prop:=
 (ys=[]∧v = .slice none 0 0)∨∃b o cap cs el,v = .slice (some ⟨b,o,none⟩) ys.length cap∧F b∧w.heap[b]? =some (.cells cs el (0,0))∧
    ys.length≤cap∧o+cap*ar t≤cs.size∧RowsIn t ys cs o fH
def ep(w:World)(P:Nat→Prop)(t:Ty)(xs:List (El t))(av:Path→Value):Prop:=
  ∀p s,aQ t xs p=some s→eJ w P s.t s.xs (av p) fun i j=>av (p++[(i,j)])
def a8(w:World)(F:Nat→Prop)(t:Ty)(xs:List (El t))(av:Path→Value):Prop:=
 (∀ p s,aQ t xs p=some s→bA w F s.t s.xs (av p) fun i j=>av (p++[(i,j)]))∧
  ∀p q s s' b,aQ t xs p=some s→aQ t xs q=some s'→qR (av p)=some b→qR (av q)=some b→p=q
def nx(w:World)(F RO:Nat→Prop)(t:Ty)(xs:List (El t))(av:Path→Value):Prop:=
 (bA w F t xs (av []) fun i j=>av [(i,j)])∧∀p s,p≠[]→aQ t xs p=some s→eJ w RO s.t s.xs (av p) fun i j=>av (p++[(i,j)])
def gC(w:World)(P:Nat→Prop)(t:Ty)(xs:List (El t))(v:Value):Prop:=∃av:Path→Value,av []=v∧ep w P t xs av
def pL(w:World)(P:Nat→Prop)(c:Cv)(u:Value):Prop:=match c with | .v x=>u=x | .l t xs=>gC w P t xs u
def jB(w:World)(F:Nat→Prop)(t:Ty)(xs:List (El t))(v:Value):Prop:=∃av:Path→Value,av []=v∧a8 w F t xs av
theorem bA.rd{w:World}{F:Nat→Prop}{t:Ty}{ys:List (El t)}{v:Value}{fH:Nat→Nat→Value}(h:bA w F t ys v fH):eJ w F t ys v fH:=by
 rcases h with ⟨rfl,rfl⟩ | ⟨b,o,cap,cs,el,rfl,hF,hb,hc,hs,hr⟩
 ·exact⟨none,0,rfl,Nat.le_refl _,fun h=>absurd rfl h⟩
 ·exact⟨_,cap,rfl,hc,fun _=>⟨b,o,cs,el,_,rfl,hF,hb,hr⟩⟩
theorem eJ.mono{w:World}{P Q:Nat→Prop}{t:Ty}{ys:List (El t)}{v:Value}{fH:Nat→Nat→Value}(zf:∀k,P k→Q k)(h:eJ w P t ys v fH):eJ w Q t ys v fH:=by
 obtain⟨a,cap,e,hle,h⟩:=h
 exact⟨a,cap,e,hle,fun hn=>let ⟨b,o,cs,el,fz,h1,h2,h3,h4⟩:=h hn;⟨b,o,cs,el,fz,h1,zf _ h2,h3,h4⟩⟩
theorem bA.mono{w:World}{P Q:Nat→Prop}{t:Ty}{ys:List (El t)}{v:Value}{fH:Nat→Nat→Value}(zf:∀k,P k→Q k)(h:bA w P t ys v fH):bA w Q t ys v fH:=by
 rcases h with h | ⟨b,o,cap,cs,el,h1,h2,h3⟩
 ·exact .inl h
 ·exact .inr ⟨b,o,cap,cs,el,h1,zf _ h2,h3⟩
theorem ep.mono{w:World}{P Q:Nat→Prop}{t:Ty}{xs:List (El t)}{av:Path→Value}(zf:∀k,P k→Q k)(h:ep w P t xs av):ep w Q t xs av:=
  fun p s hs=>(h p s hs).mono zf
theorem a8.mono{w:World}{P Q:Nat→Prop}{t:Ty}{xs:List (El t)}{av:Path→Value}(zf:∀k,P k→Q k)(h:a8 w P t xs av):a8 w Q t xs av:=
 ⟨fun p s hs=>(h.1 p s hs).mono zf,h.2⟩
theorem a8.rd{w:World}{F:Nat→Prop}{t:Ty}{xs:List (El t)}{av:Path→Value}(h:a8 w F t xs av):ep w F t xs av:=
  fun p s hs=>(h.1 p s hs).rd
theorem nx.rd{w:World}{F RO:Nat→Prop}{t:Ty}{xs:List (El t)}{av:Path→Value}(h:nx w F RO t xs av):ep w (fun k=>F k∨RO k) t xs av:=by
 intro p s hs
 by_cases hp:p=[]
 ·subst hp;simp only[aQ,Option.some.injEq] at hs;subst hs;exact h.1.rd.mono fun k=> .inl
 ·exact (h.2 p s hp hs).mono fun k=> .inr
theorem ep.at{w:World}{P:Nat→Prop}{t:Ty}{xs:List (El t)}{av:Path→Value}(h:ep w P t xs av){p:Path}{s:Sl}(hs:aQ t xs p=some s):
    ep w P s.t s.xs fun q=>av (p++q):=by
 intro q s' eK
 have:=h (p++q) s' (by rw[ck q hs];exact eK)
 simpa [List.append_assoc] using this
theorem gC.mono{w:World}{P Q:Nat→Prop}{t:Ty}{xs:List (El t)}{v:Value}(zf:∀k,P k→Q k)(h:gC w P t xs v):gC w Q t xs v:=
  let ⟨av,h0,h1⟩:=h;⟨av,h0,h1.mono zf⟩
theorem pL.mono{w:World}{P Q:Nat→Prop}{c:Cv}{u:Value}(zf:∀k,P k→Q k)(h:pL w P c u):pL w Q c u:=by
 cases c with
 |v x=>exact h
 |l t xs=>exact gC.mono zf h
def bD(X:Nat→Prop)(w w':World):Prop:=w.heap.size≤w'.heap.size∧∀b,b<w.heap.size→ ¬X b→w'.heap[b]? =w.heap[b]?
theorem bD.get{X:Nat→Prop}{w w':World}(h:bD X w w'){b:Nat}{o:Obj}(hb:w.heap[b]? =some o)(hx : ¬X b):w'.heap[b]? =some o:=by
 have bU:b<w.heap.size:=by
  rcases Nat.lt_or_ge b w.heap.size with h' | h'
  ·exact h'
  ·simp[Array.getElem?_eq_none h'] at hb
 rw[h.2 b bU hx];exact hb
theorem bD.refl(w:World):bD (fun _=>False) w w:=⟨Nat.le_refl _,fun _ _ _=>rfl⟩
theorem bD.trans{X Y Z:Nat→Prop}{a b c:World}(h:bD X a b)(k:bD Y b c)(hX:∀n,X n→Z n)(hY:∀n,n<a.heap.size→Y n→Z n):bD Z a c:=
 ⟨Nat.le_trans h.1 k.1,fun n hn hz=>(k.2 n (Nat.lt_of_lt_of_le hn h.1) fun hy=>hz (hY n hn hy)).trans (h.2 n hn fun hx=>hz (hX n hx))⟩
theorem eJ.same{w w':World}{X P:Nat→Prop}(hs:bD X w w')(hd:∀k,P k→ ¬X k){t:Ty}{ys:List (El t)}{v:Value}{fH:Nat→Nat→Value}
 (h:eJ w P t ys v fH):eJ w' P t ys v fH:=by
 obtain⟨a,cap,e,hle,h⟩:=h
 exact⟨a,cap,e,hle,fun hn=>let ⟨b,o,cs,el,fz,h1,h2,h3,h4⟩:=h hn;⟨b,o,cs,el,fz,h1,h2,hs.get h3 (hd _ h2),h4⟩⟩
theorem bA.same{w w':World}{X P:Nat→Prop}(hs:bD X w w')(hd:∀k,P k→ ¬X k){t:Ty}{ys:List (El t)}{v:Value}{fH:Nat→Nat→Value}
 (h:bA w P t ys v fH):bA w' P t ys v fH:=by
 rcases h with h | ⟨b,o,cap,cs,el,h1,h2,h3,h4⟩
 ·exact .inl h
 ·exact .inr ⟨b,o,cap,cs,el,h1,h2,hs.get h3 (hd _ h2),h4⟩
theorem ep.same{w w':World}{X P:Nat→Prop}(hs:bD X w w')(hd:∀k,P k→ ¬X k){t:Ty}{xs:List (El t)}{av:Path→Value}(h:ep w P t xs av):ep w' P t xs av:=
  fun p s hp=>(h p s hp).same hs hd
theorem a8.same{w w':World}{X P:Nat→Prop}(hs:bD X w w')(hd:∀k,P k→ ¬X k){t:Ty}{xs:List (El t)}{av:Path→Value}(h:a8 w P t xs av):a8 w' P t xs av:=
 ⟨fun p s hp=>(h.1 p s hp).same hs hd,h.2⟩
theorem nx.same{w w':World}{X F RO:Nat→Prop}(hs:bD X w w')(hd:∀k,F k→ ¬X k)(hr:∀k,RO k→ ¬X k){t:Ty}{xs:List (El t)}{av:Path→Value}(h:nx w F RO t xs av):nx w' F RO t xs av:=
 ⟨h.1.same hs hd,fun p s hp eK=>(h.2 p s hp eK).same hs hr⟩
theorem gC.same{w w':World}{X P:Nat→Prop}(hs:bD X w w')(hd:∀k,P k→ ¬X k){t:Ty}{xs:List (El t)}{v:Value}(h:gC w P t xs v):gC w' P t xs v:=
  let ⟨av,h0,h1⟩:=h;⟨av,h0,h1.same hs hd⟩
theorem pL.same{w w':World}{X P:Nat→Prop}(hs:bD X w w')(hd:∀k,P k→ ¬X k){c:Cv}{u:Value}(h:pL w P c u):pL w' P c u:=by
 cases c with
 |v x=>exact h
 |l t xs=>exact gC.same hs hd h
def uS:Cv→Cv→Prop
 | .v x,.v y=>x=y
 | .l t _,.l t' _=>t=t'
 |_,_=>False
theorem uS.refl(c:Cv):uS c c:=by cases c<;>rfl
def kM(s s':Sl):Prop:=s'.t=s.t∧s'.xs.length=s.xs.length∧
  ∀(i:Nat)(y':El s'.t)(j:Nat)(c':Cv),s'.xs[i]? =some y'→(enc s'.t y')[j]? =some c'→∃(y:El s.t)(c:Cv),s.xs[i]? =some y∧(enc s.t y)[j]? =some c∧uS c c'
theorem kM.refl(s:Sl):kM s s:=⟨rfl,rfl,fun _ y' _ c' h h'=>⟨y',c',h,h',.refl _⟩⟩
theorem kM.rows{s s':Sl}(h:kM s s'){cs:Array Value}{o:Nat}{fH:Nat→Nat→Value}(hr:RowsIn s.t s.xs cs o fH):RowsIn s'.t s'.xs cs o fH:=by
 obtain⟨ht,_,h⟩:=h
 intro i y' j c' hy hc
 obtain⟨y,c,h1,h2,h3⟩:=h i y' j c' hy hc
 obtain⟨u,hu,lr⟩:=hr i y j c h1 h2
 refine⟨u,by rw[ht];exact hu,?_⟩
 cases c<;>cases c'<;>simp_all [uS,eI]
theorem kM.own{w:World}{F:Nat→Prop}{s s':Sl}(h:kM s s'){v:Value}{fH:Nat→Nat→Value}(ho:bA w F s.t s.xs v fH):bA w F s'.t s'.xs v fH:=by
 have hl:=h.2.1
 rcases ho with ⟨h1,h2⟩ | ⟨b,o,cap,cs,el,h1,h2,h3,h4,h5,h6⟩
 ·exact .inl ⟨by rw[h1] at hl;exact List.length_eq_zero_iff.1 hl,h2⟩
 ·exact .inr ⟨b,o,cap,cs,el,by rw[hl];exact h1,h2,h3,by rw[hl];exact h4,by rw[h.1];exact h5,h.rows h6⟩
theorem kM.rd{w:World}{F:Nat→Prop}{s s':Sl}(h:kM s s'){v:Value}{fH:Nat→Nat→Value}(ho:eJ w F s.t s.xs v fH):eJ w F s'.t s'.xs v fH:=by
 have hl:=h.2.1
 obtain⟨a,cap,e,hle,hh⟩:=ho
 refine⟨a,cap,by rw[hl];exact e,by rw[hl];exact hle,fun hn=> ?_⟩
 obtain⟨b,o,cs,el,fz,h1,h2,h3,h4⟩:=hh (fun h0=>hn (by rw[h0] at hl;exact List.length_eq_zero_iff.1 hl))
 exact⟨b,o,cs,el,fz,h1,h2,h3,h.rows h4⟩
theorem lu:∀{p:Path}{t:Ty}{xs zs:List (El t)}{s s':Sl},aQ t xs p=some s→dz t xs p s'=some zs→
    ∀q Ea,aQ t zs q=some Ea→(∃ q',q=p++q'∧aQ s'.t s'.xs q'=some Ea)∨(¬ p <+: q∧∃s2,aQ t xs q=some s2∧kM s2 Ea)
  | [],t,xs,zs,s,s',h,hz,q,Ea,hq=>by
    simp only[dz] at hz
    have:=c8 hz
    simp only[enc,List.cons.injEq,and_true] at this
    cases s' with | mk t' xs'=>cases this;exact .inl ⟨q,rfl,hq⟩
  | (i,j)::p,t,xs,zs,s,s',h,hz,q,Ea,hq=>by
    simp only[aQ] at h
    split at h
    case h_2=>cases h
    rename_i x hx
    split at h
    case h_2=>cases h
    rename_i t1 ys hc
    simp only[dz,bm hx,hc,Option.bind_eq_some_iff,Option.some.injEq] at hz
    obtain⟨z1,Ep,y,hy,rfl⟩:=hz
    have IE:=c8 hy
    have bU:i<xs.length:=by
      rcases Nat.lt_or_ge i xs.length with h' | h'
      · exact h'
      · simp[List.getElem?_eq_none h'] at hx
    have hj:j<(enc t x).length:=by
      rcases Nat.lt_or_ge j (enc t x).length with h' | h'
      · exact h'
      · simp[List.getElem?_eq_none h'] at hc
    cases q with
    |nil=>
      refine .inr ⟨by simp,⟨t,xs⟩,rfl,?_⟩
      simp only[aQ,Option.some.injEq] at hq
      subst hq
      refine⟨rfl,by simp,fun i' y' j' c' WZ tD=> ?_⟩
      by_cases qW:i=i'
      · subst qW
        simp only[List.getElem?_set_self bU,Option.some.injEq] at WZ
        subst WZ
        rw[← IE] at tD
        by_cases KE:j=j'
        · subst KE
          simp only[List.getElem?_set_self hj,Option.some.injEq] at tD
          subst tD
          exact⟨x,_,hx,hc,rfl⟩
        · rw[List.getElem?_set_ne KE] at tD
          exact⟨x,c',hx,tD,.refl _⟩
      · simp only[List.getElem?_set_ne qW] at WZ
        exact⟨y',c',WZ,tD,.refl _⟩
    |cons ij q=>
      obtain⟨i',j'⟩:=ij
      simp only[aQ] at hq
      by_cases qW:i=i'
      · subst qW
        simp only[List.getElem?_set_self bU,←IE] at hq
        by_cases KE:j=j'
        · subst KE
          simp only[List.getElem?_set_self hj] at hq
          rcases lu h Ep q Ea hq with ⟨q',rfl,h'⟩ | ⟨hn,s2,uj,uk⟩
          · exact .inl ⟨q',rfl,h'⟩
          · refine .inr ⟨by simpa using hn,s2,?_,uk⟩
            simp only[aQ,hx,hc];exact uj
        · rw[List.getElem?_set_ne KE] at hq
          refine .inr ⟨by simp[KE],Ea,?_,.refl _⟩
          simp only[aQ,hx];exact hq
      · simp only[List.getElem?_set_ne qW] at hq
        refine .inr ⟨by simp[qW],Ea,?_,.refl _⟩
        simp only[aQ];exact hq
structure Fx where
 sz:Nat
 r0:Nat→Prop
 /-- The world as it was at the very start. -/
 wl:World
structure Gh where
 rv:Nat→Path→Value
 rf:Nat→Nat→Prop
 bx:Nat→Nat
 ro:Nat→Prop
 n:Fx
def Vd(st:St)(id ver iv:Nat)(p:Path)(r:cC):Prop:=au st.roots id=some (.live r)∧r.ver=ver∧ja r iv p=true
def Vx(st:St)(id ver iv:Nat)(p:Path)(r:cC):Prop:=(au st.roots id=some (.live r)∨au st.roots id=some (.dq r))∧r.ver=ver∧ja r iv p=true
theorem Vd.x{st:St}{id ver iv:Nat}{p:Path}{r:cC}(h:Vd st id ver iv p r):Vx st id ver iv p r:=⟨.inl h.1,h.2⟩
theorem Vx.is{st:St}{id ver iv:Nat}{p:Path}{r ro:cC}(h:Vx st id ver iv p r)(hv:au st.roots id=some (.live ro)):r=ro:=by
 rcases h.1 with h | h<;>simp[hv] at h
 exact h.symm
def cL(st:St)(id ver iv:Nat):Prop:=
  match au st.roots id with
 |some (.live r)=>ver<r.ver∨(ver=r.ver∧iv≤r.log.length)
 |some (.dq r)=>ver<r.ver∨(ver=r.ver∧iv≤r.log.length)
 |some (.gone v)=>ver≤v
 |none=>False
def mn(sz:Nat)(v:Value)(lo hi:Nat):Value:=
  match v with
 | .slice a _ cap=> .slice (if cap=lo then a else a.map (·.add (lo*sz))) (hi-lo) (cap-lo)
 |v=>v
def jC(w:World)(P:Nat→Prop)(t:Ty)(x:El t)(off:Nat)(u:Value):Prop:=
  ∃b o cs el fz,u = .pointer (some ⟨b,o+off,none⟩)∧P b∧w.heap[b]? =some (.cells cs el fz)∧∀(j:Nat) c,(enc t x)[j]? =some c→∃z,cs[o+j]? =some z∧pL w P c z
def Kl(wl:World)(t:Ty)(xs:List (El t))(u:Value):Prop:=gC wl (fun _=>True) t xs u
def mO(w:World)(g:Gh)(st:St):Sc→Value→Prop
 | .v x,u=>u=x
 | .nl,u=>u = .slice none 0 0
 | .ro t xs,u=>gC w g.ro t xs u
 | .h id ver iv p,u=>cL st id ver iv∧∀r,Vx st id ver iv p r→u=g.rv id p∧(aQ r.t r.xs p).isSome
 | .vw id ver lo hi,u=>cL st id ver 0∧∀r,Vx st id ver 0 [] r→lo≤hi∧hi≤r.xs.length∧u=mn (ar r.t) (g.rv id []) lo hi
 | .pt b off,u=>u = .pointer (some ⟨g.bx b,off,none⟩)∧(au st.boxes b).isSome
 | .pe id ver iv p i off,u=>cL st id ver iv∧∀r,Vx st id ver iv p r→∃s b o n cap,aQ r.t r.xs p=some s∧i<s.xs.length∧
   g.rv id p = .slice (some ⟨b,o,none⟩) n cap∧u = .pointer (some ⟨b,o+i*ar s.t+off,none⟩)
 | .rp t x off,u=>jC w g.ro t x off u
 | .fi fn bs,u=>u = .func (.func fn) #[] (bs.map fun b=>Value.pointer (some ⟨g.bx b,0,none⟩)).toArray∧∀b∈bs,(au st.boxes b).isSome
 | .pJ fn ys,u=>∃ps:List Value,u = .func (.func fn) #[] ps.toArray∧ps.length=ys.length∧∀(i:Nat)(y:Σ t:Ty,El t)(q:Value),ys[i]? =some y→ps[i]? =some q→jC w g.ro y.1 y.2 0 q
 | .rk t xs,u=>Kl g.n.wl t xs u
 | .dead,_=>True
def bg(w:World)(g:Gh)(st:St)(c:Sc)(u:Value):Prop:=cR u=true∧mO w g st c u
def cJ(w:World)(g:Gh)(st:St)(cs:List Sc)(us:Array Value):Prop:=
  us.size=cs.length∧∀(j:Nat) c,cs[j]? =some c→∃z,us[j]? =some z∧bg w g st c z
def jc(w:World)(g:Gh)(st:St):Cm→Value→Prop
 | .one c,u=>bg w g st c u
 | .agg cs,u=>∃us,u = .agg us∧cJ w g st cs us
def dO(w:World)(g:Gh)(st:St):Sv→Value→Prop
 | .c x,u=>jc w g st x u
 | .yZ vs,u=>∃us:Array Value,u = .tuple us∧us.size=vs.length∧∀(j:Nat) x,vs[j]? =some x→∃z,us[j]? =some z∧jc w g st x z
def Ym(w:World)(g:Gh)(st:St)(b:Nat)(x:Bx):Prop:=
  ∃us el,w.heap[g.bx b]? =some (.cells us el (0,0))∧cJ w g st x.cs us
def cX(w:World)(F:Nat→Prop)(k:Pt)(t:Ty)(xs:List (El t))(av:Path→Value):Prop:=
 (∀ p s,k.nodeAt p=true→aQ t xs p=some s→bA w F s.t s.xs (av p) fun i j=>av (p++[(i,j)]))∧
 (∀ p q s s' n,k.nodeAt p=true→k.nodeAt q=true→aQ t xs p=some s→aQ t xs q=some s'→qR (av p)=some n→qR (av q)=some n→p=q)∧
  ∀p s,aQ t xs p=some s→cR (av p)=true
theorem cX.same{w w':World}{X F:Nat→Prop}(hs:bD X w w')(hd:∀k,F k→ ¬X k){a:Pt}{t:Ty}{xs:List (El t)}{av:Path→Value}(h:cX w F a t xs av):cX w' F a t xs av:=
 ⟨fun p s h1 hp=>(h.1 p s h1 hp).same hs hd,h.2⟩
theorem cX.mono{w:World}{P Q:Nat→Prop}{a:Pt}{t:Ty}{xs:List (El t)}{av:Path→Value}(zf:∀k,P k→Q k)(h:cX w P a t xs av):cX w Q a t xs av:=
 ⟨fun p s h1 hs=>(h.1 p s h1 hs).mono zf,h.2⟩
theorem bA.flat{w:World}{F:Nat→Prop}{t:Ty}{ys:List (El t)}{v:Value}{fH:Nat→Nat→Value}(h:bA w F t ys v fH):cR v=true:=by
 rcases h with ⟨_,rfl⟩ | ⟨b,o,cap,cs,el,rfl,_⟩<;>rfl
theorem a8.part{w:World}{F:Nat→Prop}{t:Ty}{xs:List (El t)}{av:Path→Value}(h:a8 w F t xs av)(a:Pt):cX w F a t xs av:=
 ⟨fun p s _ hs=>h.1 p s hs,fun p q s s' k _ _=>h.2 p q s s' k,fun p s hs=>(h.1 p s hs).flat⟩
theorem eX{a b i j:Nat}:ov a b i j=true↔a<i∨(a=i∧b≤j):=by
 simp only[ov,Bool.or_eq_true,Bool.and_eq_true,Nat.blt_eq,Nat.beq_eq,Nat.ble_eq]
theorem lS{a b a' b':Nat}(h:ov a b a' b'=true):∀{p:Path},(Pt.cur a' b').nodeAt p=true→(Pt.cur a b).nodeAt p=true
  | [],_=>rfl
  | (i,j)::p,hp=>by
    simp only[Pt.nodeAt] at hp ⊢
    rw[eX] at *
    omega
theorem cX.on{w:World}{F:Nat→Prop}{a b a' b':Nat}(hl:ov a b a' b'=true){t:Ty}{xs:List (El t)}{av:Path→Value}(h:cX w F (.cur a b) t xs av):cX w F (.cur a' b') t xs av:=
 ⟨fun p s h1 hs=>h.1 p s (lS hl h1) hs,fun p q s s' k h1 h2=>h.2.1 p q s s' k (lS hl h1) (lS hl h2),h.2.2⟩
theorem Az:∀{p q:Path},za p q=true↔p=q
  | [],[]=>by simp[za]
  | [],_::_=>by simp[za]
  |_::_,[]=>by simp[za]
  | (a,b)::p,(c,d)::q=>by
    have ih:= @Az p q
    simp only[za,Bool.and_eq_true,Nat.beq_eq,ih,List.cons.injEq,Prod.mk.injEq,and_assoc]
theorem zg:∀{p q:Path},vj p q=true↔p <+: q
  | [],q=>by simp[vj]
  |_::_,[]=>by simp[vj]
  | (a,b)::p,(c,d)::q=>by
    have ih:= @zg p q
    simp only[vj,Bool.and_eq_true,Nat.beq_eq,ih,List.cons_prefix_cons,Prod.mk.injEq,and_assoc]
theorem jd{p:Path}(hp:p≠[]){q:Path}:(Pt.hole p).nodeAt q=true↔ ¬p <+: q:=by
 cases q with
 |nil=>simp[Pt.nodeAt,hp]
 |cons x q=>
  show (!(vj p (x::q)))=true↔_
  rw[← zg];simp
theorem tE(k:Pt)(p:Path):(Md.part k).nodeAt p=k.nodeAt p:=by
 cases p with
 |nil=>cases k<;>rfl
 |cons x p=>rfl
def aV(w:World)(g:Gh)(id:Nat)(r:cC):Prop:=
  match r.md with
 | .deep=>a8 w (g.rf id) r.t r.xs (g.rv id)
 | .n6=>nx w (g.rf id) g.ro r.t r.xs (g.rv id)
 | .B5=>ep w g.ro r.t r.xs (g.rv id)
 | .part k=>cX w (g.rf id) k r.t r.xs (g.rv id)
def aS(st:St)(id:Nat):Prop:=∃r,au st.roots id=some (.live r)∧r.md.cr=false
def bB(st:St)(b:Nat):Prop:=(au st.boxes b).isSome
structure acF (w0 w:World) (Mf:Nat→Prop) (g:Gh) (st:St):Prop where
 rr:∀id aJ k,aS st id→aS st aJ→g.rf id k→g.rf aJ k→id=aJ
 rb:∀id b,aS st id→bB st b→ ¬g.rf id (g.bx b)
 bb:∀b b',bB st b→bB st b'→g.bx b=g.bx b'→b=b'
 eu:∀id k,aS st id→g.rf id k→ ¬g.ro k
 gD:∀b,bB st b→ ¬g.ro (g.bx b)
 cp:∀id k,aS st id→g.rf id k→w0.heap.size≤k∨Mf k
 dL:∀b,bB st b→w0.heap.size≤g.bx b∨Mf (g.bx b)
 ew:∀id k,aS st id→g.rf id k→k<w.heap.size
 db:∀k,g.ro k→k<w.heap.size
 bY:∀k,g.ro k→g.n.r0 k∨w0.heap.size≤k∨Mf k
structure Kept (w0 w:World) (Mf:Nat→Prop):Prop where
 os:w.os=w0.os
 tape:w.tape=w0.tape
 output:w.output=w0.output
 same:bD Mf w0 w
structure acG (w0:World) (Mf:Nat→Prop) (g:Gh):Prop where
 wl:∀b o,g.n.wl.heap[b]? =some o→g.n.r0 b∧w0.heap[b]? =some o
 ap:∀k,g.n.r0 k→ ¬Mf k
 ro:∀k,g.n.r0 k→g.ro k
structure Inv (w0:World) (Mf:Nat→Prop) (g:Gh) (st:St) (a:Act) (w:World):Prop where
 ay:∀s sv,au st.ay s=some sv→∃u,a.tmps[s]? =some u∧dO w g st sv u
 boxes:∀b x,au st.boxes b=some x→Ym w g st b x
 roots:∀id r,au st.roots id=some (.live r)→aV w g id r
 apart:acF w0 w Mf g st
 kept:Kept w0 w Mf
 defers:a.defers=[]
 size:a.tmps.size=g.n.sz
 base:acG w0 Mf g
def Form(t:Ty)(u:Value)(us:Array Value):Prop:=if iZ t then u = .agg us else us = #[u]∧cR u=true
def Cj(w:World)(P:Nat→Prop)(cs:List Cv)(us:Array Value):Prop:=us.size=cs.length∧∀(j:Nat) c,cs[j]? =some c→∃z,us[j]? =some z∧pL w P c z
def gX(w:World)(F:Nat→Prop)(c:Cv)(u:Value):Prop:=match c with | .v x=>u=x | .l t xs=>jB w F t xs u
def mo(w:World)(F:Nat→Prop)(cs:List Cv)(us:Array Value):Prop:=
  ∃Fs:Nat→Nat→Prop,(∀ j k,Fs j k→F k)∧(∀ j j' k,Fs j k→Fs j' k→j=j')∧us.size=cs.length∧∀(j:Nat) c,cs[j]? =some c→∃z,us[j]? =some z∧gX w (Fs j) c z
def ox(w:World)(P:Nat→Prop)(t:Ty)(x:El t)(u:Value):Prop:=∃us,Form t u us∧Cj w P (enc t x) us
def je(w:World)(F:Nat→Prop)(t:Ty)(x:El t)(u:Value):Prop:=∃us,Form t u us∧mo w F (enc t x) us
def CKl(wl:World)(c:Cv)(u:Value):Prop:=match c with | .v x=>u=x | .l t xs=>Kl wl t xs u
def GJ(wl:World)(cs:List Cv)(us:Array Value):Prop:=us.size=cs.length∧∀(j:Nat) c,cs[j]? =some c→∃z,us[j]? =some z∧CKl wl c z
def W3(wl:World)(t:Ty)(x:El t)(u:Value):Prop:=∃us,Form t u us∧GJ wl (enc t x) us
def vm(wl:World)(sh:Bool)(w:World)(F:Nat→Prop)(cs:List Cv)(us:Array Value):Prop:=match sh with | true=>GJ wl cs us | false=>mo w F cs us
def vn(wl w:World)(F:Nat→Prop)(t:Ty)(x:El t)(u:Value):Prop:=
  ∃b us el,u = .pointer (some ⟨b,0,none⟩)∧F b∧w.heap[b]? =some (.cells us el (0,0))∧vm wl (shr t) w (fun k=>F k∧k≠b) (enc t x) us
def vp(wl w:World)(ROa:Nat→Prop):Am→Dt→Value→(Nat→Prop)→Prop
 | .ro,.d t x,u,_=>ox w ROa t x u
 | .oh,.d t x,u,F=>je w F t x u
 | .mut,.d t x,u,F=>∃e xs,(⟨t,x⟩:Σ t,El t)=⟨.sl e,xs⟩∧jB w F e xs u
 | .D',.d t x,u,_=>jC w ROa t x 0 u
 | .bG,.d t x,u,F=>vn wl w F t x u
 | .kp,.d t x,u,_=>W3 wl t x u
 | .SO,_,u,_=>cR u=true
 | .fn,.fi fn ys,u,_=>∃ps:List Value,u = .func (.func fn) #[] ps.toArray∧ps.length=ys.length∧∀(i:Nat)(y:Σ t:Ty,El t)(q:Value),ys[i]? =some y→ps[i]? =some q→jC w ROa y.1 y.2 0 q
 |_,_,_,_=>False
inductive cP (wl w:World) (ROa:Nat→Prop):List Am→List Dt→List Value→List (Nat→Prop)→Prop where
 | nil:cP wl w ROa [] [] [] []
 | cons {m ms d ds u us F Fs} (h:vp wl w ROa m d u F) (hs:cP wl w ROa ms ds us Fs):cP wl w ROa (m::ms) (d::ds) (u::us) (F::Fs)
inductive ey (wl w:World):List Am→List Dt→List Value→List Dt→List (Nat→Prop)→Prop where
 | nil:ey wl w [] [] [] [] []
 |skip {m ms d qq u us ds Fs} (h:match m with | .mut=>False | .bG=>False | _=>True) (hs:ey wl w ms qq us ds Fs):ey wl w (m::ms) (d::qq) (u::us) ds Fs
 | mut {ms d qq u us t xs ds F Fs} (h:jB w F t xs u) (hs:ey wl w ms qq us ds Fs):ey wl w (.mut::ms) (d::qq) (u::us) (.d (.sl t) xs::ds) (F::Fs)
 | bG {ms t0 x0 qq u us t x ds F Fs} (h:vn wl w F t x u) (ht:ar t=ar t0) (hs:ey wl w ms qq us ds Fs):ey wl w (.bG::ms) (.d t0 x0::qq) (u::us) (.d t x::ds) (F::Fs)
inductive iB (wl w:World) (own:Bool):List Bool→List Dt→List Value→List (Nat→Prop)→Prop where
 | nil:iB wl w own [] [] [] []
 | val {ps t x ds u us F Fs} (h:if own then je w F t x u else ox w F t x u) (hs:iB wl w own ps ds us Fs):iB wl w own (false::ps) (.d t x::ds) (u::us) (F::Fs)
 | ptr {ps t x ds u us F Fs} (h:own=true∧vn wl w F t x u) (hs:iB wl w own ps ds us Fs):iB wl w own (true::ps) (.d t x::ds) (u::us) (F::Fs)
def vq:List Value→Value
 | [v]=>v
 |vs=> .tuple vs.toArray
def bS(Fs:List (Nat→Prop)):Prop:=Fs.Pairwise fun F G=>∀k,F k→G k→False
structure pV (wl w w':World) (Mf ROa:Nat→Prop) (s:Spec) (ds:List Dt) (us:List Value) (outs:List Dt) (e:Ending):Prop where
 out:∃rs Gs Bs,e = .returned (vq rs)∧iB wl w' s.own s.res (outs.take s.res.length) rs Gs∧ey wl w' s.bR ds us (outs.drop s.res.length) Bs∧
  bS Bs∧(∀ B∈Bs,∀k,B k→Mf k∨w.heap.size≤k)∧
  (s.own=true→bS Gs∧(∀ G∈Gs,∀k,G k→Mf k∨w.heap.size≤k))∧
  (s.own=false→∀G∈Gs,∀k,G k→(ROa k∨w.heap.size≤k))∧
  (∀ G∈Gs,∀B∈Bs,∀k,G k→B k→False)∧
  (∀ G∈Gs,∀k,G k→k<w'.heap.size)∧(∀ B∈Bs,∀k,B k→k<w'.heap.size)
 kept:Kept w w' Mf
def zh:List Nat→List Value→List Value
  | [],us=>us
  |0::sh,u::us=>u::zh sh us
  |0::_,[]=>[]
  | (n+1)::sh,us=> .agg (us.take (n+1)).toArray::zh sh (us.drop (n+1))
def yy(P:Program)(wl:World):Prop:=wl.ShapedOpen P
def Er(wl w:World)(ROa:Nat→Prop):Prop:=∀b o,wl.heap[b]? =some o→ROa b∧w.heap[b]? =some o
def bW(P:Program)(f:Nat)(s:Spec):Prop:=
  ∀{R:Type}(ds:List Dt)(k:Kt R)(r:R),s.fn ds k=some r→
    ∀(wl w:World)(us:List Value)(Mf ROa:Nat→Prop)(Fs:List (Nat→Prop)),yy P wl→Er wl w ROa→cP wl w ROa s.bR ds us Fs→bS Fs→(∀ F∈Fs,∀k,F k→Mf k)→
 (∀ k,ROa k→ ¬Mf k)→(∀ k,ROa k→k<w.heap.size)→(∀ k,Mf k→k<w.heap.size)→
      Calls P f (zh s.shape us).toArray w fun e w'=>∃outs,k outs=some r∧pV wl w w' Mf ROa s ds us outs e
theorem aT{α β:Type}{o:Option α}{k:α→Option β}{r:β}(h:o.bind k=some r):∃a,o=some a∧k a=some r:=Option.bind_eq_some_iff.1 h
theorem W4{β:Type}{b:Bool}{x:Option β}{r:β}(h:cond b none x=some r):b=false∧x=some r:=by cases b<;>simp_all
theorem bh{β:Type}{b:Bool}{x:Option β}{r:β}(h:cond b x none=some r):b=true∧x=some r:=by cases b<;>simp_all
theorem iC{a b:Nat}(h:Nat.beq a b=true):a=b:=Nat.eq_of_beq_eq_true h
theorem SQ{a b:Nat}(h:a≠b):Nat.beq a b=false:=by
 cases h':Nat.beq a b
 ·rfl
 ·exact absurd (iC h') h
theorem iD{a b:Nat}(h:Nat.ble a b=true):a≤b:=Nat.le_of_ble_eq_true h
section assoc
variable {α : Type}
theorem aH(l:List (Nat×α))(n:Nat)(v:α)(m:Nat):au (bd l n v) m=if m=n then some v else au l m:=by
 induction l with
 |nil=>
  by_cases h:m=n
  ·subst h;simp[bd,au,Nat.beq_refl]
  ·have:Nat.beq m n=false:=SQ h
   simp[bd,au,this,h]
 |cons kv l ih=>
  obtain⟨k,u⟩:=kv
  simp only[bd]
  cases hnk:Nat.beq n k
  ·simp only[cond_false]
   cases bU:Nat.blt n k
   ·simp only[cond_false,au,ih]
    by_cases SC:m=n
    ·subst SC;simp[hnk]
    ·simp[SC]
   ·simp only[cond_true,au]
    by_cases SC:m=n
    ·subst SC;simp[Nat.beq_refl]
    ·have:Nat.beq m n=false:=SQ SC
     simp[this,SC]
  ·have hk:=iC hnk
   subst hk
   simp only[cond_true,au]
   by_cases SC:m=n
   ·subst SC;simp[Nat.beq_refl]
   ·have:Nat.beq m n=false:=SQ SC
    simp[this,SC]
theorem bo(l:List (Nat×α))(n:Nat)(v:α):au (bd l n v) n=some v:=by simp[aH]
theorem b6(l:List (Nat×α)){n m:Nat}(v:α)(h:m≠n):au (bd l n v) m=au l m:=by simp[aH,h]
end assoc
variable {R : Type} {w0 w : World} {Mf : Nat → Prop} {g : Gh} {st : St} {a : Act}
theorem nV{v:Value}{c:Sc}(h:k6 v=some c):bg w g st c v:=by
 unfold k6 at h
 split at h<;>simp only[Option.some.injEq,reduceCtorEq] at h<;>subst h<;>exact⟨rfl,rfl⟩
theorem mS:∀{vs:List Value}{cs:List Sc},iA vs=some cs→vs.length=cs.length∧∀(j:Nat) c,cs[j]? =some c→∃z,vs[j]? =some z∧bg w g st c z
 | [],cs,h=>by simp only[iA,Option.some.injEq] at h;subst h;simp
 |v::vs,cs,h=>by
  simp only[iA] at h
  obtain⟨c,hc,h⟩:=aT h
  obtain⟨sK,fq,h⟩:=aT h
  simp only[Option.some.injEq] at h;subst h
  obtain⟨h1,h2⟩:=mS fq
  refine⟨by simp[h1],fun j c' hj=> ?_⟩
  cases j with
  |zero=>simp only[List.getElem?_cons_zero,Option.some.injEq] at hj;subst hj;exact⟨v,rfl,nV hc⟩
  |succ j=>simpa using h2 j c' (by simpa using hj)
theorem yz{v:Value}{s:Sv}(h:pf v=some s):dO w g st s v:=by
 unfold pf at h
 split at h
 ·rename_i cs
  obtain⟨l,hl,h⟩:=aT h
  simp only[Option.some.injEq] at h;subst h
  obtain⟨h1,h2⟩:=mS (w:=w) (g:=g) (st:=st) hl
  exact⟨cs,rfl,by simpa using h1,fun j c hj=>by simpa using h2 j c hj⟩
 ·obtain⟨c,hc,h⟩:=aT h
  simp only[Option.some.injEq] at h;subst h
  exact nV hc
theorem Inv.dv(I:Inv w0 Mf g st a w){x:Operand}{k:Sv→Option R}{r:R}(h:dv st x k=some r):
    ∃s,k s=some r∧dO w g st s (a.eval x):=by
 cases x with
 |tmp t=>
  obtain⟨s,hs,hk⟩:=aT h
  obtain⟨u,hu,hr⟩:=I.ay t s hs
  exact⟨s,hk,by simpa [Act.eval,Array.getD_eq_getD_getElem?,hu] using hr⟩
 |const v=>
  obtain⟨s,hs,hk⟩:=aT h
  exact⟨s,hk,yz hs⟩
 |func f=>exact⟨_,h,rfl,rfl,by simp⟩
 |global n=>cases h
theorem Inv.kro(I:Inv w0 Mf g st a w){t:Ty}{xs:List (El t)}{u:Value}(h:Kl g.n.wl t xs u):gC w g.ro t xs u:=by
 obtain⟨av,h0,h1⟩:=h
 refine⟨av,h0,fun p s hs=> ?_⟩
 obtain⟨ad,cap,e,hle,hh⟩:=h1 p s hs
 refine⟨ad,cap,e,hle,fun hn=> ?_⟩
 obtain⟨b,o,cs,el,fz,e1,_,e3,e4⟩:=hh hn
 obtain⟨h2,h3⟩:=I.base.wl b _ e3
 exact⟨b,o,cs,el,fz,e1,I.base.ro b h2,I.kept.same.get h3 (I.base.ap b h2),e4⟩
theorem Inv.fV(I:Inv w0 Mf g st a w){x:Operand}{k:Sc→Option R}{r:R}(h:fV st x k=some r):
    ∃c,k c=some r∧bg w g st c (a.eval x):=by
 obtain⟨s,hk,hs⟩:=I.dv h
 split at hk
 ·rename_i c
  refine⟨_,hk,?_⟩
  cases c with
  |rk t xs=>exact⟨hs.1,I.kro hs.2⟩
  |_=>exact hs
 ·cases hk
theorem Inv.j9(I:Inv w0 Mf g st a w){x:Operand}{k:Value→Option R}{r:R}(h:j9 st x k=some r):
 k (a.eval x)=some r∧cR (a.eval x)=true:=by
 obtain⟨c,hk,hc⟩:=I.fV h
 split at hk
 ·rename_i u
  have:=hc.2
  simp only[mO] at this
  rw[this];exact⟨hk,by rw[← this];exact hc.1⟩
 ·cases hk
theorem Inv.getBool(I:Inv w0 Mf g st a w){x:Operand}{k:Bool→Option R}{r:R}(h:getBool st x k=some r):
    ∃b,k b=some r∧a.eval x = .bool b:=by
 have:=(I.j9 h).1
 split at this
 ·rename_i b he;exact⟨b,this,he⟩
 ·cases this
theorem Inv.getInt(I:Inv w0 Mf g st a w){x:Operand}{k:Int→Option R}{r:R}(h:getInt st x k=some r):
    ∃n,k n=some r∧a.eval x = .int .i64 n:=by
 have:=(I.j9 h).1
 split at this
 ·rename_i b he;exact⟨b,this,he⟩
 ·cases this
def GK(a:Act)(x:Option Operand)(d n:Int):Prop:=match x with | none=>n=d | some x=>a.eval x = .int .i64 n
theorem Inv.fW(I:Inv w0 Mf g st a w){x:Option Operand}{d:Int}{k:Int→Option R}{r:R}(h:fW st x d k=some r):
    ∃n,k n=some r∧GK a x d n:=by
 cases x with
 |none=>exact⟨d,h,rfl⟩
 |some x=>exact I.getInt h
theorem Inv.mR(I:Inv w0 Mf g st a w):∀{xs:List Operand}{k:List Sv→Option R}{r:R},mR st xs k=some r→
    ∃ss,k ss=some r∧ss.length=xs.length∧∀(j:Nat) s,ss[j]? =some s→∃x,xs[j]? =some x∧dO w g st s (a.eval x)
 | [],k,r,h=>⟨[],h,rfl,by simp⟩
 |x::xs,k,r,h=>by
  obtain⟨s,hk,hs⟩:=I.dv h
  obtain⟨ss,tF,hl,hr⟩:=I.mR hk
  refine⟨s::ss,tF,by simp[hl],fun j s' hj=> ?_⟩
  cases j with
  |zero=>simp only[List.getElem?_cons_zero,Option.some.injEq] at hj;subst hj;exact⟨x,rfl,hs⟩
  |succ j=>simpa using hr j s' (by simpa using hj)
theorem di{id ver:Nat}{k:cC→Option R}{r:R}(h:kz st id ver k=some r):∃ro,au st.roots id=some (.live ro)∧ro.ver=ver∧k ro=some r:=by
 unfold kz at h
 split at h
 ·rename_i ro dj
  obtain⟨h1,h2⟩:=bh h
  exact⟨ro,dj,iC h1,h2⟩
 ·cases h
theorem de{id ver iv:Nat}{p:Path}{k:cC→Option R}{r:R}(h:lp st id ver iv p k=some r):∃ro,Vd st id ver iv p ro∧k ro=some r:=by
 obtain⟨ro,h1,h2,h3⟩:=di h
 obtain⟨h4,h5⟩:=bh h3
 exact⟨ro,⟨h1,h2,h4⟩,h5⟩
theorem Vd.root{id ver iv:Nat}{p:Path}{r:cC}(h:Vd st id ver iv p r):au st.roots id=some (.live r):=h.1
theorem ig(r:cC)(iv:Nat):ja r iv []=true:=by simp[ja,Nat.ble]
def Rdb(g:Gh)(st:St)(k:Nat):Prop:=g.ro k∨∃id,aS st id∧g.rf id k
theorem Inv.tree(I:Inv w0 Mf g st a w){id:Nat}{r:cC}(h:au st.roots id=some (.live r))(hp:r.md.ky []=true):ep w (Rdb g st) r.t r.xs (g.rv id):=by
 have hr:=I.roots id r h
 unfold aV at hr
 split at hr
 ·rename_i hm;exact hr.rd.mono fun k hk=> .inr ⟨id,⟨r,h,by rw[hm];rfl⟩,hk⟩
 ·rename_i hm;exact hr.rd.mono fun k hk=>hk.elim (fun hk=> .inr ⟨id,⟨r,h,by rw[hm];rfl⟩,hk⟩) .inl
 ·exact hr.mono fun k hk=> .inl hk
 ·rename_i k hm;rw[hm] at hp;cases k<;>cases hp
theorem Inv.oz(I:Inv w0 Mf g st a w){id:Nat}{r:cC}(h:au st.roots id=some (.live r)){p:Path}(hp:r.md.nodeAt p=true){s:Sl}(hs:aQ r.t r.xs p=some s):
    eJ w (Rdb g st) s.t s.xs (g.rv id p) fun i j=>g.rv id (p++[(i,j)]):=by
 have hr:=I.roots id r h
 unfold aV at hr
 split at hr
 ·rename_i hm;exact (hr.rd p s hs).mono fun k hk=> .inr ⟨id,⟨r,h,by rw[hm];rfl⟩,hk⟩
 ·rename_i hm;exact (hr.rd p s hs).mono fun k hk=>hk.elim (fun hk=> .inr ⟨id,⟨r,h,by rw[hm];rfl⟩,hk⟩) .inl
 ·exact (hr p s hs).mono fun k hk=> .inl hk
 ·rename_i hm;rw[hm,tE] at hp;exact (hr.1 p s hp hs).rd.mono fun k hk=> .inr ⟨id,⟨r,h,by rw[hm];rfl⟩,hk⟩
theorem Inv.Ck(I:Inv w0 Mf g st a w){id:Nat}{r:cC}(h:au st.roots id=some (.live r)){p:Path}{s:Sl}(hs:aQ r.t r.xs p=some s):cR (g.rv id p)=true:=by
 have hr:=I.roots id r h
 unfold aV at hr
 have hf:∀{P:Nat→Prop}{fH:Nat→Nat→Value},eJ w P s.t s.xs (g.rv id p) fH→cR (g.rv id p)=true:=fun ⟨a,cap,e,_⟩=>by rw[e];rfl
 split at hr
 ·exact hf (hr.rd p s hs)
 ·exact hf (hr.rd p s hs)
 ·exact hf (hr p s hs)
 ·exact hr.2.2 p s hs
theorem vt{m:Md}{p:Path}(hp:m.ky p=true)(q:Path):m.nodeAt (p++q)=true:=by
 cases m with
 |part k=>
  cases k with
  |hole p0=>cases hp
  |cur a b=>
   cases p with
   |nil=>cases hp
   |cons ij p=>exact hp
 |deep=>cases p++q<;>rfl
 |n6=>cases p++q<;>rfl
 |B5=>cases p++q<;>rfl
theorem Inv.ky(I:Inv w0 Mf g st a w){id:Nat}{r:cC}(h:au st.roots id=some (.live r)){p:Path}(hp:r.md.ky p=true){s:Sl}(hs:aQ r.t r.xs p=some s):
    ep w (Rdb g st) s.t s.xs fun q=>g.rv id (p++q):=by
 intro q s' eK
 have:=I.oz h (vt hp q) (p:=p++q) (s:=s') (by rw[ck q hs];exact eK)
 simpa [List.append_assoc] using this
theorem jf{α:Type}(xs:List α)(lo hi i:Nat):((xs.take hi).drop lo)[i]? =if lo+i<hi then xs[lo+i]? else none:=by
 rw[List.getElem?_drop,List.getElem?_take]
theorem eJ.ahi{P:Nat→Prop}{t:Ty}{xs:List (El t)}{v:Value}{fH:Nat→Nat→Value}(h:eJ w P t xs v fH){lo hi:Nat}(h1:lo≤hi)(h2:hi≤xs.length):
    ∃a cap,mn (ar t) v lo hi = .slice a ((xs.take hi).drop lo).length cap∧True:=by
 obtain⟨a,cap,e,hle,_⟩:=h
 have hlen:((xs.take hi).drop lo).length=hi-lo:=by simp;omega
 exact⟨(if cap=lo then a else a.map (·.add (lo*ar t))),cap-lo,by simp only[e,mn,hlen],trivial⟩
theorem ep.cut{P:Nat→Prop}{t:Ty}{xs:List (El t)}{av:Path→Value}(h:ep w P t xs av){lo hi:Nat}(h1:lo≤hi)(h2:hi≤xs.length):
    gC w P t ((xs.take hi).drop lo) (mn (ar t) (av []) lo hi):=by
 refine⟨fun p=>match p with | []=>mn (ar t) (av []) lo hi | (i,j)::p=>av ((i+lo,j)::p),rfl,?_⟩
 intro p s hs
 cases p with
 |nil=>
  simp only[aQ,Option.some.injEq] at hs
  subst hs
  obtain⟨a,cap,e,hle,hh⟩:=h [] ⟨t,xs⟩ rfl
  have hlen:((xs.take hi).drop lo).length=hi-lo:=by simp;omega
  refine⟨(if cap=lo then a else a.map (·.add (lo*ar t))),cap-lo,by simp only[e,mn,hlen],by simp only[hlen];simp only at hle;omega,fun hn=> ?_⟩
  have bU:lo<hi:=by
   rcases Nat.lt_or_ge lo hi with h' | h'
   ·exact h'
   ·exact absurd (List.length_eq_zero_iff.1 (by rw[hlen];omega)) hn
  obtain⟨b,o,cs,el,fz,rfl,hP,hb,hr⟩:=hh (by intro h0;simp only at h0;rw[h0] at h2;simp at h2;omega)
  have ahj:∃o',(if cap=lo then (some ⟨b,o,none⟩:Option Addr) else (some (⟨b,o,none⟩:Addr)).map (·.add (lo*ar t)))=some ⟨b,o',none⟩∧(o'=o+lo*ar t):=by
   simp only at hle
   rw[if_neg (by omega)]
   simp only[Option.map_some,Addr.add]
   split
   ·rename_i h0;exact⟨_,rfl,by omega⟩
   ·exact⟨_,rfl,rfl⟩
  obtain⟨o',yr,rfl⟩:=ahj
  refine⟨b,_,cs,el,fz,yr,hP,hb,?_⟩
  intro i y j c hy hc
  simp only[jf] at hy
  split at hy
  ·obtain⟨u,hu,lr⟩:=hr (lo+i) y j c hy hc
   refine⟨u,?_,?_⟩
   ·rw[← hu];congr 1;simp only[Nat.add_mul];omega
   ·simpa [Nat.add_comm] using lr
  ·cases hy
 |cons ij p=>
  obtain⟨i,j⟩:=ij
  simp only[aQ,jf] at hs
  split at hs
  case h_2=>cases hs
  rename_i x hx
  split at hx
  case isFalse=>cases hx
  have:=h ((lo+i,j)::p) s (by simp only[aQ,hx];exact hs)
  simpa [Nat.add_comm] using this
end Go.Gm
namespace Go.Gm
open Go
variable {R : Type} {w0 w : World} {Mf : Nat → Prop} {g : Gh} {st : St} {a : Act}
theorem GL(P:Nat→Prop)(t:Ty)(u:Value)(h:∃a cap,u = .slice a 0 cap):gC w P t [] u:=by
 obtain⟨a,cap,rfl⟩:=h
 refine⟨fun _=> .slice a 0 cap,rfl,fun p s hs=> ?_⟩
 cases p with
 |nil=>simp only[aQ,Option.some.injEq] at hs;subst hs;exact⟨a,cap,rfl,Nat.zero_le _,fun h=>absurd rfl h⟩
 |cons ij p=>simp[aQ] at hs
theorem Inv.pK(I:Inv w0 Mf g st a w){c:Sc}{q:Option Ty}{k:Cv→Option R}{r:R}{u:Value}(h:pK st c q k=some r)(hc:bg w g st c u):
    ∃cv,k cv=some r∧pL w (Rdb g st) cv u:=by
 unfold Gm.pK at h
 split at h
 ·exact⟨_,h,hc.2⟩
 ·exact⟨_,h,GL _ _ _ ⟨none,0,hc.2⟩⟩
 ·exact⟨_,h,gC.mono (fun k hk=> .inl hk) hc.2⟩
 ·exact⟨_,h,gC.mono (fun k hk=> .inl hk) (I.kro hc.2)⟩
 ·obtain⟨ro,hv,h⟩:=de h
  obtain⟨IF,h⟩:=bh h
  obtain⟨s,hs,h⟩:=aT h
  obtain⟨hu,lv⟩:=hc.2.2 ro hv.x
  obtain⟨s',eK⟩:=Option.isSome_iff_exists.1 lv
  have:=cW eK
  rw[hs] at this;cases this
  refine⟨_,h,_,?_,I.ky hv.1 IF eK⟩
  simpa using hu.symm
 ·obtain⟨ro,hv,gE,h⟩:=di h
  obtain⟨IF,h⟩:=bh h
  obtain⟨h1,h2,hu⟩:=hc.2.2 ro ⟨.inl hv,gE,ig _ _⟩
  refine⟨_,h,?_⟩
  simp only[pL,hu]
  exact (I.tree hv IF).cut h1 h2
 ·cases h
def mT(w:World)(g:Gh)(st:St):List Sc→List Value→Prop
 | [],[]=>True
 |c::cs,u::us=>bg w g st c u∧mT w g st cs us
 |_,_=>False
theorem mT.of:∀{cs:List Sc}{us:List Value},us.length=cs.length→(∀(j:Nat) c,cs[j]? =some c→∃z,us[j]? =some z∧bg w g st c z)→mT w g st cs us
 | [],[],_,_=>trivial
 | [],_::_,h,_=>by simp at h
 |_::_,[],h,_=>by simp at h
 |c::cs,u::us,h,hr=>by
  refine⟨?_,mT.of (by simpa using h) fun j c' hj=>by simpa using hr (j+1) c' (by simpa using hj)⟩
  obtain⟨z,hz,hc⟩:=hr 0 c rfl
  simp only[List.getElem?_cons_zero,Option.some.injEq] at hz;subst hz;exact hc
theorem mT.len:∀{cs:List Sc}{us:List Value},mT w g st cs us→us.length=cs.length
 | [],[],_=>rfl
 | [],_::_,h=>h.elim
 |_::_,[],h=>h.elim
 |_::cs,_::us,h=>by simp[mT.len h.2]
theorem mT.get:∀{cs:List Sc}{us:List Value},mT w g st cs us→∀(j:Nat) c,cs[j]? =some c→∃z,us[j]? =some z∧bg w g st c z
 | [],[],_,j,c,h=>by simp at h
 | [],_::_,h,_,_,_=>h.elim
 |_::_,[],h,_,_,_=>h.elim
 |c::cs,u::us,h,j,c',hj=>by
  cases j with
  |zero=>simp only[List.getElem?_cons_zero,Option.some.injEq] at hj;subst hj;exact⟨u,rfl,h.1⟩
  |succ j=>simpa using mT.get h.2 j c' (by simpa using hj)
theorem cJ.l{cs:List Sc}{us:Array Value}(h:cJ w g st cs us):mT w g st cs us.toList:=
  mT.of (by simpa using h.1) fun j c hj=>by simpa using h.2 j c hj
theorem mT.arr{cs:List Sc}{us:Array Value}(h:mT w g st cs us.toList):cJ w g st cs us:=
 ⟨by simpa using h.len,fun j c hj=>by simpa using h.get j c hj⟩
def jg(w:World)(P:Nat→Prop):List Cv→List Value→Prop
 | [],[]=>True
 |c::cs,u::us=>pL w P c u∧jg w P cs us
 |_,_=>False
theorem jg.len{P:Nat→Prop}:∀{cs:List Cv}{us:List Value},jg w P cs us→us.length=cs.length
 | [],[],_=>rfl
 | [],_::_,h=>h.elim
 |_::_,[],h=>h.elim
 |_::cs,_::us,h=>by simp[jg.len h.2]
theorem jg.get{P:Nat→Prop}:∀{cs:List Cv}{us:List Value},jg w P cs us→∀(j:Nat) c,cs[j]? =some c→∃z,us[j]? =some z∧pL w P c z
 | [],[],_,j,c,h=>by simp at h
 | [],_::_,h,_,_,_=>h.elim
 |_::_,[],h,_,_,_=>h.elim
 |c::cs,u::us,h,j,c',hj=>by
  cases j with
  |zero=>simp only[List.getElem?_cons_zero,Option.some.injEq] at hj;subst hj;exact⟨u,rfl,h.1⟩
  |succ j=>simpa using jg.get h.2 j c' (by simpa using hj)
theorem jg.arr{P:Nat→Prop}{cs:List Cv}{us:Array Value}(h:jg w P cs us.toList):Cj w P cs us:=
 ⟨by simpa using h.len,fun j c hj=>by simpa using h.get j c hj⟩
theorem Inv.Eo(I:Inv w0 Mf g st a w):∀{cs:List Sc}{qs:List (Option Ty)}{k:List Cv→Option R}{r:R}{us:List Value},Eo st cs qs k=some r→mT w g st cs us→
    ∃cv,k cv=some r∧jg w (Rdb g st) cv us
 | [],[],k,r,us,h,hc=>by
  cases us with
  |nil=>exact⟨[],h,trivial⟩
  |cons u us=>exact hc.elim
 |c::cs,q::qs,k,r,us,h,hc=>by
  cases us with
  |nil=>exact hc.elim
  |cons u us=>
   obtain⟨cv,h1,h2⟩:=I.pK h hc.1
   obtain⟨Cl,h3,h4⟩:=I.Eo h1 hc.2
   exact⟨cv::Cl,h3,h2,h4⟩
 | [],_::_,k,r,us,h,hc=>by cases h
 |_::_,[],k,r,us,h,hc=>by cases h
theorem dw{t:Ty}{s:Sv}{cs:List Sc}{u:Value}(h:fp t s=some cs)(hs:dO w g st s u):∃us,Form t u us∧cJ w g st cs us:=by
 unfold fp at h
 split at h
 ·rename_i ht
  simp only[Option.some.injEq] at h;subst h
  obtain⟨us,rfl,hc⟩:=hs
  exact⟨us,by simp[Form,ht],hc⟩
 ·rename_i ht
  simp only[Option.some.injEq] at h;subst h
  refine⟨#[u],?_,by simp,fun j c hj=> ?_⟩
  ·simp only[Form,ht,Bool.false_eq_true,if_false,true_and];exact hs.1
  ·cases j with
   |zero=>simp only[List.getElem?_cons_zero,Option.some.injEq] at hj;subst hj;exact⟨u,rfl,hs⟩
   |succ j=>simp at hj
 ·cases h
theorem Inv.sP(I:Inv w0 Mf g st a w){t:Ty}{s:Sv}{k:El t→Option R}{r:R}{u:Value}(h:sP st t s k=some r)(hs:dO w g st s u):
    ∃x,k x=some r∧ox w (Rdb g st) t x u:=by
 obtain⟨cs,fq,h⟩:=aT h
 obtain⟨us,hf,hc⟩:=dw fq hs
 obtain⟨cv,h1,h2⟩:=I.Eo h hc.l
 obtain⟨x,hx,h3⟩:=aT h1
 refine⟨x,h3,us,hf,?_⟩
 rw[← c8 hx]
 exact h2.arr
theorem mO.roots{aF:St}{c:Sc}{u:Value}(hb:∀b,(au st.boxes b).isSome→(au aF.boxes b).isSome)
 (hv:∀id ver iv,cL st id ver iv→cL aF id ver iv) (hr:∀id ver iv p r,cL st id ver iv→Vx aF id ver iv p r→Vx st id ver iv p r) (h:mO w g st c u):mO w g aF c u:=by
 cases c with
 |h id ver iv p=>exact⟨hv _ _ _ h.1,fun r j6=>h.2 r (hr _ _ _ _ _ h.1 j6)⟩
 |vw id ver lo hi=>exact⟨hv _ _ _ h.1,fun r j6=>h.2 r (hr _ _ _ _ _ h.1 j6)⟩
 |pe id ver iv p i off=>exact⟨hv _ _ _ h.1,fun r j6=>h.2 r (hr _ _ _ _ _ h.1 j6)⟩
 |pt b off=>exact⟨h.1,hb _ h.2⟩
 |fi fn bs=>exact⟨h.1,fun b hm=>hb _ (h.2 b hm)⟩
 |_=>exact h
theorem cJ.map{g':Gh}{w':World}{aF:St}{cs:List Sc}{us:Array Value}(hm:∀c u,bg w g st c u→bg w' g' aF c u)(h:cJ w g st cs us):cJ w' g' aF cs us:=
 ⟨h.1,fun j c hj=>let ⟨z,hz,hc⟩:=h.2 j c hj;⟨z,hz,hm _ _ hc⟩⟩
theorem jc.map{g':Gh}{w':World}{aF:St}{x:Cm}{u:Value}(hm:∀c u,bg w g st c u→bg w' g' aF c u)(h:jc w g st x u):jc w' g' aF x u:=by
 cases x with
 |one c=>exact hm _ _ h
 |agg cs=>obtain⟨us,rfl,hc⟩:=h;exact⟨us,rfl,hc.map hm⟩
theorem dO.map{g':Gh}{w':World}{aF:St}{x:Sv}{u:Value}(hm:∀c u,bg w g st c u→bg w' g' aF c u)(h:dO w g st x u):dO w' g' aF x u:=by
 cases x with
 |c x=>exact jc.map hm h
 |yZ vs=>obtain⟨us,rfl,hl,hc⟩:=h;exact⟨us,rfl,hl,fun j x hj=>let ⟨z,hz,h⟩:=hc j x hj;⟨z,hz,h.map hm⟩⟩
theorem Inv.drop(I:Inv w0 Mf g st a w){id:Nat}{r:cC}(h:au st.roots id=some (.live r)):
    Inv w0 Mf g { st with roots:=bd st.roots id (.gone r.ver) } a w:=by
 have hm:∀c u,bg w g st c u→bg w g { st with roots:=bd st.roots id (.gone r.ver) } c u:=fun c u hc=>
  ⟨hc.1,mO.roots (st:=st) (fun b hb=>hb)
   (fun aJ ver iv hv=>by
    unfold cL at hv ⊢
    simp only[aH]
    by_cases cS:aJ=id
    ·subst cS;simp only[h] at hv;simp only[if_true];omega
    ·simpa [cS] using hv)
   (fun aJ ver iv p r' _ hv=>by
    obtain⟨h1,h2,h3⟩:=hv
    simp only[aH] at h1
    by_cases cS:aJ=id
    ·simp[cS] at h1
    ·exact⟨by simpa [cS] using h1,h2,h3⟩) hc.2⟩
 have ho:∀aJ,aS { st with roots:=bd st.roots id (.gone r.ver) } aJ→aS st aJ:=fun aJ ⟨r',h1,h2⟩=>by
  simp only[aH] at h1
  by_cases cS:aJ=id
  ·simp[cS] at h1
  ·exact⟨r',by simpa [cS] using h1,h2⟩
 exact {
  ay:=fun s sv hs=>let ⟨u,hu,hr⟩:=I.ay s sv hs;⟨u,hu,hr.map hm⟩
  boxes:=fun b x hb=>let ⟨us,el,h1,h2⟩:=I.boxes b x hb;⟨us,el,h1,h2.map hm⟩
  roots:=fun aJ r' hr=>I.roots aJ r' (by
   simp only[aH] at hr
   by_cases cS:aJ=id
   ·simp[cS] at hr
   ·simpa [cS] using hr)
  apart:={
   rr:=fun i i' k h1 h2=>I.apart.rr i i' k (ho _ h1) (ho _ h2)
   rb:=fun i b h1 h2=>I.apart.rb i b (ho _ h1) h2
   bb:=I.apart.bb
   eu:=fun i k h1=>I.apart.eu i k (ho _ h1)
   gD:=I.apart.gD
   cp:=fun i k h1=>I.apart.cp i k (ho _ h1)
   dL:=I.apart.dL
   ew:=fun i k h1=>I.apart.ew i k (ho _ h1)
   db:=I.apart.db
   bY:=I.apart.bY }
  kept:=I.kept
  defers:=I.defers
  size:=I.size
  base:=⟨I.base.wl,I.base.ap,I.base.ro⟩ }
theorem bn{α:Type}:∀(l u v:List (Nat×α)),cj l (u++v)=cj (cj l u) v
 |_,[],_=>rfl
 |l,(n,x)::u,v=>by simp only[List.cons_append,cj];exact bn _ u v
inductive ny (w:World) (ro:Nat→Prop):List Cv→List Value→List (Nat→Prop)→Bool→Prop where
 | nil:ny w ro [] [] [] true
 |cons {c cs u us F Fs d d'} (hr:pL w (fun k=>F k∨ro k) c u) (ho:d=true→gX w F c u) (hs:ny w ro cs us Fs d'):ny w ro (c::cs) (u::us) (F::Fs) (d&&d')
structure kN (w:World) (g:Gh) (st aF:St) (fr:List (Nat×Rt)) (Fs:List (Nat→Prop)):Prop where
 eq:aF={ st with roots:=cj st.roots fr }
 own:∀id,aS aF id→aS st id
 map:∀c u,bg w g st c u→bg w g aF c u
 apart:bS Fs
 src:∀F∈Fs,∀k,F k→∃id,aS st id∧g.rf id k
 off:∀F∈Fs,∀k,F k→∀id,aS aF id→ ¬g.rf id k
 live:∀id r,au aF.roots id=some (.live r)→au st.roots id=some (.live r)
 dq:∀id r,au st.roots id=some (.dq r)→au aF.roots id=some (.dq r)
theorem kN.refl(w:World)(g:Gh)(st:St):kN w g st st [] []:=
 ⟨rfl,fun _ h=>h,fun _ _ h=>h,List.Pairwise.nil,by simp,by simp,fun _ _ h=>h,fun _ _ h=>h⟩
theorem kN.trans{s1 s2 s3:St}{u v:List (Nat×Rt)}{Fs Gs:List (Nat→Prop)}(h:kN w g s1 s2 u Fs)(k:kN w g s2 s3 v Gs):kN w g s1 s3 (u++v) (Fs++Gs):=by
 refine⟨?_,fun id hi=>h.own id (k.own id hi),fun c u hc=>k.map c u (h.map c u hc),?_,?_,?_,fun id r hr=>h.live id r (k.live id r hr),fun id r hr=>k.dq id r (h.dq id r hr)⟩
 ·rw[k.eq,h.eq,bn]
 ·refine List.pairwise_append.2 ⟨h.apart,k.apart,fun F hF G hG n hn KR=> ?_⟩
  obtain⟨id,cS,n7⟩:=k.src G hG n KR
  exact h.off F hF n hn id cS n7
 ·intro F hF n hn
  rcases List.mem_append.1 hF with hF | hF
  ·exact h.src F hF n hn
  ·obtain⟨id,cS,n7⟩:=k.src F hF n hn
   exact⟨id,h.own id cS,n7⟩
 ·intro F hF n hn id cS
  rcases List.mem_append.1 hF with hF | hF
  ·exact h.off F hF n hn id (k.own id cS)
  ·exact k.off F hF n hn id cS
theorem Inv.Cn(I:Inv w0 Mf g st a w){id:Nat}{r:cC}(h:au st.roots id=some (.live r))(hm:r.md.cr=false):
    kN w g st { st with roots:=bd st.roots id (.gone r.ver) } [(id,.gone r.ver)] [g.rf id]:=by
 have ho:∀aJ,aS { st with roots:=bd st.roots id (.gone r.ver) } aJ→aS st aJ∧aJ≠id:=fun aJ ⟨r',h1,h2⟩=>by
  simp only[aH] at h1
  by_cases cS:aJ=id
  ·simp[cS] at h1
  ·exact⟨⟨r',by simpa [cS] using h1,h2⟩,cS⟩
 have ez:aS st id:=⟨r,h,hm⟩
 refine⟨rfl,fun aJ h'=>(ho aJ h').1,fun c u hc=> ?_,List.pairwise_singleton _ _,?_,?_,fun aJ r' h'=>by
  simp only[aH] at h'
  by_cases cS:aJ=id
  ·simp[cS] at h'
  ·simpa [cS] using h',fun aJ r' h'=>by
  simp only[aH]
  by_cases cS:aJ=id
  ·subst cS;rw[h] at h';cases h'
  ·simpa [cS] using h'⟩
 ·exact⟨hc.1,mO.roots (st:=st) (fun b hb=>hb)
   (fun aJ ver iv hv=>by
    unfold cL at hv ⊢
    simp only[aH]
    by_cases cS:aJ=id
    ·subst cS;simp only[h] at hv;simp only[if_true];omega
    ·simpa [cS] using hv)
   (fun aJ ver iv p r' _ hv=>by
    obtain⟨h1,h2,h3⟩:=hv
    simp only[aH] at h1
    by_cases cS:aJ=id
    ·simp[cS] at h1
    ·exact⟨by simpa [cS] using h1,h2,h3⟩) hc.2⟩
 ·intro F hF k hk
  simp only[List.mem_singleton] at hF;subst hF
  exact⟨id,ez,hk⟩
 ·intro F hF k hk aJ KS tF
  simp only[List.mem_singleton] at hF;subst hF
  obtain⟨h1,h2⟩:=ho aJ KS
  exact h2 (I.apart.rr aJ id k h1 ez tF hk)
theorem KT{sz:Nat}{v:Value}{lo hi:Nat}{k:Nat}(h:qR (mn sz v lo hi)=some k):qR v=some k:=by
 unfold mn at h
 split at h
 ·rename_i a n cap
  cases a with
  |none=>split at h<;>simp[qR] at h
  |some a=>
   split at h
   ·exact h
   ·simp only[Option.map_some,qR] at h ⊢
    rw[← h];unfold Addr.add;split<;>rfl
 ·exact h
theorem bA.cut{F:Nat→Prop}{t:Ty}{xs:List (El t)}{v:Value}{fH:Nat→Nat→Value}(h:bA w F t xs v fH){lo hi:Nat}(h1:lo≤hi)(h2:hi≤xs.length):
    bA w F t ((xs.take hi).drop lo) (mn (ar t) v lo hi) fun i j=>fH (i+lo) j:=by
 have hlen:((xs.take hi).drop lo).length=hi-lo:=by simp;omega
 rcases h with ⟨rfl,rfl⟩ | ⟨b,o,cap,cs,el,rfl,hF,hb,hc,hs,hr⟩
 ·simp only[List.length_nil] at h2
  have:hi=0:=by omega
  subst this
  have:lo=0:=by omega
  subst this
  exact .inl ⟨by simp,rfl⟩
 ·have ho:∃o',(if cap=lo then (some ⟨b,o,none⟩:Option Addr) else (some (⟨b,o,none⟩:Addr)).map (·.add (lo*ar t)))=some ⟨b,o',none⟩∧(o'=o+lo*ar t∨(o'=o∧cap=lo)):=by
   by_cases uT:cap=lo
   ·rw[if_pos uT];exact⟨o,rfl,.inr ⟨rfl,uT⟩⟩
   ·rw[if_neg uT]
    simp only[Option.map_some,Addr.add]
    split
    ·rename_i h0;exact⟨_,rfl,.inl (by omega)⟩
    ·exact⟨_,rfl,.inl rfl⟩
  obtain⟨o',yr,hoo⟩:=ho
  refine .inr ⟨b,o',cap-lo,cs,el,by simp only[mn,yr,hlen],hF,hb,by rw[hlen];omega,?_,?_⟩
  ·rcases hoo with rfl | ⟨rfl,rfl⟩
   ·have:lo*ar t+(cap-lo)*ar t=cap*ar t:=by rw[← Nat.add_mul];congr 1;omega
    omega
   ·rw[Nat.sub_self,Nat.zero_mul];omega
  ·intro i y j c hy mP
   simp only[jf] at hy
   split at hy
   ·rename_i nz
    obtain⟨u,hu,lr⟩:=hr (lo+i) y j c hy mP
    have ahk:o'=o+lo*ar t:=by rcases hoo with h | ⟨_,h⟩<;>omega
    refine⟨u,?_,?_⟩
    ·rw[← hu,ahk];congr 1;simp only[Nat.add_mul];omega
    ·simpa [Nat.add_comm] using lr
   ·cases hy
theorem vu{t:Ty}{xs:List (El t)}{lo hi i j:Nat}{p:Path}{s:Sl}(h:aQ t ((xs.take hi).drop lo) ((i,j)::p)=some s):aQ t xs ((i+lo,j)::p)=some s:=by
 simp only[aQ,jf] at h ⊢
 split at h
 case h_2=>cases h
 rename_i x hx
 split at hx
 case isFalse=>cases hx
 rw[Nat.add_comm i lo,hx]
 exact h
theorem a8.cut{F:Nat→Prop}{t:Ty}{xs:List (El t)}{av:Path→Value}(h:a8 w F t xs av){lo hi:Nat}(h1:lo≤hi)(h2:hi≤xs.length):
    jB w F t ((xs.take hi).drop lo) (mn (ar t) (av []) lo hi):=by
 let f:Path→Path:=fun p=>match p with | []=>[] | (i,j)::p=>(i+lo,j)::p
 have hf:∀p q,f p=f q→p=q:=by
  intro p q h
  cases p with
  |nil=>cases q with
   |nil=>rfl
   |cons y q=>simp[f] at h
  |cons x p=>cases q with
   |nil=>simp[f] at h
   |cons y q=>
    obtain⟨i,j⟩:=x
    obtain⟨i',j'⟩:=y
    simp only[f,List.cons.injEq,Prod.mk.injEq] at h
    obtain⟨⟨h1,rfl⟩,rfl⟩:=h
    rw[show i=i' by omega]
 refine⟨fun p=>match p with | []=>mn (ar t) (av []) lo hi | (i,j)::p=>av ((i+lo,j)::p),rfl,fun p s hs=> ?_,fun p q s s' k hp hq hk tF=> ?_⟩
 ·cases p with
  |nil=>
   simp only[aQ,Option.some.injEq] at hs
   subst hs
   exact (h.1 [] ⟨t,xs⟩ rfl).cut h1 h2
  |cons ij p=>
   obtain⟨i,j⟩:=ij
   exact h.1 _ s (vu hs)
 ·have go:∀p s k,aQ t ((xs.take hi).drop lo) p=some s→qR (match p with | []=>mn (ar t) (av []) lo hi | (i,j)::p=>av ((i+lo,j)::p))=some k→(∃ s0,aQ t xs (f p)=some s0)∧qR (av (f p))=some k:=by
   intro p s k hp hk
   cases p with
   |nil=>exact⟨⟨_,rfl⟩,KT hk⟩
   |cons ij p=>obtain⟨i,j⟩:=ij;exact⟨⟨_,vu hp⟩,hk⟩
  obtain⟨⟨s1,e1⟩,e2⟩:=go p s k hp hk
  obtain⟨⟨s2,e3⟩,e4⟩:=go q s' k hq tF
  exact hf p q (h.2 _ _ _ _ k e1 e3 e2 e4)
theorem Inv.kE(I:Inv w0 Mf g st a w){c:Sc}{q:Option Ty}{k:Cv→Bool→St→List (Nat×Rt)→Option R}{r:R}{u:Value}(h:kE st c q k=some r)(hc:bg w g st c u):
    ∃cv d aF fr F,k cv d aF fr=some r∧Inv w0 Mf g aF a w∧kN w g st aF fr [F]∧pL w (fun k=>F k∨g.ro k) cv u∧(d=true→gX w F cv u):=by
 have T0:kN w g st st [] [fun _=>False]:=
  ⟨rfl,fun _ h=>h,fun _ _ h=>h,List.pairwise_singleton _ _,fun F hF k hk=>by simp only[List.mem_singleton] at hF;subst hF;exact hk.elim,
   fun F hF k hk=>by simp only[List.mem_singleton] at hF;subst hF;exact hk.elim,fun _ _ h=>h,fun _ _ h=>h⟩
 unfold Gm.kE at h
 split at h
 ·exact⟨_,_,_,_,_,h,I,T0,hc.2,fun _=>hc.2⟩
 ·rename_i t _
  refine⟨_,_,_,_,_,h,I,T0,GL _ _ _ ⟨none,0,hc.2⟩,fun _=>⟨fun _=> .slice none 0 0,hc.2.symm,?_,?_⟩⟩
  ·intro p s hs
   cases p with
   |nil=>simp only[aQ,Option.some.injEq] at hs;subst hs;exact .inl ⟨rfl,rfl⟩
   |cons ij p=>simp[aQ] at hs
  ·intro p q s s' b _ _ hb _;simp[qR] at hb
 ·exact⟨_,_,_,_,_,h,I,T0,gC.mono (fun k hk=> .inr hk) hc.2,fun h=>by cases h⟩
 ·exact⟨_,_,_,_,_,h,I,T0,gC.mono (fun k hk=> .inr hk) (I.kro hc.2),fun h=>by cases h⟩
 ·rename_i id ver iv t
  obtain⟨ro,hv,gE,h⟩:=di h
  obtain⟨IF,h⟩:=bh h
  obtain⟨hu,_⟩:=hc.2.2 ro ⟨.inl hv,gE,ig _ _⟩
  cases hm:ro.md.cr
  ·simp only[hm,cond_false] at h
   rw[← gE] at h
   refine⟨_,_,_,_,g.rf id,h,I.drop hv,I.Cn hv hm,?_,?_⟩
   ·have hr:=I.roots id ro hv
    refine⟨g.rv id,hu.symm,?_⟩
    unfold aV at hr
    split at hr
    ·exact hr.rd.mono fun k=> .inl
    ·exact hr.rd
    ·rename_i cK;simp[cK,Md.cr] at hm
    ·rename_i kk cK;rw[cK] at IF;cases kk<;>cases IF
   ·intro hd
    have hr:=I.roots id ro hv
    unfold aV at hr
    split at hr
    ·exact⟨g.rv id,hu.symm,hr⟩
    ·rename_i cK;simp[cK,Md.bM] at hd
    ·rename_i cK;simp[cK,Md.bM] at hd
    ·rename_i cK;simp[cK,Md.bM] at hd
  ·simp only[hm,cond_true] at h
   refine⟨_,_,_,_,_,h,I,T0,?_,fun h=>by cases h⟩
   have hr:=I.roots id ro hv
   unfold aV at hr
   split at hr
   ·rename_i cK;simp[cK,Md.cr] at hm
   ·rename_i cK;simp[cK,Md.cr] at hm
   ·exact⟨g.rv id,hu.symm,hr.mono fun k=> .inr⟩
   ·rename_i cK;simp[cK,Md.cr] at hm
 ·rename_i id ver lo hi t
  obtain⟨ro,hv,gE,h⟩:=di h
  obtain⟨IF,h⟩:=bh h
  obtain⟨yA,W5,hu⟩:=hc.2.2 ro ⟨.inl hv,gE,ig _ _⟩
  cases hm:ro.md.cr
  ·simp only[hm,cond_false] at h
   rw[← gE] at h
   refine⟨_,_,_,_,g.rf id,h,I.drop hv,I.Cn hv hm,?_,?_⟩
   ·have hr:=I.roots id ro hv
    rw[hu]
    unfold aV at hr
    split at hr
    ·exact (hr.rd.mono fun k=> .inl).cut yA W5
    ·exact hr.rd.cut yA W5
    ·rename_i cK;simp[cK,Md.cr] at hm
    ·rename_i kk cK;rw[cK] at IF;cases kk<;>cases IF
   ·intro hd
    have hr:=I.roots id ro hv
    rw[hu]
    unfold aV at hr
    split at hr
    ·exact hr.cut yA W5
    ·rename_i cK;simp[cK,Md.bM] at hd
    ·rename_i cK;simp[cK,Md.bM] at hd
    ·rename_i cK;simp[cK,Md.bM] at hd
  ·simp only[hm,cond_true] at h
   refine⟨_,_,_,_,_,h,I,T0,?_,fun h=>by cases h⟩
   have hr:=I.roots id ro hv
   rw[hu]
   unfold aV at hr
   split at hr
   ·rename_i cK;simp[cK,Md.cr] at hm
   ·rename_i cK;simp[cK,Md.cr] at hm
   ·exact (hr.mono fun k=> .inr).cut yA W5
   ·rename_i cK;simp[cK,Md.cr] at hm
 ·cases h
theorem mT.map{g':Gh}{w':World}{aF:St}(hm:∀c u,bg w g st c u→bg w' g' aF c u):∀{cs:List Sc}{us:List Value},mT w g st cs us→mT w' g' aF cs us
 | [],[],_=>trivial
 | [],_::_,h=>h.elim
 |_::_,[],h=>h.elim
 |_::_,_::_,h=>⟨hm _ _ h.1,mT.map hm h.2⟩
theorem Inv.qp:∀{cs:List Sc}{st:St}{qs:List (Option Ty)}{k:List Cv→Bool→St→List (Nat×Rt)→Option R}{r:R}{us:List Value},Inv w0 Mf g st a w→
    qp st cs qs k=some r→mT w g st cs us→
    ∃cv d aF fr Fs,k cv d aF fr=some r∧Inv w0 Mf g aF a w∧kN w g st aF fr Fs∧ny w g.ro cv us Fs d
 | [],st,[],k,r,us,I,h,hc=>by
  cases us with
  |nil=>exact⟨[],true,st,[],[],h,I,kN.refl _ _ _,.nil⟩
  |cons u us=>exact hc.elim
 |c::cs,st,q::qs,k,r,us,I,h,hc=>by
  cases us with
  |nil=>exact hc.elim
  |cons u us=>
   obtain⟨cv,d,s1,u1,F,h1,I1,T1,hr,ho⟩:=I.kE h hc.1
   obtain⟨Cl,d2,s2,u2,Fs,h2,I2,T2,hA⟩:=Inv.qp I1 h1 (hc.2.map T1.map)
   exact⟨_,_,_,_,_,h2,I2,T1.trans T2,.cons hr ho hA⟩
 | [],_,_::_,k,r,us,I,h,hc=>by cases h
 |_::_,_,[],k,r,us,I,h,hc=>by cases h
theorem ny.len{ro:Nat→Prop}{cs:List Cv}{us:List Value}{Fs:List (Nat→Prop)}{d:Bool}(h:ny w ro cs us Fs d):us.length=cs.length∧Fs.length=cs.length:=by
 induction h with
 |nil=>exact⟨rfl,rfl⟩
 |cons _ _ _ ih=>simp[ih.1,ih.2]
def Any(Fs:List (Nat→Prop))(k:Nat):Prop:=∃F∈Fs,F k
theorem ny.rd{ro:Nat→Prop}{cs:List Cv}{us:List Value}{Fs:List (Nat→Prop)}{d:Bool}(h:ny w ro cs us Fs d):jg w (fun k=>Any Fs k∨ro k) cs us:=by
 induction h with
 |nil=>trivial
 |cons hr ho hs ih=>
  refine⟨hr.mono fun k hk=>hk.imp (fun h=>⟨_,List.mem_cons_self,h⟩) id,?_⟩
  have:∀{P Q:Nat→Prop}{cs:List Cv}{us:List Value},(∀ k,P k→Q k)→jg w P cs us→jg w Q cs us:=by
   intro P Q cs
   induction cs with
   |nil=>intro us zf h;cases us<;>first | trivial | exact h.elim
   |cons c cs ih=>intro us zf h;cases us with | nil=>exact h.elim | cons u us=>exact⟨h.1.mono zf,ih zf h.2⟩
  exact this (fun k hk=>hk.imp (fun ⟨F,hF,h⟩=>⟨F,List.mem_cons_of_mem _ hF,h⟩) id) ih
theorem ny.own{ro:Nat→Prop}{cs:List Cv}{us:List Value}{Fs:List (Nat→Prop)}{d:Bool}(h:ny w ro cs us Fs d)(hd:d=true):
    ∀(j:Nat) c,cs[j]? =some c→∃z F,us[j]? =some z∧Fs[j]? =some F∧gX w F c z:=by
 induction h with
 |nil=>intro j c h;simp at h
 |cons hr ho hs ih=>
  simp only[Bool.and_eq_true] at hd
  intro j c hj
  cases j with
  |zero=>simp only[List.getElem?_cons_zero,Option.some.injEq] at hj;subst hj;exact⟨_,_,rfl,rfl,ho hd.1⟩
  |succ j=>simpa using ih hd.2 j c (by simpa using hj)
theorem ny.row{ro:Nat→Prop}{cs:List Cv}{us:List Value}{Fs:List (Nat→Prop)}{d:Bool}(h:ny w ro cs us Fs d)(hd:d=true)(hp:bS Fs):
    mo w (Any Fs) cs us.toArray:=by
 refine⟨fun j k=>∃F,Fs[j]? =some F∧F k,fun j k ⟨F,h1,h2⟩=>⟨F,List.mem_of_getElem? h1,h2⟩,?_,by simpa using h.len.1,?_⟩
 ·intro j j' k ⟨F,h1,h2⟩ ⟨G,h3,h4⟩
  have:=List.pairwise_iff_getElem.1 hp
  obtain⟨hj,rfl⟩:=List.getElem?_eq_some_iff.1 h1
  obtain⟨Es,rfl⟩:=List.getElem?_eq_some_iff.1 h3
  rcases Nat.lt_trichotomy j j' with bU | heq | bU
  ·exact (this j j' hj Es bU k h2 h4).elim
  ·exact heq
  ·exact (this j' j Es hj bU k h4 h2).elim
 ·intro j c hj
  obtain⟨z,F,h1,h2,h3⟩:=h.own hd j c hj
  refine⟨z,by simpa using h1,?_⟩
  cases c with
  |v x=>exact h3
  |l t xs=>
   obtain⟨av,h4,h5⟩:=h3
   exact⟨av,h4,h5.mono fun k hk=>⟨F,h2,hk⟩⟩
theorem Inv.Et(I:Inv w0 Mf g st a w){dst:Option Nat}(hd:∀d,dst=some d→d<g.n.sz){s:Sv}{v:Value}(hs:dO w g st s v):
    Inv w0 Mf g (st.apply { slot:=dst.map fun d=>(d,s) }) (a.put dst v) w:=by
 cases dst with
 |none=>exact { I with }
 |some d=>
  have bU:=hd d rfl
  exact {
   ay:=fun n sv hn=>by
    simp only[St.apply,Option.map_some,aH] at hn
    by_cases Eu:n=d
    ·subst Eu
     simp only[if_true,Option.some.injEq] at hn;subst hn
     refine⟨v,?_,hs⟩
     simp only[Act.put]
     rw[Array.getElem?_setIfInBounds_self_of_lt (by rw[I.size];exact bU)]
    ·simp only[Eu,if_false] at hn
     obtain⟨u,hu,hr⟩:=I.ay n sv hn
     refine⟨u,?_,hr⟩
     simp only[Act.put]
     rw[Array.getElem?_setIfInBounds_ne (Ne.symm Eu)];exact hu
   boxes:=I.boxes
   roots:=I.roots
   apart:={ I.apart with }
   kept:=I.kept
   defers:=by simp only[Act.put];exact I.defers
   size:=by simp only[Act.put,Array.size_setIfInBounds];exact I.size
   base:=⟨I.base.wl,I.base.ap,I.base.ro⟩ }
theorem mO.world{w':World}{X:Nat→Prop}(hs:bD X w w')(hr:∀k,g.ro k→ ¬X k){c:Sc}{u:Value}(h:mO w g st c u):mO w' g st c u:=by
 have hrp:∀t (x:El t) off u,jC w g.ro t x off u→jC w' g.ro t x off u:=fun t x off u ⟨b,o,cs,el,fz,h1,h2,h3,h4⟩=>
  ⟨b,o,cs,el,fz,h1,h2,hs.get h3 (hr _ h2),fun j c hj=>let ⟨z,hz,hc⟩:=h4 j c hj;⟨z,hz,hc.same hs hr⟩⟩
 cases c with
 |ro t xs=>exact gC.same hs hr h
 |rp t x off=>exact hrp _ _ _ _ h
 |pJ fn ys=>obtain⟨ps,h1,h2,h3⟩:=h;exact⟨ps,h1,h2,fun i y q hy hq=>hrp _ _ _ _ (h3 i y q hy hq)⟩
 |_=>exact h
theorem Kept.refl(w:World)(Mf:Nat→Prop):Kept w w Mf:=⟨rfl,rfl,rfl,⟨Nat.le_refl _,fun _ _ _=>rfl⟩⟩
theorem Inv.world(I:Inv w0 Mf g st a w){w':World}{X:Nat→Prop}(hs:bD X w w')(dj:∀k,g.ro k→ ¬X k)(n7:∀id k,aS st id→g.rf id k→ ¬X k)
 (AA:∀b,bB st b→ ¬X (g.bx b)) (hk:Kept w0 w' Mf):Inv w0 Mf g st a w':={
 ay:=fun s sv h=>let ⟨u,hu,hr⟩:=I.ay s sv h;⟨u,hu,hr.map fun c u hc=>⟨hc.1,hc.2.world hs dj⟩⟩
 boxes:=fun b x h=>let ⟨us,el,h1,h2⟩:=I.boxes b x h;⟨us,el,hs.get h1 (AA b (by simp[bB,h])),h2.map fun c u hc=>⟨hc.1,hc.2.world hs dj⟩⟩
 roots:=fun id r h=>by
  have hr:=I.roots id r h
  unfold aV at hr ⊢
  split at hr
  ·rename_i hm;exact hr.same hs (n7 id · ⟨r,h,by rw[hm];rfl⟩)
  ·rename_i hm;exact hr.same hs (n7 id · ⟨r,h,by rw[hm];rfl⟩) dj
  ·exact hr.same hs dj
  ·rename_i hm;exact hr.same hs (n7 id · ⟨r,h,by rw[hm];rfl⟩)
 apart:={ I.apart with
  ew:=fun id k h1 h2=>Nat.lt_of_lt_of_le (I.apart.ew id k h1 h2) hs.1
  db:=fun k h=>Nat.lt_of_lt_of_le (I.apart.db k h) hs.1
  bY:=I.apart.bY }
 kept:=hk
 defers:=I.defers
 size:=I.size
 base:=⟨I.base.wl,I.base.ap,I.base.ro⟩ }
theorem mO.ro{G:Nat→Prop}(hG:∀k,g.ro k→G k){c:Sc}{u:Value}(h:mO w g st c u):mO w { g with ro:=G } st c u:=by
 have hrp:∀t (x:El t) off u,jC w g.ro t x off u→jC w G t x off u:=fun t x off u ⟨b,o,cs,el,fz,h1,h2,h3,h4⟩=>
  ⟨b,o,cs,el,fz,h1,hG _ h2,h3,fun j c hj=>let ⟨z,hz,hc⟩:=h4 j c hj;⟨z,hz,hc.mono hG⟩⟩
 cases c with
 |ro t xs=>exact gC.mono hG h
 |rp t x off=>exact hrp _ _ _ _ h
 |pJ fn ys=>obtain⟨ps,h1,h2,h3⟩:=h;exact⟨ps,h1,h2,fun i y q hy hq=>hrp _ _ _ _ (h3 i y q hy hq)⟩
 |_=>exact h
theorem Inv.KU(I:Inv w0 Mf g st a w){G:Nat→Prop}(hG:∀k,g.ro k→G k)(hr:∀id k,aS st id→g.rf id k→ ¬G k)(hb:∀b,bB st b→ ¬G (g.bx b))
    (bU:∀k,G k→k<w.heap.size) (hm:∀k,G k→g.n.r0 k∨w0.heap.size≤k∨Mf k):Inv w0 Mf { g with ro:=G } st a w:={
 ay:=fun s sv h=>let ⟨u,hu,hr⟩:=I.ay s sv h;⟨u,hu,hr.map fun c u hc=>⟨hc.1,hc.2.ro hG⟩⟩
 boxes:=fun b x h=>let ⟨us,el,h1,h2⟩:=I.boxes b x h;⟨us,el,h1,h2.map fun c u hc=>⟨hc.1,hc.2.ro hG⟩⟩
 roots:=fun id r h=>by
  have hr:=I.roots id r h
  unfold aV at hr ⊢
  split at hr
  ·exact hr
  ·exact⟨hr.1,fun p s hp hs=>(hr.2 p s hp hs).mono hG⟩
  ·exact hr.mono hG
  ·exact hr
 apart:={ I.apart with
  eu:=fun id k h1 h2=>hr id k h1 h2
  gD:=hb
  db:=bU
  bY:=hm }
 kept:=I.kept
 defers:=I.defers
 size:=I.size
 base:=⟨I.base.wl,I.base.ap,fun k h=>hG k (I.base.ro k h)⟩ }
def Gh.b7(g:Gh)(id:Nat)(av:Path→Value)(F:Nat→Prop):Gh:=
  { g with rv:=fun i=>if i=id then av else g.rv i,rf:=fun i=>if i=id then F else g.rf i }
def dF(st:St)(id:Nat)(r:cC):Prop:=
  match au st.roots id with
 |none=>True
 |some (.gone v)=>v<r.ver
 |some (.live r')=>r'.ver<r.ver
 |some (.dq r')=>r'.ver<r.ver
theorem mO.b7{id:Nat}{r:cC}(hf:dF st id r){av:Path→Value}{F:Nat→Prop}{c:Sc}{u:Value}(h:mO w g st c u):
    mO w (g.b7 id av F) { st with roots:=bd st.roots id (.live r) } c u:=by
 have hv:∀aJ ver iv,cL st aJ ver iv→cL { st with roots:=bd st.roots id (.live r) } aJ ver iv:=by
  intro aJ ver iv hv
  unfold cL at hv ⊢
  simp only[aH]
  by_cases cS:aJ=id
  ·subst cS
   simp only[if_true]
   unfold dF at hf
   split at hv
   ·rename_i h;simp only[h] at hf;omega
   ·rename_i h;simp only[h] at hf;omega
   ·rename_i h;simp only[h] at hf;omega
   ·exact hv.elim
  ·simpa [cS] using hv
 have dn:∀aJ ver iv p r',cL st aJ ver iv→Vx { st with roots:=bd st.roots id (.live r) } aJ ver iv p r'→aJ≠id∧Vx st aJ ver iv p r':=by
  intro aJ ver iv p r' hvo ⟨h1,h2,h3⟩
  simp only[aH] at h1
  by_cases cS:aJ=id
  ·subst cS
   simp only[if_true,Option.some.injEq,Rt.live.injEq,reduceCtorEq,or_false] at h1
   subst h1
   unfold dF at hf
   unfold cL at hvo
   split at hvo
   ·rename_i h;simp only[h] at hf;omega
   ·rename_i h;simp only[h] at hf;omega
   ·rename_i h;simp only[h] at hf;omega
   ·exact hvo.elim
  ·exact⟨cS,by simpa [cS] using h1,h2,h3⟩
 cases c with
 |h aJ ver iv p=>
  refine⟨hv _ _ _ h.1,fun r' j6=> ?_⟩
  obtain⟨cS,hvd⟩:=dn _ _ _ _ _ h.1 j6
  simpa [Gh.b7,cS] using h.2 r' hvd
 |vw aJ ver lo hi=>
  refine⟨hv _ _ _ h.1,fun r' j6=> ?_⟩
  obtain⟨cS,hvd⟩:=dn _ _ _ _ _ h.1 j6
  simpa [Gh.b7,cS] using h.2 r' hvd
 |pe aJ ver iv p i off=>
  refine⟨hv _ _ _ h.1,fun r' j6=> ?_⟩
  obtain⟨cS,hvd⟩:=dn _ _ _ _ _ h.1 j6
  simpa [Gh.b7,cS] using h.2 r' hvd
 |_=>exact h
theorem Inv.b7(I:Inv w0 Mf g st a w){id:Nat}{r:cC}(hf:dF st id r){av:Path→Value}{F:Nat→Prop}
 (hr:aV w (g.b7 id av F) id r)
 (hF:∀k,F k→(∀ aJ,aS st aJ→aJ≠id→ ¬g.rf aJ k)∧ ¬g.ro k∧(∀ b,bB st b→g.bx b≠k)∧(w0.heap.size≤k∨Mf k)∧k<w.heap.size):
    Inv w0 Mf (g.b7 id av F) { st with roots:=bd st.roots id (.live r) } a w:=by
 have ho:∀aJ,aS { st with roots:=bd st.roots id (.live r) } aJ→aJ≠id→aS st aJ:=fun aJ ⟨r',h1,h2⟩ cS=>
  ⟨r',by simpa [aH,cS] using h1,h2⟩
 exact {
  ay:=fun s sv h=>let ⟨u,hu,hr⟩:=I.ay s sv h;⟨u,hu,hr.map fun c u hc=>⟨hc.1,hc.2.b7 hf⟩⟩
  boxes:=fun b x h=>let ⟨us,el,h1,h2⟩:=I.boxes b x h;⟨us,el,h1,h2.map fun c u hc=>⟨hc.1,hc.2.b7 hf⟩⟩
  roots:=fun aJ r' h=>by
   simp only[aH] at h
   by_cases cS:aJ=id
   ·subst cS;simp only[if_true,Option.some.injEq,Rt.live.injEq] at h;subst h;exact hr
   ·have:=I.roots aJ r' (by simpa [cS] using h)
    unfold aV at this ⊢
    simpa [Gh.b7,cS] using this
  apart:={
   rr:=fun i i' k h1 h2 h3 h4=>by
    by_cases hi:i=id<;>by_cases nz:i'=id
    ·rw[hi,nz]
    ·simp only[Gh.b7,hi,nz,if_true,if_false] at h3 h4
     exact ((hF k h3).1 i' (ho _ h2 nz) nz h4).elim
    ·simp only[Gh.b7,hi,nz,if_true,if_false] at h3 h4
     exact ((hF k h4).1 i (ho _ h1 hi) hi h3).elim
    ·simp only[Gh.b7,hi,nz,if_false] at h3 h4
     exact I.apart.rr i i' k (ho _ h1 hi) (ho _ h2 nz) h3 h4
   rb:=fun i b h1 h2 h3=>by
    by_cases hi:i=id
    ·simp only[Gh.b7,hi,if_true] at h3
     exact (hF _ h3).2.2.1 b h2 rfl
    ·simp only[Gh.b7,hi,if_false] at h3
     exact I.apart.rb i b (ho _ h1 hi) h2 h3
   bb:=I.apart.bb
   eu:=fun i k h1 h3=>by
    by_cases hi:i=id
    ·simp only[Gh.b7,hi,if_true] at h3;exact (hF _ h3).2.1
    ·simp only[Gh.b7,hi,if_false] at h3;exact I.apart.eu i k (ho _ h1 hi) h3
   gD:=I.apart.gD
   cp:=fun i k h1 h3=>by
    by_cases hi:i=id
    ·simp only[Gh.b7,hi,if_true] at h3;exact (hF _ h3).2.2.2.1
    ·simp only[Gh.b7,hi,if_false] at h3;exact I.apart.cp i k (ho _ h1 hi) h3
   dL:=I.apart.dL
   ew:=fun i k h1 h3=>by
    by_cases hi:i=id
    ·simp only[Gh.b7,hi,if_true] at h3;exact (hF _ h3).2.2.2.2
    ·simp only[Gh.b7,hi,if_false] at h3;exact I.apart.ew i k (ho _ h1 hi) h3
   db:=I.apart.db
   bY:=I.apart.bY }
  kept:=I.kept
  defers:=I.defers
  size:=I.size
  base:=⟨I.base.wl,I.base.ap,I.base.ro⟩ }
end Go.Gm
namespace Go.Gm
open Go
def dP(t:Ty):List Value:=(enc t (zero t)).map fun | .v x=>x | .l _ _=> .slice none 0 0
def dt(E:Env)(P:Program)(T:Nat)(t:Ty):Prop:=
  match t with
 | .i k=>P.underlying T=some (.int k)
 | .bool=>P.underlying T=some .bool
 | .str=>P.underlying T=some .string
 | .sl e=>∃el,P.underlying T=some (.slice el)∧E.code el=some e
 |_=>∃fs,P.underlying T=some (.struct fs)
def nA:List Ty→List Value→List Value→Option Bool
 | [],[],[]=>some true
 | .i q::ts,.int k a::r,.int k' b::s=>cond (decide (k=q)&&decide (k'=q)) ((nA ts r s).bind fun e=>some ((a==b)&&e)) none
 | .str::ts,.string a::r,.string b::s=>(nA ts r s).bind fun e=>some ((a==b)&&e)
 | .bool::ts,.bool a::r,.bool b::s=>(nA ts r s).bind fun e=>some ((a==b)&&e)
 |_,_,_=>none
structure Env.Ok (E:Env) (P:Program):Prop where
 info:∀T t,E.code T=some t→∃i zv,P.info? T=some i∧i.size=ar t∧i.bytes≤1024∧i.zero=some zv∧zv.cells=(dP t).toArray
 vv:∀T t,E.code T=some t→dt E P T t
 yq:∀T f off ft,E.yq T f=some (off,ft)→∃fs fd t,P.underlying T=some (.struct fs)∧fs[f]? =some fd∧fd.offset=off∧fd.type=ft∧E.code ft=some t
 sts:∀T fs,P.underlying T=some (.struct fs)→(E.code T).isSome→∃pl,fs.toList.mapM (fun f=>(P.info? f.type).map fun i=>(f.offset,i.size))=some pl
 spec : ∀ f s, E.spec f = some s → bW P f s ∧ ∃ fn, P.funcs[f]? = some fn ∧ fn.body.isSome ∧ fn.name ≠ "runtime.NumGoroutine"
 eqs:∀T ts,E.eq T=some ts→∀(us vs:Array Value)(e:Bool),nA ts us.toList vs.toList=some e→∀w,
  (Op.equal T (.agg us) (.agg vs)).run P w = .ok e w∧(∀ op x y,(eqGuard op T x y (.agg us) (.agg vs)).run P w = .ok () w)
 ord:P.follows .mixedOrders=true
variable {R : Type} {P : Program} {E : Env} {w0 w : World} {Mf : Nat → Prop} {g : Gh} {st : St} {a : Act} {Q : Exit → Act → World → Prop}
theorem Env.Ok.size(hE:E.Ok P){T:Nat}{t:Ty}(h:E.code T=some t)(w:World):(sizeOf T).run P w = .ok (ar t) w:=by
 obtain⟨i,zv,h1,h2,_⟩:=hE.info T t h
 simp[sizeOf,run_typeInfo w h1,h2]
theorem Env.Ok.agg(hE:E.Ok P){T:Nat}{t:Ty}(h:E.code T=some t)(w:World):(isAgg T).run P w = .ok (iZ t) w:=by
 have hu:=hE.vv T t h
 unfold dt at hu
 cases t<;>simp only at hu
 case sl e=>obtain⟨el,hu,_⟩:=hu;simp[isAgg,run_underlying hu,iZ]
 case i k=>simp[isAgg,run_underlying hu,iZ]
 case bool=>simp[isAgg,run_underlying hu,iZ]
 case str=>simp[isAgg,run_underlying hu,iZ]
 all_goals (obtain⟨fs,hu⟩:=hu;simp[isAgg,run_underlying hu,iZ])
theorem Env.Ok.zero(hE:E.Ok P){T:Nat}{t:Ty}(h:E.code T=some t)(w:World):∃zv,(zeroValue T).run P w = .ok zv w∧zv.cells=(dP t).toArray:=by
 obtain⟨i,zv,h1,_,_,h4,h5⟩:=hE.info T t h
 exact⟨zv,by simp[zeroValue,run_typeInfo w h1,h4],h5⟩
theorem Env.Ok.slice(hE:E.Ok P){T:Nat}{e:Ty}(h:E.code T=some (.sl e)):∃el,P.underlying T=some (.slice el)∧E.code el=some e:=hE.vv T _ h
theorem Form.cells{t:Ty}{u:Value}{us:Array Value}(h:Form t u us):u.cells=us:=by
 unfold Form at h
 split at h
 ·subst h;rfl
 ·obtain⟨rfl,hf⟩:=h
  cases u<;>first | rfl | simp[cR] at hf
theorem Form.size{t:Ty}{u:Value}{us:Array Value}(h:Form t u us)(hs:iZ t=false):us = #[u]∧cR u=true:=by simpa [Form,hs] using h
theorem oA{o:Oper}{v:Value}{w':World}{K:Act→World→Prop}(h:(execOp a.eval o).run P w = .ok (.value v) w')(hK:K (a.put o.dst v) w'):o.wp P a w K Q:=by
 unfold Oper.wp;rw[h];exact hK
theorem Inv.val(I:Inv w0 Mf g st a w){o:Oper}(hd:∀d,o.dst=some d→d<g.n.sz){s:Sv}{v:Value}{k:Dl→Option R}{r:R}{K:Act→World→Prop}
 (hK:∀δ g' a' w',k δ=some r→g'.n=g.n→Inv w0 Mf g' (st.apply δ) a' w'→K a' w')
 (df:(execOp a.eval o).run P w = .ok (.value v) w) (hk:k (put o s)=some r) (hs:dO w g st s v):o.wp P a w K Q:=
  oA df (hK _ g _ _ hk rfl (I.Et hd hs))
theorem Inv.gY(I:Inv w0 Mf g st a w){o:Oper}(hd:∀d,o.dst=some d→d<g.n.sz){c:Sc}{v:Value}{k:Dl→Option R}{r:R}{K:Act→World→Prop}
 (hK:∀δ g' a' w',k δ=some r→g'.n=g.n→Inv w0 Mf g' (st.apply δ) a' w'→K a' w')
 (df:(execOp a.eval o).run P w = .ok (.value v) w) (hk:k (gA o c)=some r) (hf:cR v=true) (hs:mO w g st c v):o.wp P a w K Q:=
  I.val hd hK df (s:= .c (.one c)) hk ⟨hf,hs⟩
def zi:Value→Value→Prop
 | .nilIface,.nilIface=>False
 | .agg _,.agg _=>False
 |_,_=>True
theorem SR{op:BinOp}{T:Nat}{x y:Operand}{u v:Value}(h:zi u v)(w:World):(eqGuard op T x y u v).run P w = .ok () w:=by
 unfold eqGuard
 cases b9:(!(op matches .eql | .neq))
 ·simp only[Bool.false_eq_true,if_false]
  cases u<;>cases v<;>first | rfl | exact h.elim
 ·simp only[if_true];rfl
theorem KV{T:Nat}(hu:P.underlying T=some .bool)(a b:Bool)(w:World):(Op.equal T (.bool a) (.bool b)).run P w = .ok (a==b) w:=by
 have key:∀d,(Op.equalIn (d+1) T (.bool a) (.bool b)).run P w = .ok (a==b) w:=fun d=>by
  rw[Op.equalIn]
  simp only[Sem.run_bind,run_underlying hu,Result.andThen_ok,Sem.run_pure]
 exact key 9999
theorem Co(hE:E.Ok P){op:BinOp}{T:Nat}{x y:Value}{k:Value→Option R}{r:R}(h:zd op (isB (E.code T)) x y k=some r)(w:World):
    ∃z,k z=some r∧(Go.binOp op T x y).run P w = .ok z w∧cR z=true∧zi x y:=by
 unfold zd at h
 split at h
 ·rename_i k1 a k2 b
  have key:∀{c:Bool}{x:Option R},(cond c none x)=some r→c=false∧x=some r:=by intro c x h;cases c<;>simp_all
  cases op
  case shl=>obtain⟨hb,h⟩:=key h;exact⟨_,h,by simp[Go.binOp,Op.shift,of_decide_eq_false hb],rfl,trivial⟩
  case shr=>obtain⟨hb,h⟩:=key h;exact⟨_,h,by simp[Go.binOp,Op.shift,of_decide_eq_false hb],rfl,trivial⟩
  all_goals
   obtain⟨hk,h⟩:=bh h
   have hk:=of_decide_eq_true hk
   subst hk
   simp only at h
  case quo=>obtain⟨hb,h⟩:=key h;exact⟨_,h,by simp[Go.binOp,Op.intDiv,of_decide_eq_false hb],rfl,trivial⟩
  case rem=>obtain⟨hb,h⟩:=key h;exact⟨_,h,by simp[Go.binOp,Op.intDiv,of_decide_eq_false hb],rfl,trivial⟩
  all_goals first
   | cases h;done
   | exact⟨_,h,by simp[Go.binOp,Op.intArith,Op.intBits,Op.intCmp],rfl,trivial⟩
 ·rename_i a b
  cases op
  case add=>
   obtain⟨hk,h⟩:=bh h
   have hk:=of_decide_eq_true hk
   refine⟨_,h,?_,rfl,trivial⟩
   have : ¬(((a.size+b.size:Nat):Int)>IntKind.i64.max):=by
    simp only[IntKind.max,IntKind.signed,IntKind.bits,if_true];omega
   simp only[Go.binOp,Op.stringOp,this,if_false,Sem.run_pure]
  all_goals first
   | cases h;done
   | exact⟨_,h,by simp[Go.binOp,Op.stringOp,cy,dE],rfl,trivial⟩
 ·rename_i a b
  cases op
  case eql=>
   obtain⟨ht,h⟩:=bh h
   unfold isB at ht
   split at ht<;>simp only[Bool.false_eq_true] at ht
   rename_i hT
   have hu:P.underlying T=some .bool:=hE.vv T _ hT
   exact⟨_,h,by
    rw[show Go.binOp .eql T (.bool a) (.bool b)=(do pure (.bool (← Op.equal T (.bool a) (.bool b)))) from rfl]
    simp only[Sem.run_bind,KV hu,Result.andThen_ok,Sem.run_pure],rfl,trivial⟩
  case neq=>
   obtain⟨ht,h⟩:=bh h
   unfold isB at ht
   split at ht<;>simp only[Bool.false_eq_true] at ht
   rename_i hT
   have hu:P.underlying T=some .bool:=hE.vv T _ hT
   exact⟨_,h,by
    rw[show Go.binOp .neq T (.bool a) (.bool b)=(do pure (.bool (!(← Op.equal T (.bool a) (.bool b))))) from rfl]
    simp only[Sem.run_bind,KV hu,Result.andThen_ok,Sem.run_pure],rfl,trivial⟩
  all_goals cases h
 ·cases h
end Go.Gm
namespace Go.Gm
open Go
variable {R : Type} {P : Program} {E : Env} {w0 w : World} {Mf : Nat → Prop} {g : Gh} {st : St} {a : Act} {Q : Exit → Act → World → Prop}
  {o:Oper} {k:Dl→Option R} {r:R} {K:Act→World→Prop}
def Then(w0:World)(Mf:Nat→Prop)(g:Gh)(st:St)(k:Dl→Option R)(r:R)(K:Act→World→Prop):Prop:=
  ∀δ g' a' w',k δ=some r→g'.n=g.n→Inv w0 Mf g' (st.apply δ) a' w'→K a' w'
theorem KW(I:Inv w0 Mf g st a w)(hd:∀d,o.dst=some d→d<g.n.sz)(hK:Then w0 Mf g st k r K){x:Operand}(b9:o.op = .move x∨o.op = .assign x)
 (h:dv st x (fun s=>k (put o s))=some r):o.wp P a w K Q:=by
 replace h:=I.dv h;obtain⟨s,hk,hs⟩:=h
 exact I.val hd hK (by rcases b9 with b9 | b9<;>simp[execOp,b9]) hk hs
theorem Yn(I:Inv w0 Mf g st a w)(hd:∀d,o.dst=some d→d<g.n.sz)(hK:Then w0 Mf g st k r K){c x y:Operand}(b9:o.op = .pick c x y)
 (h:eZ E o st k=some r):o.wp P a w K Q:=by
 simp only[eZ,b9] at h
 replace h:=I.getBool h;obtain⟨b,h,hb⟩:=h
 cases b
 ·replace h:=I.dv h;obtain⟨s,hk,hs⟩:=h
  exact I.val hd hK (by simp[execOp,b9,hb,asBool]) hk hs
 ·replace h:=I.dv h;obtain⟨s,hk,hs⟩:=h
  exact I.val hd hK (by simp[execOp,b9,hb,asBool]) hk hs
theorem Ev(I:Inv w0 Mf g st a w)(hd:∀d,o.dst=some d→d<g.n.sz)(hK:Then w0 Mf g st k r K){x:Operand}(b9:o.op = .nilCheck x)
 (h:eZ E o st k=some r):o.wp P a w K Q:=by
 simp only[eZ,b9] at h
 replace h:=I.fV h;obtain⟨c,h,hc⟩:=h
 have key:∀v:Value,a.eval x=v→(match v with | .pointer (some _)=>True | .func (.func _) _ _=>True | _=>False)→(execOp a.eval o).run P w = .ok (.value v) w:=by
  intro v hv hm
  split at hm
  ·simp[execOp,b9,hv]
  ·simp[execOp,b9,hv]
  ·exact hm.elim
 split at h
 ·exact I.gY hd hK (key _ rfl (by rw[hc.2.1];trivial)) h hc.1 hc.2
 ·replace h:=de h;obtain⟨ro,dj,h⟩:=h
  obtain⟨s,b,oo,n,cap,_,_,_,hu⟩:=hc.2.2 ro dj.x
  exact I.gY hd hK (key _ rfl (by rw[hu];trivial)) h hc.1 hc.2
 ·obtain⟨b,oo,cs,el,fz,hu,_⟩:=hc.2
  exact I.gY hd hK (key _ rfl (by rw[hu];trivial)) h hc.1 hc.2
 ·exact I.gY hd hK (key _ rfl (by rw[hc.2.1];trivial)) h hc.1 hc.2
 ·obtain⟨ps,hu,_⟩:=hc.2
  exact I.gY hd hK (key _ rfl (by rw[hu];trivial)) h hc.1 hc.2
 ·cases h
theorem Yo(I:Inv w0 Mf g st a w)(hd:∀d,o.dst=some d→d<g.n.sz)(hK:Then w0 Mf g st k r K){op:UnOp}{T:Nat}{x:Operand}(b9:o.op = .unOp op T x)
 (h:eZ E o st k=some r):o.wp P a w K Q:=by
 simp only[eZ,b9] at h
 replace h:=I.j9 h;obtain⟨h,hf⟩:=h
 split at h
 ·rename_i b hx
  exact I.gY hd hK (by simp[execOp,b9,hx,Op.unary]) h rfl rfl
 ·rename_i kd n hx
  exact I.gY hd hK (by simp[execOp,b9,hx,Op.unary,Op.intArith]) h rfl rfl
 ·cases h
theorem kc{w:World}{g:Gh}{st:St}:∀{ts:List Ty}{xs ys:List Sc}{us vs:List Value}{e:Bool},kF ts xs ys=some e→mT w g st xs us→mT w g st ys vs→nA ts us vs=some e
 | [],xs,ys,us,vs,e,h,h1,h2=>by
  cases xs with | cons _ _=>simp[kF] at h | nil=>
  cases ys with | cons _ _=>simp[kF] at h | nil=>
  cases us<;>cases vs<;>first | exact h1.elim | exact h2.elim | exact h
 |t::ts,[],_,_,_,_,h,_,_=>by cases t<;>simp[kF] at h
 |t::ts,c::r,[],_,_,_,h,_,_=>by cases t<;>simp[kF] at h
 |t::ts,c::r,c'::s,us,vs,e,h,h1,h2=>by
  cases us with | nil=>exact h1.elim | cons u us=>
  cases vs with | nil=>exact h2.elim | cons v vs=>
  obtain⟨⟨_,hu⟩,h1⟩:=h1
  obtain⟨⟨_,hv⟩,h2⟩:=h2
  cases t<;>try (simp[kF] at h;done)
  all_goals
   cases c<;>cases c'<;>try (simp[kF] at h;done)
   rename_i x y
   simp only[mO] at hu hv
   subst hu;subst hv
   cases u<;>cases v<;>try (simp[kF] at h;done)
  ·simp only[kF] at h
   obtain⟨hq,h⟩:=bh h
   replace h:=aT h;obtain⟨e',he,h⟩:=h
   simp only[nA,hq,cond_true,kc he h1 h2,Option.bind_some];exact h
  ·simp only[kF] at h
   replace h:=aT h;obtain⟨e',he,h⟩:=h
   simp only[nA,kc he h1 h2,Option.bind_some];exact h
  ·simp only[kF] at h
   replace h:=aT h;obtain⟨e',he,h⟩:=h
   simp only[nA,kc he h1 h2,Option.bind_some];exact h
theorem SS(hE:E.Ok P)(I:Inv w0 Mf g st a w)(hd:∀d,o.dst=some d→d<g.n.sz)(hK:Then w0 Mf g st k r K){op:BinOp}{T T':Nat}{x y:Operand}(b9:o.op = .binOp op T x y T')
 (h:eZ E o st k=some r):o.wp P a w K Q:=by
 simp only[eZ,b9] at h
 replace h:=I.dv h;obtain⟨s,h,hs⟩:=h
 replace h:=I.dv h;obtain⟨s',h,eK⟩:=h
 split at h
 ·rename_i u v
  have hu:=hs.2
  have hv:=eK.2
  simp only[mO] at hu hv
  obtain⟨z,hz,df,hf,hn⟩:=Co hE h w
  exact I.gY hd hK (by simp[execOp,b9,hu,hv,SR hn,df]) hz hf rfl
 ·rename_i xs ys
  replace h:=aT h;obtain⟨ets,he,h⟩:=h
  obtain⟨us,hu,lr⟩:=hs
  obtain⟨vs,hv,qS⟩:=eK
  split at h
  ·replace h:=aT h;obtain⟨e,hee,h⟩:=h
   obtain⟨h1,h2⟩:=hE.eqs T ets he us vs e (kc hee lr.l qS.l) w
   refine I.gY hd hK ?_ h rfl rfl
   simp only[execOp,b9,hu,hv,Sem.run_bind,h2,Result.andThen_ok]
   rw[show Go.binOp .eql T (.agg us) (.agg vs)=(do pure (.bool (← Op.equal T (.agg us) (.agg vs)))) from rfl]
   simp only[Sem.run_bind,h1,Result.andThen_ok,Sem.run_pure]
  ·replace h:=aT h;obtain⟨e,hee,h⟩:=h
   obtain⟨h1,h2⟩:=hE.eqs T ets he us vs e (kc hee lr.l qS.l) w
   refine I.gY hd hK ?_ h rfl rfl
   simp only[execOp,b9,hu,hv,Sem.run_bind,h2,Result.andThen_ok]
   rw[show Go.binOp .neq T (.agg us) (.agg vs)=(do pure (.bool (!(← Op.equal T (.agg us) (.agg vs))))) from rfl]
   simp only[Sem.run_bind,h1,Result.andThen_ok,Sem.run_pure]
  ·cases h
 ·rename_i t xs
  replace h:=aT h;obtain⟨e,he,h⟩:=h
  have he:E.code T=some (.sl e):=by
   unfold jb at he;split at he<;>cases he;assumption
  obtain⟨el,hu,pg⟩:=hE.slice he
  cases yt:xs.isEmpty
  ·rw[yt,cond_false] at h
   obtain⟨av,h0,fX⟩:=hs.2
   obtain⟨ad,cap,e1,_,dn⟩:=fX [] ⟨t,xs⟩ rfl
   obtain⟨b,oo,cs,pM,fz,rfl,_⟩:=dn (fun hn=>by simp only at hn;rw[hn] at yt;cases yt)
   rw[h0] at e1
   have hv:a.eval y = .slice none 0 0:=eK.2
   have hq:∀neg:Bool,(Go.binOp (if neg then .neq else .eql) T (a.eval x) (a.eval y)).run P w = .ok (.bool neg) w:=by
    intro neg
    rw[e1,hv]
    cases neg
    ·exact Lib.run_eql_slice_nil w T _ _ _ _ _ _ hu
    ·exact run_neq_slice_nil w T _ _ _ _ hu
   split at h
   ·exact I.gY hd hK (by have q:=hq false;rw[e1,hv] at q;simp only[if_true,if_false,Bool.false_eq_true] at q;simp[execOp,b9,e1,hv,eqGuard_at_slice,q]) h rfl rfl
   ·exact I.gY hd hK (by have q:=hq true;rw[e1,hv] at q;simp only[if_true,if_false,Bool.false_eq_true] at q;simp[execOp,b9,e1,hv,eqGuard_at_slice,q]) h rfl rfl
   ·cases h
  ·rw[yt,cond_true] at h;cases h
 ·cases h
theorem Ew(I:Inv w0 Mf g st a w)(hd:∀d,o.dst=some d→d<g.n.sz)(hK:Then w0 Mf g st k r K){fn:Fn}{first ou:Array Operand}(b9:o.op = .makeFunc fn first ou)
 (h:eZ E o st k=some r):o.wp P a w K Q:=by
 simp only[eZ,b9] at h
 split at h
 ·rename_i f hf
  replace h:=I.mR h;obtain⟨ss,h,hl,zj⟩:=h
  replace h:=aT h;obtain⟨bs,W6,h⟩:=h
  have Ey:first = #[]:=by
   have:=congrArg List.toArray hf;simpa using this
  have key:∀(ss:List Sv)(bs:List Nat)(cs:List Operand),Ci ss=some bs→ss.length=cs.length→
    (∀(j:Nat) s,ss[j]? =some s→∃x,cs[j]? =some x∧dO w g st s (a.eval x))→
    cs.map a.eval=bs.map (fun b=>Value.pointer (some ⟨g.bx b,0,none⟩))∧∀b∈bs,(au st.boxes b).isSome:=by
   intro ss
   induction ss with
   |nil=>
    intro bs cs h1 h2 _
    simp only[Ci,Option.some.injEq] at h1;subst h1
    cases cs with | nil=>simp | cons c cs=>simp at h2
   |cons s ss ih=>
    intro bs cs h1 h2 h3
    cases cs with
    |nil=>simp at h2
    |cons c cs=>
     unfold Ci at h1
     split at h1
     ·rename_i heq;cases heq
     ·rename_i b r' heq
      obtain⟨rfl,rfl⟩:=List.cons.inj heq
      obtain⟨bs',fI,h1⟩:=aT h1
      simp only[Option.some.injEq] at h1;subst h1
      obtain⟨e1,e2⟩:=ih bs' cs fI (by simpa using h2) (fun j s hj=>by simpa using h3 (j+1) s (by simpa using hj))
      obtain⟨x,hx,hs⟩:=h3 0 _ rfl
      simp only[List.getElem?_cons_zero,Option.some.injEq] at hx;subst hx
      exact⟨by simp[e1,hs.2.1],fun b' hb=>by
       rcases List.mem_cons.1 hb with rfl | hb
       ·exact hs.2.2
       ·exact e2 b' hb⟩
     ·cases h1
  obtain⟨e1,e2⟩:=key ss bs ou.toList W6 hl zj
  have e3:ou.map a.eval=(bs.map (fun b=>Value.pointer (some ⟨g.bx b,0,none⟩))).toArray:=by
   apply Array.ext';simpa using e1
  refine I.gY hd hK (v:= .func (.func f) #[] (bs.map (fun b=>Value.pointer (some ⟨g.bx b,0,none⟩))).toArray) ?_ h rfl ⟨rfl,e2⟩
  simp[execOp,b9,Instr.makeFunc,Ey,e3]
 ·cases h
theorem IG(I:Inv w0 Mf g st a w)(hd:∀d,o.dst=some d→d<g.n.sz)(hK:Then w0 Mf g st k r K){x:Operand}{i:Nat}(b9:o.op = .extract x i)
 (h:eZ E o st k=some r):o.wp P a w K Q:=by
 simp only[eZ,b9] at h
 replace h:=I.dv h;obtain⟨s,h,hs⟩:=h
 split at h
 ·replace h:=aT h;obtain⟨c,hc,h⟩:=h
  obtain⟨us,hu,_,hr⟩:=hs
  obtain⟨z,hz,AB⟩:=hr i c hc
  exact I.val hd hK (by simp[execOp,b9,Instr.extract,hu,hz]) h AB
 ·cases h
theorem SU(hE:E.Ok P)(I:Inv w0 Mf g st a w)(hd:∀d,o.dst=some d→d<g.n.sz)(hK:Then w0 Mf g st k r K){T:Nat}{x i:Operand}(b9:o.op = .index T x i)
 (h:eZ E o st k=some r):o.wp P a w K Q:=by
 simp only[eZ,b9] at h
 replace h:=I.j9 h;obtain⟨h,_⟩:=h
 replace h:=I.getInt h;obtain⟨n,h,hn⟩:=h
 split at h
 ·rename_i s hT hx
  replace h:=bh h;obtain⟨hb,h⟩:=h
  simp only[Bool.and_eq_true,decide_eq_true_eq] at hb
  have hu:P.underlying T=some .string:=hE.vv T _ hT
  have bU:n.toNat<s.data.size:=by have:s.data.size=s.size:=rfl;omega
  refine I.gY hd hK ?_ h rfl rfl
  have e1:s[n.toNat]? =some (s.data.getD n.toNat 0):=by
   show (if h:n.toNat<s.size then some s[n.toNat] else none)=_
   have qX:n.toNat<s.size:=bU
   rw[dif_pos qX,Array.getD,dif_pos bU];rfl
  simp only[execOp,b9,hx,hn,Instr.index,asIntOf,Sem.run_bind,Sem.run_pure,Result.andThen_ok,run_underlying hu,hb.1,if_true,e1]
 ·cases h
theorem eA(b o n:Nat):(⟨b,o,none⟩:Addr).add n=⟨b,o+n,none⟩:=by
 unfold Addr.add;split
 ·rename_i h;subst h;rfl
 ·rfl
theorem gF{q:Option Ty}{e:Ty}(h:jb q=some e):q=some (.sl e):=by
 unfold jb at h;split at h
 ·simp only[Option.some.injEq] at h;subst h;rfl
 ·cases h
theorem vx{q:Option Ty}(h:isStr q=true):q=some .str:=by
 unfold isStr at h;split at h
 ·rfl
 ·cases h
theorem Cp(hE:E.Ok P)(I:Inv w0 Mf g st a w)(hd:∀d,o.dst=some d→d<g.n.sz)(hK:Then w0 Mf g st k r K){T f:Nat}{x:Operand}(b9:o.op = .fieldAddr T x f)
 (h:eZ E o st k=some r):o.wp P a w K Q:=by
 simp only[eZ,b9] at h
 replace h:=aT h;obtain⟨⟨off,ft⟩,KX,h⟩:=h
 obtain⟨fs,fd,t,hu,Yp,rfl,rfl,vy⟩:=hE.yq T f _ _ KX
 replace h:=I.fV h;obtain⟨c,h,hc⟩:=h
 have key:∀b oo,a.eval x = .pointer (some ⟨b,oo,none⟩)→(execOp a.eval o).run P w = .ok (.value (.pointer (some ⟨b,oo+fd.offset,none⟩))) w:=by
  intro b oo hx
  have dy:ar t≠0:=by have:=eW t;omega
  simp[execOp,b9,hx,Instr.fieldAt,Instr.sureAddr,fieldPlace,run_underlying hu,Yp,hE.size vy,dy,eA]
 split at h
 ·rename_i b off
  exact I.gY hd hK (key _ _ hc.2.1) h rfl ⟨rfl,hc.2.2⟩
 ·rename_i id ver iv p i off
  replace h:=de h;obtain⟨ro,dj,h⟩:=h
  obtain⟨s,b,oo,n,cap,h1,h2,h3,hu⟩:=hc.2.2 ro dj.x
  refine I.gY hd hK (key _ _ hu) h rfl ⟨hc.2.1,fun ro' Ez=> ?_⟩
  obtain⟨s,b',Yq,n',iE,uU,KF,h3',yu⟩:=hc.2.2 ro' Ez
  rw[hu] at yu
  simp only[Value.pointer.injEq,Option.some.injEq,Addr.mk.injEq,and_true] at yu
  refine⟨s,b',Yq,n',iE,uU,KF,h3',?_⟩
  simp only[Value.pointer.injEq,Option.some.injEq,Addr.mk.injEq,and_true]
  omega
 ·rename_i t' y off
  obtain⟨b,oo,cs,el,fz,hu,h1,h2,h3⟩:=hc.2
  refine I.gY hd hK (key _ _ hu) h rfl ⟨b,oo,cs,el,fz,by rw[Nat.add_assoc],h1,h2,h3⟩
 ·cases h
theorem Cq(hE:E.Ok P)(I:Inv w0 Mf g st a w)(hd:∀d,o.dst=some d→d<g.n.sz)(hK:Then w0 Mf g st k r K){T:Nat}{x i:Operand}(b9:o.op = .indexAddr T x i)
 (h:eZ E o st k=some r):o.wp P a w K Q:=by
 simp only[eZ,b9] at h
 replace h:=I.fV h;obtain⟨c,h,hc⟩:=h
 replace h:=I.getInt h;obtain⟨n,h,hn⟩:=h
 replace h:=aT h;obtain⟨e,he,h⟩:=h
 have hT:=gF he
 obtain⟨el,hu,pg⟩:=hE.slice hT
 have key:∀b oo len cap,a.eval x = .slice (some ⟨b,oo,none⟩) len cap→0≤n→n<len→(execOp a.eval o).run P w = .ok (.value (.pointer (some ⟨b,oo+n.toNat*ar e,none⟩))) w:=by
  intro b oo len cap hx h0 h1
  simp[execOp,b9,hx,hn,Instr.indexAt,asIntOf,run_underlying hu,h0,h1,hE.size pg,eA]
 split at h
 ·rename_i t xs
  replace h:=bh h;obtain⟨dy,h⟩:=h
  replace h:=bh h;obtain⟨hb,h⟩:=h
  have dy:=iC dy
  simp only[Bool.and_eq_true,decide_eq_true_eq] at hb
  have bU:n.toNat<xs.length:=by omega
  obtain⟨av,h0,fX⟩:=hc.2
  obtain⟨ad,cap,e1,_,hh⟩:=fX [] ⟨t,xs⟩ rfl
  obtain⟨b,oo,cs,pM,fz,rfl,hP,hbk,du⟩:=hh (fun qt=>by simp only at qt;subst qt;simp at bU)
  rw[h0] at e1
  refine I.gY hd hK (key b oo _ cap e1 hb.1 hb.2) h rfl ⟨b,oo+n.toNat*ar e,cs,pM,fz,by simp,hP,hbk,fun j c hj=> ?_⟩
  obtain⟨z,hz,n8⟩:=du n.toNat _ j c (dm bU) hj
  refine⟨z,by rw[dy];exact hz,?_⟩
  cases c with
  |v y=>exact n8
  |l t' ys=>
   have hs:aQ t xs [(n.toNat,j)]=some ⟨t',ys⟩:=by simp only[aQ,dm bU,hj]
   exact⟨fun q=>av ([(n.toNat,j)]++q),by simpa [eI] using n8.symm,fX.at hs⟩
 ·rename_i id ver iv p
  replace h:=de h;obtain⟨ro,dj,h⟩:=h
  replace h:=bh h;obtain⟨B6,h⟩:=h
  replace h:=aT h;obtain⟨s,hs,h⟩:=h
  replace h:=bh h;obtain⟨dy,h⟩:=h
  replace h:=bh h;obtain⟨hb,h⟩:=h
  have dy:=iC dy
  simp only[Bool.and_eq_true,decide_eq_true_eq] at hb
  have bU:n.toNat<s.xs.length:=by omega
  obtain⟨hx,lv⟩:=hc.2.2 ro dj.x
  obtain⟨s',eK⟩:=Option.isSome_iff_exists.1 lv
  have:=cW eK;rw[hs] at this;cases this
  obtain⟨ad,cap,e1,_,hh⟩:=I.oz dj.1 B6 eK
  obtain⟨b,oo,cs,pM,fz,rfl,hP,hbk,du⟩:=hh (fun qt=>by rw[qt] at bU;simp at bU)
  refine I.gY hd hK (key b oo _ cap (hx.trans e1) hb.1 hb.2) h rfl ⟨?_,fun ro' Ez=> ?_⟩
  ·have:=dj.1
   unfold cL;simp only[this]
   exact .inr ⟨dj.2.1.symm,Nat.le_refl _⟩
  ·have:ro'=ro:=Ez.is dj.1
   subst this
   exact⟨s,b,oo,_,cap,eK,bU,e1,by rw[dy];simp⟩
 ·rename_i id ver lo hi
  replace h:=di h;obtain⟨ro,hv,gE,h⟩:=h
  replace h:=bh h;obtain⟨dy,h⟩:=h
  replace h:=bh h;obtain⟨hb,h⟩:=h
  have dy:=iC dy
  simp only[Bool.and_eq_true,decide_eq_true_eq] at hb
  obtain⟨h1,h2,hx⟩:=hc.2.2 ro ⟨.inl hv,gE,ig _ _⟩
  have hlen:((ro.xs.take hi).drop lo).length=hi-lo:=by simp;omega
  rw[hlen] at hb
  obtain⟨ad,cap,e1,hle,hh⟩:=I.oz hv (p:=[]) (s:=⟨ro.t,ro.xs⟩) (by cases ro.md<;>rfl) rfl
  obtain⟨b,oo,cs,pM,fz,rfl,hP,hbk,du⟩:=hh (fun qt=>by simp only at qt;rw[qt] at h2;simp at h2;omega)
  have oi:a.eval x = .slice (some ⟨b,oo+lo*ar ro.t,none⟩) (hi-lo) (cap-lo):=by
   rw[hx,e1]
   simp only[mn]
   simp only at hle
   rw[if_neg (by omega)]
   simp[eA]
  refine I.gY hd hK (key b _ _ _ oi hb.1 (by omega)) h rfl ⟨?_,fun ro' Ez=> ?_⟩
  ·unfold cL;simp only[hv]
   exact .inr ⟨gE.symm,Nat.le_refl _⟩
  ·have:ro'=ro:=Ez.is hv
   subst this
   refine⟨⟨ro'.t,ro'.xs⟩,b,oo,_,cap,rfl,by simp only;omega,e1,?_⟩
   rw[dy];simp only[Nat.add_mul];simp;omega
 ·cases h
theorem ph{x:Value}{n:Int}{y:Nat}{code:BoundsCode}(hx:x = .int .i64 n)(h0:0≤n)(h1:n≤y)(w:World):(Instr.sliceBound x y code).run P w = .ok n.toNat w:=by
 subst hx
 simp[Instr.sliceBound,asIntOf,h0,h1]
theorem SV(hE:E.Ok P)(I:Inv w0 Mf g st a w)(hd:∀d,o.dst=some d→d<g.n.sz)(hK:Then w0 Mf g st k r K){T:Nat}{x:Operand}{lo hi:Option Operand}(b9:o.op = .slice T x lo hi none)
 (h:eZ E o st k=some r):o.wp P a w K Q:=by
 simp only[eZ,b9] at h
 replace h:=I.fV h;obtain⟨c,h,hc⟩:=h
 have bounds:∀(b:Bool)(len cap:Nat)(l hh:Int),GK a lo 0 l→GK a hi len hh→
   0≤l→l≤hh→hh≤len→len≤cap→(Instr.sliceBounds b len cap (lo.map a.eval) (hi.map a.eval) none).run P w = .ok (l.toNat,hh.toNat,cap) w:=by
  intro b len cap l hh h1 h2 h3 h4 h5 h6
  cases lo<;>cases hi<;>simp only[GK] at h1 h2<;>unfold Instr.sliceBounds
  ·subst h1;subst h2;simp
  ·subst h1;simp[ph (P:=P) h2 (by omega) (by omega:hh≤(cap:Int)) w]
  ·subst h2;simp[ph (P:=P) h1 h3 (by omega:l≤(len:Int)) w]
  ·simp[ph (P:=P) h2 (by omega) (by omega:hh≤(cap:Int)) w,ph (P:=P) h1 h3 (by omega:l≤((hh.toNat:Nat):Int)) w]
 split at h
 ·rename_i s
  replace h:=bh h;obtain⟨hT,h⟩:=h
  have hu:P.underlying T=some .string:=hE.vv T _ (vx hT)
  replace h:=I.fW h;obtain⟨l,h,hl⟩:=h
  replace h:=I.fW h;obtain⟨hh,h,hhh⟩:=h
  replace h:=bh h;obtain⟨hb,h⟩:=h
  simp only[Bool.and_eq_true,decide_eq_true_eq] at hb
  refine I.gY hd hK ?_ h rfl rfl
  have hx:=hc.2;simp only[mO] at hx
  simp only[execOp,b9,hx,Instr.sliceAt,Instr.slice,Sem.run_bind,run_underlying hu,Result.andThen_ok,Option.map_none,Option.isSome_none,Bool.false_eq_true,if_false,
   bounds false s.size s.size l hh hl hhh hb.1 hb.2.1 hb.2.2 (Nat.le_refl _),Sem.run_pure]
 ·rename_i t xs
  replace h:=aT h;obtain⟨e,he,h⟩:=h
  have hT:=gF he
  obtain⟨el,hu,pg⟩:=hE.slice hT
  replace h:=bh h;obtain⟨dy,h⟩:=h
  have dy:=iC dy
  replace h:=I.fW h;obtain⟨l,h,hl⟩:=h
  replace h:=I.fW h;obtain⟨hh,h,hhh⟩:=h
  replace h:=bh h;obtain⟨hb,h⟩:=h
  simp only[Bool.and_eq_true,decide_eq_true_eq] at hb
  obtain⟨av,h0,fX⟩:=hc.2
  obtain⟨ad,cap,e1,hle,_⟩:=fX [] ⟨t,xs⟩ rfl
  simp only at e1 hle
  have yB:=fX.cut (lo:=l.toNat) (hi:=hh.toNat) (by omega) (by omega)
  rw[h0] at e1
  rw[h0,e1] at yB
  refine I.gY hd hK (v:=mn (ar t) (.slice ad xs.length cap) l.toNat hh.toNat) ?_ h rfl yB
  simp only[execOp,b9,e1,Instr.sliceAt,Instr.slice,Sem.run_bind,run_underlying hu,Result.andThen_ok,Option.map_none,
   bounds true xs.length cap l hh hl hhh hb.1 hb.2.1 hb.2.2 hle,Sem.run_pure,hE.size pg,dy,mn]
 ·rename_i id ver iv
  replace h:=aT h;obtain⟨e,he,h⟩:=h
  have hT:=gF he
  obtain⟨el,hu,pg⟩:=hE.slice hT
  replace h:=di h;obtain⟨ro,hv,gE,h⟩:=h
  replace h:=bh h;obtain⟨dy,h⟩:=h
  have dy:=iC dy
  replace h:=I.fW h;obtain⟨l,h,hl⟩:=h
  replace h:=I.fW h;obtain⟨hh,h,hhh⟩:=h
  replace h:=bh h;obtain⟨hb,h⟩:=h
  simp only[Bool.and_eq_true,decide_eq_true_eq] at hb
  obtain⟨hx,_⟩:=hc.2.2 ro ⟨.inl hv,gE,ig _ _⟩
  obtain⟨ad,cap,e1,hle,_⟩:=I.oz hv (p:=[]) (s:=⟨ro.t,ro.xs⟩) (by cases ro.md<;>rfl) rfl
  simp only at e1 hle
  refine I.gY hd hK (v:=mn (ar ro.t) (g.rv id []) l.toNat hh.toNat) ?_ h ?_ ⟨?_,fun ro' Ez=> ?_⟩
  ·rw[e1] at hx ⊢
   simp only[execOp,b9,hx,Instr.sliceAt,Instr.slice,Sem.run_bind,run_underlying hu,Result.andThen_ok,Option.map_none,
    bounds true ro.xs.length cap l hh hl hhh hb.1 hb.2.1 hb.2.2 hle,Sem.run_pure,hE.size pg,dy,mn]
  ·rw[e1];rfl
  ·unfold cL;simp only[hv];exact .inr ⟨gE.symm,Nat.zero_le _⟩
  ·have:ro'=ro:=Ez.is hv
   subst this
   exact⟨by omega,by omega,rfl⟩
 ·cases h
theorem Form.of{t:Ty}{cs:List Sc}{c:Cm}(h:Cf t cs=some c){us:Array Value}(hc:cJ w g st cs us):∃u,Form t u us∧jc w g st c u:=by
 unfold Cf at h
 split at h
 ·rename_i ht
  simp only[Option.some.injEq] at h;subst h
  exact⟨.agg us,by simp[Form,ht],us,rfl,hc⟩
 ·rename_i c' ht
  simp only[Option.some.injEq] at h;subst h
  obtain⟨z,hz,hr⟩:=hc.2 0 c' rfl
  have hs:=hc.1
  simp only[List.length_singleton] at hs
  have tG:us = #[z]:=by
   apply Array.ext
   ·simpa using hs
   ·intro i h1 h2
    have:i=0:=by simp at h2;omega
    subst this
    have:=Array.getElem?_eq_getElem (xs:=us) (i:=0) (by omega)
    rw[this] at hz;simpa using hz
  exact⟨z,by simp[Form,ht,tG,hr.1],hr⟩
 ·cases h
theorem KY(hE:E.Ok P){T:Nat}{t:Ty}(hT:E.code T=some t)(cs:Array Value)(off:Nat)(hl:off+ar t≤cs.size)(hf:∀(i:Nat) v,cs[i]? =some v→cR v=true)(w:World):
    ∃u,(part T cs off).run P w = .ok u w∧Form t u (cs.extract off (off+ar t)):=by
 cases hs:iZ t
 ·have h1:=GI t hs
  have bU:off<cs.size:=by omega
  refine⟨cs[off],by simp[part,hE.agg hT,hs,bU],?_⟩
  simp only[Form,hs,Bool.false_eq_true,if_false]
  refine⟨?_,hf off _ (by simp[bU])⟩
  apply Array.ext
  ·simp;omega
  ·intro i h2 h3
   have:i=0:=by simp at h3;omega
   subst this;simp
 ·exact⟨.agg (cs.extract off (off+ar t)),by simp[part,hE.agg hT,hs,hE.size hT],by simp[Form,hs]⟩
theorem SW(hE:E.Ok P)(I:Inv w0 Mf g st a w)(hd:∀d,o.dst=some d→d<g.n.sz)(hK:Then w0 Mf g st k r K){T f:Nat}{x:Operand}(b9:o.op = .field T x f)
 (h:eZ E o st k=some r):o.wp P a w K Q:=by
 simp only[eZ,b9] at h
 replace h:=aT h;obtain⟨⟨off,ft⟩,KX,h⟩:=h
 obtain⟨fs,fd,t,hu,Yp,rfl,rfl,vy⟩:=hE.yq T f _ _ KX
 simp only at h
 replace h:=aT h;obtain⟨t',ht',h⟩:=h
 rw[vy] at ht';cases ht'
 replace h:=I.dv h;obtain⟨s,h,hs⟩:=h
 split at h
 ·rename_i cs
  replace h:=bh h;obtain⟨hl,h⟩:=h
  replace h:=aT h;obtain⟨c,hc,h⟩:=h
  have hl:=iD hl
  obtain⟨us,yu,fq⟩:=hs
  have pN:∀(i:Nat) v,us[i]? =some v→cR v=true:=by
   intro i v hv
   have hi:i<cs.length:=by
    rw[← fq.1]
    rcases Nat.lt_or_ge i us.size with h' | h'
    ·exact h'
    ·simp[Array.getElem?_eq_none h'] at hv
   obtain⟨z,hz,hr⟩:=fq.2 i _ (List.getElem?_eq_getElem hi)
   rw[hv] at hz;cases hz;exact hr.1
  obtain⟨u,df,eU⟩:=KY hE vy us fd.offset (by rw[fq.1];exact hl) pN w
  have yB:cJ w g st ((cs.drop fd.offset).take (ar t)) (us.extract fd.offset (fd.offset+ar t)):=by
   have dy:=fq.1
   refine⟨by simp[fq.1];omega,fun j c' hj=> ?_⟩
   rw[List.getElem?_take] at hj
   split at hj
   ·rw[List.getElem?_drop] at hj
    obtain⟨z,hz,hr⟩:=fq.2 _ _ hj
    refine⟨z,?_,hr⟩
    rw[Array.getElem?_extract,if_pos (by omega)];exact hz
   ·cases hj
  obtain⟨u',eL,AB⟩:=Form.of hc yB
  have:u=u':=by
   unfold Form at eU eL
   split at eU
   ·rename_i jh;simp only[jh,if_true] at eL;rw[eU,eL]
   ·rename_i jh;simp only[jh,if_false] at eL;have:=eU.1.symm.trans eL.1;simpa using this
  subst this
  refine I.val hd hK ?_ h AB
  simp[execOp,b9,Instr.field,run_underlying hu,Yp,yu,asAgg,df]
 ·cases h
theorem SX{w:World}{b:Nat}{us:Array Value}{el:Nat}{fz:Nat×Nat}(hb:w.heap[b]? =some (.cells us el fz))(o:Nat):w.cell? ⟨b,o,none⟩=us[o]? :=by
 simp[World.cell?,hb]
theorem II(hE:E.Ok P)(I:Inv w0 Mf g st a w)(hd:∀d,o.dst=some d→d<g.n.sz)(hK:Then w0 Mf g st k r K){S T:Nat}{x:Operand}(b9:o.op = .convert S T x)
 (h:eZ E o st k=some r):o.wp P a w K Q:=by
 simp only[eZ,b9] at h
 split at h
 ·rename_i ks kd hS hT
  have h1:P.underlying S=some (.int ks):=hE.vv S _ hS
  have h2:P.underlying T=some (.int kd):=hE.vv T _ hT
  replace h:=I.j9 h;obtain⟨h,_⟩:=h
  split at h
  ·rename_i kk n hx
   exact I.gY hd hK (by simp[execOp,b9,hx,convert,run_underlying h1,run_underlying h2,Conv.intToInt]) h rfl rfl
  ·cases h
 ·rename_i ks hS hT
  have h1:P.underlying S=some (.int ks):=hE.vv S _ hS
  have h2:P.underlying T=some .string:=hE.vv T _ hT
  replace h:=I.j9 h;obtain⟨h,_⟩:=h
  split at h
  ·rename_i kk n hx
   exact I.gY hd hK (by simp[execOp,b9,hx,convert,run_underlying h1,run_underlying h2,Conv.intToString]) h rfl rfl
  ·cases h
 ·rename_i hS hT
  have h1:P.underlying S=some .string:=hE.vv S _ hS
  have h2:P.underlying T=some .string:=hE.vv T _ hT
  replace h:=I.j9 h;obtain⟨h,_⟩:=h
  split at h
  ·rename_i s hx
   exact I.gY hd hK (by simp[execOp,b9,hx,convert,run_underlying h1,run_underlying h2]) h rfl rfl
  ·cases h
 ·rename_i hS hT
  obtain⟨el,h1,pg⟩:=hE.slice hS
  have uU:P.underlying el=some (.int .u8):=hE.vv el _ pg
  have h2:P.underlying T=some .string:=hE.vv T _ hT
  replace h:=I.fV h;obtain⟨c,h,hc⟩:=h
  replace h:=I.pK h hc;obtain⟨cv,h,qS⟩:=h
  replace h:=aT h;obtain⟨xs,yt,h⟩:=h
  have:=Cv.ie yt;subst this
  obtain⟨av,h0,fX⟩:=qS
  obtain⟨ad,cap,e1,hle,hh⟩:=fX [] ⟨.i .u8,xs⟩ rfl
  simp only at e1 hh
  rw[h0] at e1
  refine I.gY hd hK ?_ h rfl rfl
  have hc:(convert S T (.slice ad xs.length cap)).run P w = .ok (.string (bytesOf xs)) w:=by
   rw[run_convert_bytes_string w S T el ad xs.length cap h1 uU h2]
   cases ad with
   |none=>
    have hn:xs=[]:=Classical.byContradiction fun hn=>by
     obtain⟨b,o',cs,pM,fz,h3,_⟩:=hh hn
     cases h3
    subst hn
    simp[Conv.bytesToString,bytesOf,ByteArray.empty,ByteArray.emptyWithCapacity];rfl
   |some adr=>
    have hl:(loadCells adr xs.length).run P w = .ok (xs.map (Value.int .u8)).toArray w:=by
     by_cases hn:xs=[]
     ·subst hn;rfl
     ·obtain⟨b,o',cs,pM,fz,h3,_,h4,h5⟩:=hh hn
      cases h3
      have:=run_loadCells_list (P:=P) w ⟨b,o',none⟩ (xs.map (Value.int .u8)) (fun j v hj=>by
       obtain⟨x,hx,rfl⟩:∃x,xs[j]? =some x∧Value.int .u8 x=v:=by simpa using hj
       obtain⟨u,hu,lr⟩:=h5 j x 0 (.v (.int .u8 x)) hx rfl
       have lr:u = .int .u8 x:=lr
       subst lr
       have e1:ar (.i .u8)=1:=rfl
       simp only[e1,Nat.mul_one,Nat.add_zero] at hu
       rw[show (⟨b,o',none⟩:Addr).add j=⟨b,o'+j,none⟩ by unfold Addr.add;split<;>simp_all,SX h4]
       exact hu)
      simpa using this
    rw[run_bytesToString w adr xs.length cap xs hl,foldl_push_bytes]
    simp[bytesOf,ByteArray.empty,ByteArray.emptyWithCapacity];rfl
  simp only[execOp,b9,e1,Sem.run_bind,hc,Result.andThen_ok]
  rfl
 ·cases h
theorem acM(hE:E.Ok P)(I:Inv w0 Mf g st a w)(hd:∀d,o.dst=some d→d<g.n.sz)(hK:Then w0 Mf g st k r K){c:Call}(b9:o.op = .call c)(hc:c.callee = .builtin .len)
 (h:eZ E o st k=some r):o.wp P a w K Q:=by
 simp only[eZ,b9,hc,eY] at h
 split at h
 case h_2=>cases h
 rename_i x T ik KZ
 have jH:c.args = #[x]:=by apply Array.ext';simpa using ik
 have Cr:c.argTypes = #[T]:=by apply Array.ext';simpa using KZ
 have key:∀v:Value,(Builtin.len_ #[T] o.type #[a.eval x]).run P w = .ok v w→(execOp a.eval o).run P w = .ok (.value v) w:=by
  intro v hv
  simp[execOp,b9,resolve,hc,invoke,builtin,jH,Cr,hv]
 replace h:=I.fV h;obtain⟨c',h,mP⟩:=h
 have sl:∀{e:Ty},jb (E.code T)=some e→∃el,P.underlying T=some (.slice el):=fun he=>let ⟨el,h,_⟩:=hE.slice (gF he);⟨el,h⟩
 split at h
 ·replace h:=bh h;obtain⟨hT,h⟩:=h
  have hu:P.underlying T=some .string:=hE.vv T _ (vx hT)
  have hx:=mP.2;simp only[mO] at hx
  exact I.gY hd hK (key _ (by simp[Builtin.len_,run_underlying hu,hx,goInt])) h rfl rfl
 ·replace h:=aT h;obtain⟨e,he,h⟩:=h
  obtain⟨el,hu⟩:=sl he
  have hx:=mP.2;simp only[mO] at hx
  exact I.gY hd hK (key _ (by simp[Builtin.len_,run_underlying hu,hx,goInt])) h rfl rfl
 ·replace h:=aT h;obtain⟨e,he,h⟩:=h
  obtain⟨el,hu⟩:=sl he
  obtain⟨av,h0,fX⟩:=mP.2
  obtain⟨ad,cap,e1,_⟩:=fX [] _ rfl
  rw[h0] at e1
  exact I.gY hd hK (key _ (by simp[Builtin.len_,run_underlying hu,e1,goInt])) h rfl rfl
 ·replace h:=aT h;obtain⟨e,he,h⟩:=h
  obtain⟨el,hu⟩:=sl he
  replace h:=de h;obtain⟨ro,dj,h⟩:=h
  replace h:=bh h;obtain⟨B6,h⟩:=h
  replace h:=aT h;obtain⟨s,hs,h⟩:=h
  obtain⟨hx,lv⟩:=mP.2.2 ro dj.x
  obtain⟨s',eK⟩:=Option.isSome_iff_exists.1 lv
  have:=cW eK;rw[hs] at this;cases this
  obtain⟨ad,cap,e1,_⟩:=I.oz dj.1 B6 eK
  exact I.gY hd hK (key _ (by simp[Builtin.len_,run_underlying hu,hx.trans e1,goInt])) h rfl rfl
 ·replace h:=aT h;obtain⟨e,he,h⟩:=h
  obtain⟨el,hu⟩:=sl he
  replace h:=di h;obtain⟨ro,hv,gE,h⟩:=h
  obtain⟨h1,h2,hx⟩:=mP.2.2 ro ⟨.inl hv,gE,ig _ _⟩
  obtain⟨ad,cap,e1,_⟩:=(I.oz hv (p:=[]) (s:=⟨ro.t,ro.xs⟩) (by cases ro.md<;>rfl) rfl).ahi h1 h2
  rw[← hx] at e1
  exact I.gY hd hK (key _ (by simp only[Builtin.len_];simp[run_underlying hu,e1,goInt])) h rfl rfl
 ·cases h
theorem acN(I:Inv w0 Mf g st a w)(hd:∀d,o.dst=some d→d<g.n.sz)(hK:Then w0 Mf g st k r K){c:Call}(b9:o.op = .call c)(hc:c.callee = .builtin .min)
 (h:eZ E o st k=some r):o.wp P a w K Q:=by
 simp only[eZ,b9,hc,eY] at h
 split at h
 case h_2=>cases h
 rename_i x y ik
 have jH:c.args = #[x,y]:=by apply Array.ext';simpa using ik
 replace h:=I.j9 h;obtain⟨h,_⟩:=h
 replace h:=I.j9 h;obtain⟨h,_⟩:=h
 replace h:=aT h;obtain⟨z,hz,h⟩:=h
 unfold Ay at hz
 split at hz
 ·rename_i k1 n1 k2 n2 hx hy
  simp only[cond_false,Option.some.injEq] at hz;subst hz
  refine I.gY hd hK ?_ h rfl rfl
  simp[execOp,b9,resolve,hc,invoke,builtin,jH,Builtin.min_,hx,hy,Builtin.min2]
 ·cases hz
theorem acO(I:Inv w0 Mf g st a w)(hd:∀d,o.dst=some d→d<g.n.sz)(hK:Then w0 Mf g st k r K){c:Call}(b9:o.op = .call c)(hc:c.callee = .builtin .max)
 (h:eZ E o st k=some r):o.wp P a w K Q:=by
 simp only[eZ,b9,hc,eY] at h
 split at h
 case h_2=>cases h
 rename_i x y ik
 have jH:c.args = #[x,y]:=by apply Array.ext';simpa using ik
 replace h:=I.j9 h;obtain⟨h,_⟩:=h
 replace h:=I.j9 h;obtain⟨h,_⟩:=h
 replace h:=aT h;obtain⟨z,hz,h⟩:=h
 unfold Ay at hz
 split at hz
 ·rename_i k1 n1 k2 n2 hx hy
  simp only[cond_true,Option.some.injEq] at hz;subst hz
  refine I.gY hd hK ?_ h rfl rfl
  simp[execOp,b9,resolve,hc,invoke,builtin,jH,Builtin.max_,hx,hy,Builtin.max2]
 ·cases hz
theorem lx{w:World}{b:Nat}{us:Array Value}{el:Nat}{fz:Nat×Nat}(hb:w.heap[b]? =some (.cells us el fz))(o:Nat):w.cell? ⟨b,o,none⟩=us[o]? :=by
 simp[World.cell?,hb]
theorem tH(hE:E.Ok P){T:Nat}{t:Ty}(hT:E.code T=some t){b off:Nat}{us:Array Value}{el:Nat}{fz:Nat×Nat}(hb:w.heap[b]? =some (.cells us el fz))(hl:off+ar t≤us.size)
 (hf:∀(j:Nat) v,(us.extract off (off+ar t))[j]? =some v→cR v=true):∃u,(loadVar T ⟨b,off,none⟩).run P w = .ok u w∧Form t u (us.extract off (off+ar t)):=by
 cases hs:iZ t
 ·have h1:=GI t hs
  have bU:off<us.size:=by omega
  have hc:=lx hb off
  rw[Array.getElem?_eq_getElem bU] at hc
  refine⟨us[off],by simp[loadVar,hE.agg hT,hs,hc],?_⟩
  simp only[Form,hs,Bool.false_eq_true,if_false]
  refine⟨?_,hf 0 _ (by rw[Array.getElem?_extract,if_pos (by omega)];simp[bU])⟩
  apply Array.ext
  ·simp;omega
  ·intro i h2 h3
   have:i=0:=by simp at h3;omega
   subst this;simp
 ·have hlen:(us.extract off (off+ar t)).toList.length=ar t:=by simp;omega
  have:=run_loadCells_list (P:=P) w ⟨b,off,none⟩ (us.extract off (off+ar t)).toList (fun j v hj=>by
   rw[eA,lx hb]
   rw[Array.getElem?_toList,Array.getElem?_extract] at hj
   split at hj
   ·exact hj
   ·cases hj)
  rw[hlen,Array.toArray_toList] at this
  exact⟨.agg (us.extract off (off+ar t)),by simp[loadVar,hE.agg hT,hs,hE.size hT,this],by simp[Form,hs]⟩
theorem cJ.flat{cs:List Sc}{us:Array Value}(h:cJ w g st cs us):∀(j:Nat) v,us[j]? =some v→cR v=true:=by
 intro j v hv
 have hi:j<cs.length:=by
  rw[← h.1]
  rcases Nat.lt_or_ge j us.size with h' | h'
  ·exact h'
  ·simp[Array.getElem?_eq_none h'] at hv
 obtain⟨z,hz,hr⟩:=h.2 j _ (List.getElem?_eq_getElem hi)
 rw[hv] at hz;cases hz;exact hr.1
theorem cJ.cut{cs:List Sc}{us:Array Value}(h:cJ w g st cs us)(off n:Nat)(hl:off+n≤cs.length):cJ w g st ((cs.drop off).take n) (us.extract off (off+n)):=by
 have dy:=h.1
 refine⟨by simp;omega,fun j c' hj=> ?_⟩
 rw[List.getElem?_take] at hj
 split at hj
 ·rw[List.getElem?_drop] at hj
  obtain⟨z,hz,hr⟩:=h.2 _ _ hj
  exact⟨z,by rw[Array.getElem?_extract,if_pos (by omega)];exact hz,hr⟩
 ·cases hj
theorem fu{P':Nat→Prop}{t:Ty}{x:El t}{j:Nat}{c:Cv}(hc:(enc t x)[j]? =some c){u:Value}(h:pL w P' c u):cR u=true:=by
 cases c with
 |v y=>
  have:=vh t x
  rw[List.all_eq_true] at this
  have:=this _ (List.mem_of_getElem? hc)
  simp only[pL] at h;subst h;exact this
 |l t' ys=>
  obtain⟨av,h0,fX⟩:=h
  obtain⟨ad,cap,e,_⟩:=fX [] _ rfl
  rw[h0] at e;subst e;rfl
theorem Inv.IJ(I:Inv w0 Mf g st a w){id ver iv:Nat}{p:Path}{ro:cC}(dj:Vd st id ver iv p ro)(B6:ro.md.nodeAt p=true){s:Sl}(hs:aQ ro.t ro.xs p=some s){i:Nat}(hi:i<s.xs.length):
    ∃b oo us el fz,g.rv id p = .slice (some ⟨b,oo,none⟩) s.xs.length (match g.rv id p with | .slice _ _ c=>c | _=>0)∧w.heap[b]? =some (.cells us el fz)∧oo+i*ar s.t+ar s.t≤us.size∧
      cJ w g st ((enc s.t (al s.xs i)).zipIdx.map fun (c,j)=>match c with | .v x=> .v x | .l t ys=>cond ro.md.zb (.ro t ys) (.h id ver ro.log.length (p++[(i,j)])))
 (us.extract (oo+i*ar s.t) (oo+i*ar s.t+ar s.t)):=by
 obtain⟨ad,cap,e1,hle,hh⟩:=I.oz dj.1 B6 hs
 obtain⟨b,oo,us,el,fz,rfl,hP,hb,du⟩:=hh (fun qt=>by rw[qt] at hi;simp at hi)
 have hx:=dm hi
 have hlen:=bl s.t (al s.xs i)
 have n9:=eW s.t
 -- each cell
 have kG:∀(j:Nat)(c:Cv),(enc s.t (al s.xs i))[j]? =some c→∃u,us[oo+i*ar s.t+j]? =some u∧eI c u (g.rv id (p++[(i,j)])):=fun j c hc=>du i _ j c hx hc
 have eh:oo+i*ar s.t+ar s.t≤us.size:=by
  have:∃c,(enc s.t (al s.xs i))[ar s.t-1]? =some c:=⟨_,List.getElem?_eq_getElem (by omega)⟩
  obtain⟨c,hc⟩:=this
  obtain⟨u,hu,_⟩:=kG _ c hc
  rcases Nat.lt_or_ge (oo+i*ar s.t+(ar s.t-1)) us.size with h' | h'
  ·omega
  ·simp[Array.getElem?_eq_none h'] at hu
 refine⟨b,oo,us,el,fz,by rw[e1],hb,eh,?_⟩
 refine⟨by simp[hlen];omega,fun j c' hj=> ?_⟩
 rw[List.getElem?_map,List.getElem?_zipIdx] at hj
 cases hc:(enc s.t (al s.xs i))[j]? with
 |none=>simp[hc] at hj
 |some c=>
  simp only[hc,Option.map_some,Option.some.injEq,Nat.zero_add] at hj
  have IK:j<ar s.t:=by
   rw[← hlen]
   rcases Nat.lt_or_ge j (enc s.t (al s.xs i)).length with h' | h'
   ·exact h'
   ·simp[List.getElem?_eq_none h'] at hc
  obtain⟨u,hu,lr⟩:=kG j c hc
  refine⟨u,by rw[Array.getElem?_extract,if_pos (by omega)];exact hu,?_⟩
  cases c with
  |v y=>
   simp only at hj;subst hj
   simp only[eI] at lr;subst lr
   exact⟨fu (P':=fun _=>True) (w:=w) hc rfl,rfl⟩
  |l t ys=>
   simp only at hj
   simp only[eI] at lr
   have eC:aQ ro.t ro.xs (p++[(i,j)])=some ⟨t,ys⟩:=by
    rw[ck _ hs];simp only[aQ,hx,hc]
   have pN:cR u=true:=by
    rw[lr];exact I.Ck dj.1 eC
   cases hd:ro.md.zb
   rotate_left
   ·simp only[hd,cond_true] at hj;subst hj
    refine⟨pN,fun q=>g.rv id ((p++[(i,j)])++q),by simp[lr],?_⟩
    have hr:=I.roots id ro dj.1
    unfold aV at hr
    have hts:ep w (fun k=>g.ro k) t ys fun q=>g.rv id ((p++[(i,j)])++q):=by
     intro q s' eK
     have W7:aQ ro.t ro.xs ((p++[(i,j)])++q)=some s':=by rw[ck _ eC];exact eK
     split at hr
     ·rename_i hm;simp[hm,Md.zb] at hd
     ·have:=hr.2 _ s' (by simp) W7
      simpa [List.append_assoc] using this
     ·have:=hr _ s' W7
      simpa [List.append_assoc] using this
     ·rename_i hm;simp[hm,Md.zb] at hd
    exact hts
   ·simp only[hd,cond_false] at hj;subst hj
    refine⟨pN,?_,fun r' j6=> ?_⟩
    ·unfold cL;simp only[dj.1];exact .inr ⟨dj.2.1.symm,Nat.le_refl _⟩
    ·have:r'=ro:=j6.is dj.1
     subst this
     exact⟨lr,by rw[eC];rfl⟩
theorem Yr(hE:E.Ok P)(I:Inv w0 Mf g st a w)(hd:∀d,o.dst=some d→d<g.n.sz)(hK:Then w0 Mf g st k r K){T:Nat}{x:Operand}(b9:o.op = .load T x)
 (h:eZ E o st k=some r):o.wp P a w K Q:=by
 simp only[eZ,b9] at h
 replace h:=aT h;obtain⟨t,hT,h⟩:=h
 replace h:=I.fV h;obtain⟨c,h,hc⟩:=h
 -- where it lies, and what is there
 have fin:∀(b off:Nat)(us:Array Value)(el:Nat)(fz:Nat×Nat)(cs:List Sc),a.eval x = .pointer (some ⟨b,off,none⟩)→w.heap[b]? =some (.cells us el fz)→off+ar t≤us.size→
   cJ w g st cs (us.extract off (off+ar t))→((Cf t cs).bind fun c=>k (put o (.c c)))=some r→o.wp P a w K Q:=by
  intro b off us el fz cs hx hb hl fq h
  replace h:=aT h;obtain⟨cm,AB,h⟩:=h
  obtain⟨u,df,eU⟩:=tH hE hT hb hl fq.flat
  obtain⟨u',eL,AE⟩:=Form.of AB fq
  have:u=u':=by
   unfold Form at eU eL
   split at eU
   ·rename_i jh;simp only[jh,if_true] at eL;rw[eU,eL]
   ·rename_i jh;simp only[jh] at eL;have:=eU.1.symm.trans eL.1;simpa using this
  subst this
  exact I.val hd hK (by simp[execOp,b9,Instr.loadAt,hx,Instr.sureAddr,df]) h AE
 unfold loadAt at h
 split at h
 ·rename_i b off
  replace h:=aT h;obtain⟨bx,AA,h⟩:=h
  replace h:=bh h;obtain⟨hl,h⟩:=h
  have hl:=iD hl
  obtain⟨us,el,hb,fq⟩:=I.boxes b bx AA
  have:=fq.1
  exact fin _ _ us el _ _ hc.2.1 hb (by omega) (fq.cut off (ar t) hl) h
 ·rename_i id ver iv p i off
  replace h:=de h;obtain⟨ro,dj,h⟩:=h
  replace h:=bh h;obtain⟨B6,h⟩:=h
  replace h:=aT h;obtain⟨s,hs,h⟩:=h
  replace h:=bh h;obtain⟨hl,h⟩:=h
  have hl:=iD hl
  obtain⟨s',b,oo,n,cap,h1,h2,h3,hu⟩:=hc.2.2 ro dj.x
  have:=cW h1;rw[hs] at this;cases this
  obtain⟨b',Yq,us,el,fz,e1,hb,eh,fq⟩:=I.IJ dj B6 h1 h2
  rw[h3] at e1
  simp only[Value.slice.injEq,Option.some.injEq,Addr.mk.injEq,and_true] at e1
  obtain⟨⟨rfl,rfl⟩,_⟩:=e1
  have hlen:((enc s.t (al s.xs i)).zipIdx.map fun (c,j)=>(match c with | .v x=>Sc.v x | .l t ys=>cond ro.md.zb (.ro t ys) (.h id ver ro.log.length (p++[(i,j)])))).length=ar s.t:=by simp[bl]
  have yB:=fq.cut off (ar t) (by rw[hlen];omega)
  have hex:(us.extract (oo+i*ar s.t) (oo+i*ar s.t+ar s.t)).extract off (off+ar t)=us.extract (oo+i*ar s.t+off) (oo+i*ar s.t+off+ar t):=by
   apply Array.ext
   ·simp;omega
   ·intro i' h1 h2;simp[Nat.add_assoc]
  rw[hex] at yB
  refine fin _ _ us el fz _ hu hb (by omega) yB ?_
  rw[List.map_take,List.map_drop] at h
  exact h
 ·rename_i t' y off
  replace h:=bh h;obtain⟨hl,h⟩:=h
  have hl:=iD hl
  obtain⟨b,oo,us,el,fz,hu,hP,hb,oB⟩:=hc.2
  have hlen:=bl t' y
  have n9:=eW t'
  have eh:oo+ar t'≤us.size:=by
   have:∃c,(enc t' y)[ar t'-1]? =some c:=⟨_,List.getElem?_eq_getElem (by omega)⟩
   obtain⟨c,hc⟩:=this
   obtain⟨u,hu,_⟩:=oB _ c hc
   rcases Nat.lt_or_ge (oo+(ar t'-1)) us.size with h' | h'
   ·omega
   ·simp[Array.getElem?_eq_none h'] at hu
  have eV:cJ w g st ((enc t' y).map fun | .v x=>Sc.v x | .l t ys=> .ro t ys) (us.extract oo (oo+ar t')):=by
   refine⟨by simp[hlen];omega,fun j c' hj=> ?_⟩
   rw[List.getElem?_map] at hj
   cases B7:(enc t' y)[j]? with
   |none=>simp[B7] at hj
   |some cv=>
    simp only[B7,Option.map_some,Option.some.injEq] at hj
    obtain⟨z,hz,n8⟩:=oB j cv B7
    have IK:j<ar t':=by
     rw[← hlen]
     rcases Nat.lt_or_ge j (enc t' y).length with h' | h'
     ·exact h'
     ·simp[List.getElem?_eq_none h'] at B7
    refine⟨z,by rw[Array.getElem?_extract,if_pos (by omega)];exact hz,fu B7 n8,?_⟩
    cases cv with
    |v q=>simp only at hj;subst hj;exact n8
    |l t1 ys=>simp only at hj;subst hj;exact n8
  have yB:=eV.cut off (ar t) (by simp[hlen];omega)
  have hex:(us.extract oo (oo+ar t')).extract off (off+ar t)=us.extract (oo+off) (oo+off+ar t):=by
   apply Array.ext
   ·simp;omega
   ·intro i' h1 h2;simp[Nat.add_assoc]
  rw[hex] at yB
  refine fin _ _ us el fz _ hu hb (by omega) yB ?_
  rw[List.map_take,List.map_drop] at h
  exact h
 ·cases h
def il(w:World)(o:Obj):World:={ w with heap:=w.heap.push o }
theorem Cs(w:World)(o:Obj):(il w o).heap[w.heap.size]? =some o:=by show (w.heap.push o)[w.heap.size]? =_;rw[Array.getElem?_push,if_pos rfl]
theorem mU(w:World)(o:Obj):bD (fun _=>False) w (il w o):=
 ⟨by simp[il],fun b hb _=>by simp only[il];rw[Array.getElem?_push,if_neg (by omega)]⟩
theorem Kept.step{w1 w2:World}{X:Nat→Prop}(h:Kept w0 w1 Mf)(ho:w2.os=w1.os)(ht:w2.tape=w1.tape)(hp:w2.output=w1.output)(hs:bD X w1 w2)
 (hX:∀k,X k→w0.heap.size≤k∨Mf k):Kept w0 w2 Mf:=
 ⟨ho.trans h.os,ht.trans h.tape,hp.trans h.output,⟨Nat.le_trans h.same.1 hs.1,fun b hb hm=>
 (hs.2 b (Nat.lt_of_lt_of_le hb h.same.1) fun hx=>(hX b hx).elim (fun h=>by omega) hm).trans (h.same.2 b hb hm)⟩⟩
theorem Kept.push(h:Kept w0 w Mf)(o:Obj):Kept w0 (il w o) Mf:=h.step rfl rfl rfl (mU w o) (fun _ h=>h.elim)
theorem Inv.push(I:Inv w0 Mf g st a w)(o:Obj):Inv w0 Mf g st a (il w o):=
  I.world (mU w o) (fun _ _=>id) (fun _ _ _ _=>id) (fun _ _=>id) (I.kept.push o)
def Gh.dM(g:Gh)(d nb:Nat):Gh:={ g with bx:=fun i=>if i=d then nb else g.bx i }
theorem mO.dM{d nb:Nat}{x:Bx}(hn:au st.boxes d=none){c:Sc}{u:Value}(h:mO w g st c u):mO w (g.dM d nb) { st with boxes:=bd st.boxes d x } c u:=by
 have hb:∀b,(au st.boxes b).isSome→b≠d∧(au (bd st.boxes d x) b).isSome:=fun b hb=>by
  have:b≠d:=fun e=>by subst e;simp[hn] at hb
  exact⟨this,by rw[b6 _ _ this];exact hb⟩
 cases c with
 |pt b off=>obtain⟨h1,h2⟩:=hb b h.2;exact⟨by simp only[Gh.dM,h1,if_false];exact h.1,h2⟩
 |fi fn bs=>
  refine⟨?_,fun b hm=>(hb b (h.2 b hm)).2⟩
  have:bs.map (fun b=>Value.pointer (some ⟨(g.dM d nb).bx b,0,none⟩))=bs.map (fun b=>Value.pointer (some ⟨g.bx b,0,none⟩)):=
   List.map_congr_left fun b hm=>by simp[Gh.dM,(hb b (h.2 b hm)).1]
  rw[this];exact h.1
 |_=>exact h
theorem Inv.EA(I:Inv w0 Mf g st a w){d nb:Nat}(hn:au st.boxes d=none){t:Ty}{cs:List Sc}{us:Array Value}{el:Nat}(hb:w.heap[nb]? =some (.cells us el (0,0)))
 (fq:cJ w g st cs us) (hr:∀id,aS st id→ ¬g.rf id nb) (dj : ¬g.ro nb) (AA:∀b,bB st b→g.bx b≠nb) (hm:w0.heap.size≤nb∨Mf nb):
    Inv w0 Mf (g.dM d nb) { st with boxes:=bd st.boxes d ⟨t,cs⟩ } a w:=by
 have GM:∀c u,bg w g st c u→bg w (g.dM d nb) { st with boxes:=bd st.boxes d ⟨t,cs⟩ } c u:=fun _ _ hc=>⟨hc.1,hc.2.dM hn⟩
 have cQ:∀b,bB { st with boxes:=bd st.boxes d ⟨t,cs⟩ } b→b=d∨(b≠d∧bB st b):=fun b h=>by
  by_cases e:b=d
  ·exact .inl e
  ·exact .inr ⟨e,by simpa [bB,aH,e] using h⟩
 exact {
  ay:=fun s sv h=>let ⟨u,hu,hr⟩:=I.ay s sv h;⟨u,hu,hr.map GM⟩
  boxes:=fun b x h=>by
   simp only[aH] at h
   by_cases e:b=d
   ·subst e
    simp only[if_true,Option.some.injEq] at h;subst h
    exact⟨us,el,by simpa [Gh.dM] using hb,fq.map GM⟩
   ·simp only[e,if_false] at h
    obtain⟨us',pM,h1,h2⟩:=I.boxes b x h
    exact⟨us',pM,by simpa [Gh.dM,e] using h1,h2.map GM⟩
  roots:=I.roots
  apart:={
   rr:=I.apart.rr
   rb:=fun id b h1 h2=>by
    rcases cQ b h2 with rfl | ⟨e,h⟩
    ·simpa [Gh.dM] using hr id h1
    ·simpa [Gh.dM,e] using I.apart.rb id b h1 h
   bb:=fun b b' h1 h2 h3=>by
    rcases cQ b h1 with rfl | ⟨e,h⟩<;>rcases cQ b' h2 with rfl | ⟨e',h'⟩
    ·rfl
    ·simp only[Gh.dM,if_true,e',if_false] at h3;exact (AA b' h' h3.symm).elim
    ·simp only[Gh.dM,if_true,e,if_false] at h3;exact (AA b h h3).elim
    ·simp only[Gh.dM,e,e',if_false] at h3;exact I.apart.bb b b' h h' h3
   eu:=I.apart.eu
   gD:=fun b h=>by
    rcases cQ b h with rfl | ⟨e,h⟩
    ·simpa [Gh.dM] using dj
    ·simpa [Gh.dM,e] using I.apart.gD b h
   cp:=I.apart.cp
   dL:=fun b h=>by
    rcases cQ b h with rfl | ⟨e,h⟩
    ·simpa [Gh.dM] using hm
    ·simpa [Gh.dM,e] using I.apart.dL b h
   ew:=I.apart.ew
   db:=I.apart.db
   bY:=I.apart.bY }
  kept:=I.kept
  defers:=I.defers
  size:=I.size
  base:=⟨I.base.wl,I.base.ap,I.base.ro⟩ }
theorem cJ.push{cs:List Sc}{us:Array Value}(h:cJ w g st cs us)(o:Obj):cJ (il w o) g st cs us:=
  h.map fun c u hc=>⟨hc.1,hc.2.world (mU w o) (fun _ _=>id)⟩
theorem Inv.alloc(I:Inv w0 Mf g st a w){d:Nat}(hn:au st.boxes d=none){t:Ty}{cs:List Sc}{us:Array Value}(el:Nat)(fq:cJ w g st cs us):
    Inv w0 Mf (g.dM d w.heap.size) { st with boxes:=bd st.boxes d ⟨t,cs⟩ } a (il w (.cells us el)):=
 (I.push _).EA hn (Cs _ _) (fq.push _) (fun id h1 h2=>by have:=I.apart.ew id _ h1 h2;omega) (fun h=>by have:=I.apart.db _ h;omega)
 (fun b h e=>by
      obtain⟨x,hx⟩:=Option.isSome_iff_exists.1 h
      obtain⟨us',pM,h1,_⟩:=I.boxes b x hx
      have:=(Array.getElem?_eq_some_iff.1 h1).1
      omega) (.inl I.kept.same.1)
theorem GN(t:Ty):cJ w g st (qU t) (dP t).toArray:=by
 refine⟨by simp[qU,dP],fun j c hj=> ?_⟩
 simp only[qU,List.getElem?_map] at hj
 cases hc:(enc t (zero t))[j]? with
 |none=>simp[hc] at hj
 |some cv=>
  simp only[hc,Option.map_some,Option.some.injEq] at hj
  cases cv with
  |v x=>simp only at hj;subst hj;exact⟨x,by simp[dP,hc],fu (P':=fun _=>True) (w:=w) hc rfl,rfl⟩
  |l t' ys=>simp only at hj;subst hj;exact⟨.slice none 0 0,by simp[dP,hc],rfl,rfl⟩
theorem vz{T:Nat}{v:Value}(w:World):(newVar T v).run P w = .ok ⟨w.heap.size,0,none⟩ (il w (.cells v.cells T)):=by
 simp[newVar,newRow,il]
theorem SY(hE:E.Ok P)(I:Inv w0 Mf g st a w)(hd:∀d,o.dst=some d→d<g.n.sz)(hK:Then w0 Mf g st k r K){T:Nat}(b9:o.op = .alloc T)
 (h:eZ E o st k=some r):o.wp P a w K Q:=by
 simp only[eZ,b9] at h
 replace h:=aT h;obtain⟨t,hT,h⟩:=h
 replace h:=aT h;obtain⟨d,ly,h⟩:=h
 split at h
 case h_2=>cases h
 rename_i hn
 obtain⟨zv,hz,vA⟩:=hE.zero hT w
 have I':=I.alloc hn T (GN (w:=w) (g:=g) (st:=st) t) (t:=t)
 have IL:=I'.Et (dst:=some d) (fun d' e=>by simp only[Option.some.injEq] at e;subst e;exact hd d ly) (s:= .c (.one (.pt d 0))) (v:= .pointer (some ⟨w.heap.size,0,none⟩))
  ⟨rfl,by simp[mO,Gh.dM,bo]⟩
 refine oA (v:= .pointer (some ⟨w.heap.size,0,none⟩)) (w':=il w (.cells (dP t).toArray T)) ?_ ?_
 ·simp[execOp,b9,Instr.alloc,hz,vz,vA]
 ·rw[ly]
  exact hK _ (g.dM d w.heap.size) _ _ h rfl IL
theorem acP(hE:E.Ok P)(I:Inv w0 Mf g st a w)(hd:∀d,o.dst=some d→d<g.n.sz)(hK:Then w0 Mf g st k r K){T:Nat}{x:Operand}(b9:o.op = .box T x)
 (h:eZ E o st k=some r):o.wp P a w K Q:=by
 simp only[eZ,b9] at h
 replace h:=aT h;obtain⟨t,hT,h⟩:=h
 replace h:=aT h;obtain⟨d,ly,h⟩:=h
 split at h
 case h_2=>cases h
 rename_i hn
 replace h:=I.dv h;obtain⟨s,h,hs⟩:=h
 replace h:=aT h;obtain⟨cs,fq,h⟩:=h
 replace h:=bh h;obtain⟨hl,h⟩:=h
 obtain⟨us,eU,um⟩:=dw fq hs
 have I':=I.alloc hn T um (t:=t)
 have IL:=I'.Et (dst:=some d) (fun d' e=>by simp only[Option.some.injEq] at e;subst e;exact hd d ly) (s:= .c (.one (.pt d 0))) (v:= .pointer (some ⟨w.heap.size,0,none⟩))
  ⟨rfl,by simp[mO,Gh.dM,bo]⟩
 refine oA (v:= .pointer (some ⟨w.heap.size,0,none⟩)) (w':=il w (.cells us T)) ?_ ?_
 ·simp[execOp,b9,Instr.box,vz,eU.cells]
 ·rw[ly]
  exact hK _ (g.dM d w.heap.size) _ _ h rfl IL
theorem Inv.qY(I:Inv w0 Mf g st a w){b:Nat}(cQ:bB st b){w':World}(hs:bD (fun k=>k=g.bx b) w w')(hk:Kept w0 w' Mf){t:Ty}{cs:List Sc}{us:Array Value}{el:Nat}
    (hb:w'.heap[g.bx b]? =some (.cells us el (0,0))) (fq:cJ w g st cs us):Inv w0 Mf g { st with boxes:=bd st.boxes b ⟨t,cs⟩ } a w':=by
 have dj:∀k,g.ro k→ ¬k=g.bx b:=fun k h1 h2=>I.apart.gD b cQ (h2▸h1)
 have hm:∀c u,bg w g st c u→bg w' g { st with boxes:=bd st.boxes b ⟨t,cs⟩ } c u:=fun c u hc=>
  ⟨hc.1,mO.roots (st:=st) (fun b' fI=>by
    simp only[aH];split
    ·rfl
    ·exact fI) (fun _ _ _ h=>h) (fun _ _ _ _ _ _ h=>h) (hc.2.world hs dj)⟩
 have qZ:∀b',bB { st with boxes:=bd st.boxes b ⟨t,cs⟩ } b'→bB st b':=fun b' h=>by
  by_cases e:b'=b
  ·subst e;exact cQ
  ·simpa [bB,aH,e] using h
 exact {
  ay:=fun s sv h=>let ⟨u,hu,hr⟩:=I.ay s sv h;⟨u,hu,hr.map hm⟩
  boxes:=fun b' x h=>by
   simp only[aH] at h
   by_cases e:b'=b
   ·subst e
    simp only[if_true,Option.some.injEq] at h;subst h
    exact⟨us,el,hb,fq.map hm⟩
   ·simp only[e,if_false] at h
    obtain⟨us',pM,h1,h2⟩:=I.boxes b' x h
    refine⟨us',pM,hs.get h1 (fun e'=>e (I.apart.bb b' b (by simp[bB,h]) cQ e')),h2.map hm⟩
  roots:=fun id r h=>by
   have hr:=I.roots id r h
   have hx:r.md.cr=false→∀k,g.rf id k→ ¬k=g.bx b:=fun hm k h1 h2=>I.apart.rb id b ⟨r,h,hm⟩ cQ (h2▸h1)
   unfold aV at hr ⊢
   split at hr
   ·rename_i cK;exact hr.same hs (hx (by rw[cK];rfl))
   ·rename_i cK;exact hr.same hs (hx (by rw[cK];rfl)) dj
   ·exact hr.same hs dj
   ·rename_i cK;exact hr.same hs (hx (by rw[cK];rfl))
  apart:={
   rr:=I.apart.rr
   rb:=fun id b' h1 h2=>I.apart.rb id b' h1 (qZ _ h2)
   bb:=fun b1 b2 h1 h2=>I.apart.bb b1 b2 (qZ _ h1) (qZ _ h2)
   eu:=I.apart.eu
   gD:=fun b' h=>I.apart.gD b' (qZ _ h)
   cp:=I.apart.cp
   dL:=fun b' h=>I.apart.dL b' (qZ _ h)
   ew:=fun id k h1 h2=>Nat.lt_of_lt_of_le (I.apart.ew id k h1 h2) hs.1
   db:=fun k h=>Nat.lt_of_lt_of_le (I.apart.db k h) hs.1
   bY:=I.apart.bY }
  kept:=hk
  defers:=I.defers
  size:=I.size
  base:=⟨I.base.wl,I.base.ap,I.base.ro⟩ }
theorem dQ(w:World)(b:Nat)(us:Array Value):bD (fun k=>k=b) w (w.setRow b us):=
 ⟨by simp,fun k _ h=>setRow_other w b k us h⟩
theorem cJ.set{cs ys:List Sc}{us vs:Array Value}(h:cJ w g st cs us)(hy:cJ w g st ys vs)(off:Nat)(hl:off+ys.length≤cs.length):
    cJ w g st (et cs off ys) (us.toList.take off++vs.toList++us.toList.drop (off+vs.toList.length)).toArray:=by
 have h1:=h.l
 have h2:=hy.l
 have hlen:=h.1
 have acQ:=hy.1
 refine mT.arr ?_
 refine mT.of (by simp[et];omega) fun j c hj=> ?_
 simp only[et] at hj
 by_cases hj1:j<off
 ·rw[List.append_assoc,List.getElem?_append_left (by simp;omega),List.getElem?_take,if_pos hj1] at hj
  obtain⟨z,hz,hr⟩:=h1.get j c hj
  exact⟨z,by simp only;rw[List.append_assoc,List.getElem?_append_left (by simp;omega),List.getElem?_take,if_pos hj1];exact hz,hr⟩
 ·by_cases hj2:j<off+ys.length
  ·rw[List.getElem?_append_left (by simp;omega),List.getElem?_append_right (by simp;omega)] at hj
   have e:min off cs.length=off:=by omega
   simp only[List.length_take,e] at hj
   obtain⟨z,hz,hr⟩:=h2.get _ c hj
   refine⟨z,?_,hr⟩
   simp only
   rw[List.getElem?_append_left (by simp;omega),List.getElem?_append_right (by simp;omega)]
   have e':min off us.size=off:=by omega
   simpa [e'] using hz
  ·rw[List.getElem?_append_right (by simp;omega)] at hj
   have e:min off cs.length=off:=by omega
   simp only[List.length_append,List.length_take,e,List.getElem?_drop] at hj
   obtain⟨z,hz,hr⟩:=h1.get _ c hj
   refine⟨z,?_,hr⟩
   simp only
   rw[List.getElem?_append_right (by simp;omega)]
   have e':min off us.size=off:=by omega
   simp only[List.length_append,List.length_take,Array.length_toList,e',List.getElem?_drop,acQ]
   exact hz
theorem oC{v:Value}(h:cR v=true):v.oneCell'=true:=by cases v<;>first | rfl | simp[cR] at h
theorem ra(hE:E.Ok P){T:Nat}{t:Ty}(hT:E.code T=some t){b off:Nat}{us:Array Value}{el:Nat}(hb:w.heap[b]? =some (.cells us el (0,0))){v:Value}{vs:Array Value}(hf:Form t v vs)
 (hs:vs.size=ar t) (hl:off+ar t≤us.size) (pN:∀(j:Nat) z,vs[j]? =some z→cR z=true):
 (storeVar T ⟨b,off,none⟩ v).run P w = .ok () (w.setRow b (us.toList.take off++vs.toList++us.toList.drop (off+vs.toList.length)).toArray):=by
 have:=run_storeCells_at (P:=P) b off el vs.toList 0 us w hb (by simp;omega) (fun z hz=>by
  obtain⟨j,hj⟩:=List.getElem?_of_mem hz
  exact oC (pN j z (by simpa using hj)))
 simp only[Nat.add_zero] at this
 simp[storeVar,hf.cells,hE.size hT,hs,this]
end Go.Gm
namespace Go.Gm
open Go
variable {w : World}
structure dN (w:World) (ro:Nat→Prop) (deep:Bool) (t:Ty) (xs:List (El t)) (cs:Array Value) (o:Nat) (G:Nat→Nat→Nat→Prop):Prop where
 rows:∀i x j c,xs[i]? =some x→(enc t x)[j]? =some c→∃u,cs[o+i*ar t+j]? =some u∧pL w (fun k=>G i j k∨ro k) c u∧(deep=true→gX w (G i j) c u)
 W8:∀i j i' j' k,G i j k→G i' j' k→i=i'∧j=j'
theorem bA.oa{F:Nat→Prop}{t:Ty}{ys:List (El t)}{v:Value}{fH:Nat→Nat→Value}(h:bA w F t ys v fH){k:Nat}(hk:qR v=some k):F k:=by
 rcases h with ⟨_,rfl⟩ | ⟨b,o,cap,cs,el,rfl,hF,_⟩
 ·simp[qR] at hk
 ·simp only[qR,Option.some.injEq] at hk;subst hk;exact hF
theorem bA.toF{F G:Nat→Prop}{t:Ty}{ys:List (El t)}{v:Value}{fH:Nat→Nat→Value}(h:bA w F t ys v fH)(hG:∀k,qR v=some k→G k):bA w G t ys v fH:=by
 rcases h with h | ⟨b,o,cap,cs,el,rfl,hF,h⟩
 ·exact .inl h
 ·exact .inr ⟨b,o,cap,cs,el,rfl,hG b rfl,h⟩
theorem bA.fH{F:Nat→Prop}{t:Ty}{ys:List (El t)}{v:Value}{fH EB:Nat→Nat→Value}(h:bA w F t ys v fH)(hk:∀i y (j:Nat) t' zs,ys[i]? =some y→(enc t y)[j]? =some (.l t' zs)→EB i j=fH i j):
    bA w F t ys v EB:=by
 rcases h with h | ⟨b,o,cap,cs,el,h1,h2,h3,h4,h5,h6⟩
 ·exact .inl h
 ·refine .inr ⟨b,o,cap,cs,el,h1,h2,h3,h4,h5,fun i y j c hy hc=> ?_⟩
  obtain⟨u,hu,lr⟩:=h6 i y j c hy hc
  refine⟨u,hu,?_⟩
  cases c with
  |v x=>exact lr
  |l t' zs=>simp only[eI] at lr ⊢;rw[hk i y j t' zs hy hc];exact lr
theorem eJ.fH{F:Nat→Prop}{t:Ty}{ys:List (El t)}{v:Value}{fH EB:Nat→Nat→Value}(h:eJ w F t ys v fH)(hk:∀i y (j:Nat) t' zs,ys[i]? =some y→(enc t y)[j]? =some (.l t' zs)→EB i j=fH i j):
    eJ w F t ys v EB:=by
 obtain⟨a,cap,h1,h2,h3⟩:=h
 refine⟨a,cap,h1,h2,fun hn=> ?_⟩
 obtain⟨b,o,cs,el,fz,h4,h5,h6,h7⟩:=h3 hn
 refine⟨b,o,cs,el,fz,h4,h5,h6,fun i y j c hy hc=> ?_⟩
 obtain⟨u,hu,lr⟩:=h7 i y j c hy hc
 refine⟨u,hu,?_⟩
 cases c with
 |v x=>exact lr
 |l t' zs=>simp only[eI] at lr ⊢;rw[hk i y j t' zs hy hc];exact lr
theorem bA.here{w':World}{F:Nat→Prop}{X:Nat→Prop}(hs:bD X w w'){t:Ty}{ys:List (El t)}{v:Value}{fH:Nat→Nat→Value}(h:bA w F t ys v fH)
 (hx:∀k,qR v=some k→ ¬X k):bA w' F t ys v fH:=by
 rcases h with h | ⟨b,o,cap,cs,el,rfl,h2,h3,h4⟩
 ·exact .inl h
 ·exact .inr ⟨b,o,cap,cs,el,rfl,h2,hs.get h3 (hx b rfl),h4⟩
def dR(t:Ty)(xs:List (El t))(av:Path→Value)(p:Path)(k:Nat):Prop:=∃q s,aQ t xs (p++q)=some s∧qR (av (p++q))=some k
theorem a8.at{F:Nat→Prop}{t:Ty}{xs:List (El t)}{av:Path→Value}(h:a8 w F t xs av){p:Path}{s:Sl}(hs:aQ t xs p=some s):
    a8 w (dR t xs av p) s.t s.xs fun q=>av (p++q):=by
 refine⟨fun q s' eK=> ?_,fun q q' s1 s2 b h1 h2 h3 h4=> ?_⟩
 ·have hp:aQ t xs (p++q)=some s':=by rw[ck q hs];exact eK
  have:=(h.1 (p++q) s' hp).toF (G:=dR t xs av p) fun k hk=>⟨q,s',hp,hk⟩
  simpa [List.append_assoc] using this
 ·have e1:aQ t xs (p++q)=some s1:=by rw[ck q hs];exact h1
  have e2:aQ t xs (p++q')=some s2:=by rw[ck q' hs];exact h2
  exact List.append_cancel_left (h.2 _ _ _ _ b e1 e2 h3 h4)
theorem ke{t:Ty}{xs:List (El t)}{i j:Nat}{x:El t}{t':Ty}{ys:List (El t')}(hx:xs[i]? =some x)(hc:(enc t x)[j]? =some (.l t' ys)):aQ t xs [(i,j)]=some ⟨t',ys⟩:=by
 simp only[aQ,hx,hc]
theorem a8.pieces{F ro:Nat→Prop}{t:Ty}{xs:List (El t)}{av:Path→Value}(h:a8 w F t xs av){cs:Array Value}{o:Nat}(hr:RowsIn t xs cs o fun i j=>av [(i,j)]):
    dN w ro true t xs cs o (fun i j=>dR t xs av [(i,j)]):=by
 refine⟨fun i x j c hx hc=> ?_,fun i j i' j' k ⟨q,s,h1,h2⟩ ⟨q',s',h3,h4⟩=> ?_⟩
 ·obtain⟨u,hu,lr⟩:=hr i x j c hx hc
  refine⟨u,hu,?_,fun _=> ?_⟩
  ·cases c with
   |v y=>exact lr
   |l t' ys=>
    have hs:=ke hx hc
    exact⟨fun q=>av ([(i,j)]++q),by simpa [eI] using lr.symm,(h.at hs).rd.mono fun k=> .inl⟩
  ·cases c with
   |v y=>exact lr
   |l t' ys=>exact⟨fun q=>av ([(i,j)]++q),by simpa [eI] using lr.symm,h.at (ke hx hc)⟩
 ·have:=h.2 _ _ _ _ k h1 h3 h2 h4
  simp only[List.singleton_append,List.cons.injEq,Prod.mk.injEq] at this
  exact this.1
theorem nx.pieces{F ro:Nat→Prop}{t:Ty}{xs:List (El t)}{av:Path→Value}(h:nx w F ro t xs av){cs:Array Value}{o:Nat}(hr:RowsIn t xs cs o fun i j=>av [(i,j)]):
    dN w ro false t xs cs o (fun _ _ _=>False):=by
 refine⟨fun i x j c hx hc=> ?_,fun i j i' j' k h=>h.elim⟩
 obtain⟨u,hu,lr⟩:=hr i x j c hx hc
 refine⟨u,hu,?_,fun h=>by cases h⟩
 cases c with
 |v y=>exact lr
 |l t' ys=>
  have hs:=ke hx hc
  refine⟨fun q=>av ([(i,j)]++q),by simpa [eI] using lr.symm,fun q s' eK=> ?_⟩
  have hp:aQ t xs ([(i,j)]++q)=some s':=by rw[ck q hs];exact eK
  have:=(h.2 ([(i,j)]++q) s' (by simp) hp).mono (Q:=fun k=>False∨ro k) fun k=> .inr
  simpa [List.append_assoc] using this
open Classical in
theorem dN.own{ro:Nat→Prop}{t:Ty}{xs:List (El t)}{cs:Array Value}{o b cap el:Nat}{G:Nat→Nat→Nat→Prop}(h:dN w ro true t xs cs o G)
 (hb:w.heap[b]? =some (.cells cs el (0,0))) (dr:xs.length≤cap) (dy:o+cap*ar t≤cs.size) (hG:∀i j,¬G i j b):
    ∃av,av [] = .slice (some ⟨b,o,none⟩) xs.length cap∧a8 w (fun k=>k=b∨∃i j,G i j k) t xs av:=by
 have hw:∀ij:Nat×Nat,∃f:Path→Value,∀x t' ys,xs[ij.1]? =some x→(enc t x)[ij.2]? =some (.l t' ys)→cs[o+ij.1*ar t+ij.2]? =some (f [])∧a8 w (G ij.1 ij.2) t' ys f:=by
  intro ⟨i,j⟩
  by_cases hex:∃x t' ys,xs[i]? =some x∧(enc t x)[j]? =some (.l t' ys)
  ·obtain⟨x,t',ys,hx,hc⟩:=hex
   obtain⟨u,hu,_,ho⟩:=h.rows i x j _ hx hc
   obtain⟨f,h0,h1⟩:=ho rfl
   refine⟨f,fun x2 t2 ys2 mV EC=> ?_⟩
   simp only at mV EC
   rw[hx] at mV;cases mV
   rw[hc] at EC;cases EC
   exact⟨by rw[h0];exact hu,h1⟩
  ·exact⟨fun _=>undef,fun x t' ys hx hc=>(hex ⟨x,t',ys,hx,hc⟩).elim⟩
 obtain⟨f,hf⟩:=Classical.axiomOfChoice hw
 refine⟨fun q=>match q with | []=> .slice (some ⟨b,o,none⟩) xs.length cap | ij::q=>f ij q,rfl,?_,?_⟩
 ·intro p s hs
  cases p with
  |nil=>
   simp only[aQ,Option.some.injEq] at hs;subst hs
   refine .inr ⟨b,o,cap,cs,el,rfl,.inl rfl,hb,dr,dy,fun i y j c hy hc=> ?_⟩
   obtain⟨u,hu,hr,_⟩:=h.rows i y j c hy hc
   refine⟨u,hu,?_⟩
   cases c with
   |v x=>exact hr
   |l t' ys=>
    obtain⟨h1,_⟩:=hf (i,j) y t' ys hy hc
    simp only at h1
    rw[hu] at h1
    simpa [eI] using h1
  |cons ij p=>
   obtain⟨i,j⟩:=ij
   simp only[aQ] at hs
   split at hs
   case h_2=>cases hs
   rename_i x hx
   split at hs
   case h_2=>cases hs
   rename_i t' ys hc
   obtain⟨_,h2⟩:=hf (i,j) x t' ys hx hc
   have:=(h2.1 p s hs).mono (Q:=fun k=>k=b∨∃i j,G i j k) fun k hk=> .inr ⟨i,j,hk⟩
   exact this
 ·intro p q s s' k h1 h2 h3 h4
  have k7:∀i j p s,aQ t xs ((i,j)::p)=some s→∃x t' ys,xs[i]? =some x∧(enc t x)[j]? =some (.l t' ys)∧aQ t' ys p=some s:=by
   intro i j p s hs
   simp only[aQ] at hs
   split at hs
   case h_2=>cases hs
   rename_i x hx
   split at hs
   case h_2=>cases hs
   rename_i t' ys hc
   exact⟨x,t',ys,hx,hc,hs⟩
  have AF:∀i j p s,aQ t xs ((i,j)::p)=some s→qR (f (i,j) p)=some k→G i j k:=by
   intro i j p s hs hk
   obtain⟨x,t',ys,hx,hc,hs⟩:=k7 i j p s hs
   exact ((hf (i,j) x t' ys hx hc).2.1 p s hs).oa hk
  cases p with
  |nil=>
   cases q with
   |nil=>rfl
   |cons ij q=>
    simp only[qR,Option.some.injEq] at h3;subst h3
    exact (hG _ _ (AF ij.1 ij.2 q s' h2 h4)).elim
  |cons ij p=>
   cases q with
   |nil=>
    simp only[qR,Option.some.injEq] at h4;subst h4
    exact (hG _ _ (AF ij.1 ij.2 p s h1 h3)).elim
   |cons ij' q=>
    obtain⟨i,j⟩:=ij
    obtain⟨i',j'⟩:=ij'
    obtain⟨rfl,rfl⟩:=h.W8 _ _ _ _ k (AF i j p s h1 h3) (AF i' j' q s' h2 h4)
    obtain⟨x,t',ys,hx,hc,hs⟩:=k7 i j p s h1
    obtain⟨x2,t2,ys2,mV,EC,uj⟩:=k7 i j q s' h2
    rw[hx] at mV;cases mV
    rw[hc] at EC;cases EC
    rw[(hf (i,j) x t' ys hx hc).2.2 p q s s' k hs uj h3 h4]
open Classical in
theorem dN.n6{ro:Nat→Prop}{d:Bool}{t:Ty}{xs:List (El t)}{cs:Array Value}{o b cap el:Nat}{G:Nat→Nat→Nat→Prop}(h:dN w ro d t xs cs o G)
 (hb:w.heap[b]? =some (.cells cs el (0,0))) (dr:xs.length≤cap) (dy:o+cap*ar t≤cs.size) {ro':Nat→Prop} (dj:∀k,ro k→ro' k) (hG:∀i j k,G i j k→ro' k):
    ∃av,av [] = .slice (some ⟨b,o,none⟩) xs.length cap∧nx w (fun k=>k=b) ro' t xs av:=by
 have hw:∀ij:Nat×Nat,∃f:Path→Value,∀x t' ys,xs[ij.1]? =some x→(enc t x)[ij.2]? =some (.l t' ys)→cs[o+ij.1*ar t+ij.2]? =some (f [])∧ep w ro' t' ys f:=by
  intro ⟨i,j⟩
  by_cases hex:∃x t' ys,xs[i]? =some x∧(enc t x)[j]? =some (.l t' ys)
  ·obtain⟨x,t',ys,hx,hc⟩:=hex
   obtain⟨u,hu,hr,_⟩:=h.rows i x j _ hx hc
   obtain⟨f,h0,h1⟩:=hr
   refine⟨f,fun x2 t2 ys2 mV EC=> ?_⟩
   simp only at mV EC
   rw[hx] at mV;cases mV
   rw[hc] at EC;cases EC
   exact⟨by rw[h0];exact hu,h1.mono fun k hk=>hk.elim (hG i j k) (dj k)⟩
  ·exact⟨fun _=>undef,fun x t' ys hx hc=>(hex ⟨x,t',ys,hx,hc⟩).elim⟩
 obtain⟨f,hf⟩:=Classical.axiomOfChoice hw
 refine⟨fun q=>match q with | []=> .slice (some ⟨b,o,none⟩) xs.length cap | ij::q=>f ij q,rfl,?_,?_⟩
 ·refine .inr ⟨b,o,cap,cs,el,rfl,rfl,hb,dr,dy,fun i y j c hy hc=> ?_⟩
  obtain⟨u,hu,hr,_⟩:=h.rows i y j c hy hc
  refine⟨u,hu,?_⟩
  cases c with
  |v x=>exact hr
  |l t' ys=>
   obtain⟨h1,_⟩:=hf (i,j) y t' ys hy hc
   simp only at h1
   rw[hu] at h1
   simpa [eI] using h1
 ·intro p s hp hs
  cases p with
  |nil=>exact (hp rfl).elim
  |cons ij p=>
   obtain⟨i,j⟩:=ij
   simp only[aQ] at hs
   split at hs
   case h_2=>cases hs
   rename_i x hx
   split at hs
   case h_2=>cases hs
   rename_i t' ys hc
   obtain⟨_,h2⟩:=hf (i,j) x t' ys hx hc
   exact h2 p s hs
end Go.Gm
namespace Go.Gm
open Go
variable {P : Program} {E : Env} {w : World}
def yC(w:World)(ad:Option Addr)(vs:List Value):Prop:=vs=[]∨∃b o cs el fz,ad=some ⟨b,o,none⟩∧w.heap[b]? =some (.cells cs el fz)∧∀(j:Nat) v,vs[j]? =some v→cs[o+j]? =some v
theorem yC.cells{ad:Addr}{vs:List Value}(h:yC w (some ad) vs):∀(j:Nat) v,vs[j]? =some v→w.cell? (ad.add j)=some v:=by
 intro j v hj
 rcases h with rfl | ⟨b,o,cs,el,fz,e,hb,hc⟩
 ·simp at hj
 ·cases e
  rw[eA,lx hb];exact hc j v hj
theorem pj{sz n:Nat}{ad:Option Addr}{cap:Nat}{vs:List Value}(hl:vs.length=n*sz)(h:yC w ad vs):(Builtin.firstCells sz n (.slice ad n cap)).run P w = .ok vs.toArray w:=by
 cases ad with
 |none=>
  rcases h with rfl | ⟨b,o,cs,el,fz,e,_⟩
  ·exact run_firstCells_none w sz n n cap
  ·cases e
 |some a=>exact run_firstCells_some w sz n a n cap vs hl h.cells
theorem vB(hE:E.Ok P){T T' ty:Nat}{e e':Ty}(hT:E.code T=some (.sl e))(GO:E.code T'=some (.sl e')){sa:Option Addr}{n cap:Nat}{xa:Option Addr}{m c:Nat}{bX news:List Value}
 (ho:bX.length=n*ar e) (yA:yC w sa bX) (hn:news.length=m*ar e) (K0:yC w xa news) (hf:∀v∈news,v.oneCell'=true)
 (dr:n≤cap) (k7:∀b o,sa=some ⟨b,o,none⟩→∃cs el,w.heap[b]? =some (.cells cs el (0,0))∧o+cap*ar e≤cs.size) (hsa:sa=none→cap=0)
 (K1:∀a,sa=some a→a.spot=none) (ji:n+m≤bT):
    ∃v' w',(Builtin.append_ #[T,T'] ty #[.slice sa n cap,.slice xa m c]).run P w = .ok v' w'∧w'.os=w.os∧w'.tape=w.tape∧w'.output=w.output∧
 ((v' = .slice none 0 0∧sa=none∧n=0∧m=0∧w'=w)∨
       ∃b o iE cs el,v' = .slice (some ⟨b,o,none⟩) (n+m) iE∧w'.heap[b]? =some (.cells cs el (0,0))∧n+m≤iE∧o+iE*ar e≤cs.size∧
 (∀(j:Nat) v,(bX++news)[j]? =some v→cs[o+j]? =some v)∧bD (fun k=>k=b) w w'∧((∃ o',sa=some ⟨b,o',none⟩)∨b=w.heap.size)):=by
 obtain⟨el,hu,pg⟩:=hE.slice hT
 obtain⟨pM,yu,_⟩:=hE.slice GO
 obtain⟨i,zv,hi,dy,Ys,hz,vA⟩:=hE.info el e pg
 have n9:=eW e
 have acR:(dP e).length=ar e:=by simp[dP,bl]
 by_cases kH:n+m≤cap
 ·-- in place
  by_cases hm:m=0
  ·subst hm
   have qt:news=[]:=List.eq_nil_of_length_eq_zero (by simpa using hn)
   subst qt
   have hf0:=pj (P:=P) (sz:=ar e) (n:=0) (ad:=xa) (cap:=c) (vs:=[]) (w:=w) (by simp) (.inl rfl)
   cases sa with
   |none=>
    have W9:=hsa rfl
    have K2:n=0:=by omega
    subst W9;subst K2
    refine⟨.slice none 0 0,w,?_,rfl,rfl,rfl,.inl ⟨rfl,rfl,rfl,rfl,rfl⟩⟩
    simp[Builtin.append_,run_underlying hu,run_underlying yu,sizeOf,typeInfo,hi,dy,Builtin.lenOf,hf0]
   |some a=>
    obtain⟨b,o,sp⟩:=a
    have:=K1 _ rfl
    simp only at this;subst this
    obtain⟨cs,Yt,hb,eh⟩:=k7 b o rfl
    refine⟨.slice (some ⟨b,o,none⟩) (n+0) cap,w,?_,rfl,rfl,rfl,.inr ⟨b,o,cap,cs,Yt,rfl,hb,by simpa using dr,eh,?_,⟨Nat.le_refl _,fun _ _ _=>rfl⟩,.inl ⟨o,rfl⟩⟩⟩
    ·simp[Builtin.append_,run_underlying hu,run_underlying yu,sizeOf,typeInfo,hi,dy,Builtin.lenOf,dr,hf0,storeCells]
    ·intro j v hj
     rw[List.append_nil] at hj
     rcases yA with rfl | ⟨b',o',sK,pM,fz',e1,fI,tD⟩
     ·simp at hj
     ·simp only[Option.some.injEq,Addr.mk.injEq,and_true] at e1
      obtain⟨rfl,rfl⟩:=e1
      rw[hb] at fI;cases fI
      exact tD j v hj
  ·cases sa with
   |none=>have:=hsa rfl;omega
   |some a=>
    obtain⟨b,o,sp⟩:=a
    have:=K1 _ rfl
    simp only at this;subst this
    obtain⟨cs,Yt,hb,eh⟩:=k7 b o rfl
    have hf0:=pj (P:=P) (sz:=ar e) (n:=m) (ad:=xa) (cap:=c) (vs:=news) (w:=w) hn K0
    have da:o+n*ar e+news.length≤cs.size:=by
     rw[hn,Nat.add_assoc,←Nat.add_mul]
     exact Nat.le_trans (Nat.add_le_add_left (Nat.mul_le_mul_right _ kH) _) eh
    have jh:=run_storeCells_at P b (o+n*ar e) Yt news 0 cs w hb (by simpa using da) hf
    simp only[Nat.add_zero] at jh
    refine⟨.slice (some ⟨b,o,none⟩) (n+m) cap,w.setRow b (cs.toList.take (o+n*ar e)++news++cs.toList.drop (o+n*ar e+news.length)).toArray,?_,rfl,rfl,rfl,.inr ⟨b,o,cap,_,Yt,rfl,setRow_heap w b cs _ Yt _ hb,kH,?_,?_,dQ w b _,.inl ⟨o,rfl⟩⟩⟩
    ·simp[Builtin.append_,run_underlying hu,run_underlying yu,sizeOf,typeInfo,hi,dy,Builtin.lenOf,kH,hf0,eA,jh]
    ·simp only[List.size_toArray,List.length_append,List.length_take,List.length_drop,Array.length_toList];omega
    ·intro j v hj
     have hlen:o+n*ar e≤cs.size:=by omega
     simp only[List.getElem?_toArray]
     by_cases hjn:j<n*ar e
     ·rw[List.getElem?_append_left (by omega)] at hj
      rw[List.append_assoc,List.getElem?_append_left (by simp;omega),List.getElem?_take,if_pos (by omega)]
      rcases yA with rfl | ⟨b',o',sK,pM,fz',e1,fI,tD⟩
      ·simp at hj
      ·simp only[Option.some.injEq,Addr.mk.injEq,and_true] at e1
       obtain⟨rfl,rfl⟩:=e1
       rw[hb] at fI;cases fI
       simpa using tD j v hj
     ·rw[List.getElem?_append_right (by omega)] at hj
      have IK:j-bX.length<news.length:=by
       rcases Nat.lt_or_ge (j-bX.length) news.length with h' | h'
       ·exact h'
       ·simp[List.getElem?_eq_none h'] at hj
      rw[List.getElem?_append_left (by simp;omega),List.getElem?_append_right (by simp;omega)]
      have:o+j-min (o+n*ar e) cs.size=j-bX.length:=by omega
      simpa [this] using hj
 ·-- elsewhere
  have bU:n+m>cap:=by omega
  have sR:(n+m)*i.bytes≤140737488355328:=by
   have:(n+m)*i.bytes≤bT*1024:=Nat.mul_le_mul ji Ys
   unfold bT at this;omega
  have aj3:=growslice_fits (need:=n+m) (old:=cap) (by omega) sR
  have ahp : ¬(9223372036854775807<((n:Int)+(m:Int))):=by unfold bT at ji;omega
  have ahq : ¬(281474976710656<Builtin.nextslicecap (n+m) cap*i.bytes):=by omega
  have K3 : ¬(n+m≤cap):=kH
  have hdr:yC w.drew sa bX:=by rcases yA with h | ⟨b,o,cs,el,fz,h1,h2,h3⟩;exact .inl h;exact .inr ⟨b,o,cs,el,fz,h1,h2,h3⟩
  have ahr:yC w.drew xa news:=by rcases K0 with h | ⟨b,o,cs,el,fz,h1,h2,h3⟩;exact .inl h;exact .inr ⟨b,o,cs,el,fz,h1,h2,h3⟩
  have hf1:=pj (P:=P) (sz:=ar e) (n:=n) (ad:=sa) (cap:=cap) (vs:=bX) (w:=w.drew) ho hdr
  have hf0:=pj (P:=P) (sz:=ar e) (n:=m) (ad:=xa) (cap:=c) (vs:=news) (w:=w.drew) hn ahr
  have ED:=grownCap_ge w (n+m) cap el
  have IM:zv.cells.size=ar e:=by rw[vA];simp[acR]
  refine⟨.slice (some ⟨w.heap.size,0,none⟩) (n+m) (grownCap w (n+m) cap el),w.drew.alloc (.cells (bX.toArray++news.toArray++Builtin.zeroCells zv.cells (grownCap w (n+m) cap el-(n+m))) el),?_,rfl,rfl,rfl,
   .inr ⟨w.heap.size,0,_,_,el,rfl,heap_alloc_new w.drew _,ED,?_,?_,?_,.inr rfl⟩⟩
  ·simp[Builtin.append_,run_underlying hu,run_underlying yu,sizeOf,typeInfo,zeroValue,hi,hz,dy,Builtin.lenOf,K3,ahp,ahq,Question.forced,newRow,grownCap,hf0,hf1]
   congr 2
   apply Array.ext'
   simp[List.append_assoc]
  ·simp only[Array.size_append,List.size_toArray,size_zeroCells,IM,ho,hn,Nat.zero_add,←Nat.add_mul]
   refine Nat.le_of_eq ?_
   congr 1;omega
  ·intro j v hj
   have IK:j<(bX++news).length:=by
    rcases Nat.lt_or_ge j (bX++news).length with h' | h'
    ·exact h'
    ·simp[List.getElem?_eq_none h'] at hj
   rw[Nat.zero_add,Array.getElem?_append_left (by simpa using IK)]
   simpa using hj
  ·refine⟨by simp,fun k hk _=>heap_alloc_old w.drew _ k hk⟩
end Go.Gm
namespace Go.Gm
open Go
variable {R : Type} {w0 w : World} {Mf : Nat → Prop} {g : Gh} {st : St} {a : Act}
abbrev Gh.uo(g:Gh)(rf:Nat→Nat→Prop):Gh:={ g with rf:=rf }
structure fJ (w:World) (g:Gh) (rf:Nat→Nat→Prop) (st aF:St) (fr:List (Nat×Rt)) (Fs:List (Nat→Prop)):Prop where
 eq:aF={ st with roots:=cj st.roots fr }
 own:∀id,aS aF id→aS st id
 less:∀id k,rf id k→g.rf id k
 map:∀c u,bg w g st c u→bg w g aF c u
 apart:bS Fs
 src:∀F∈Fs,∀k,F k→∃id,aS st id∧g.rf id k
 off:∀F∈Fs,∀k,F k→∀id,aS aF id→ ¬rf id k
 live:∀id r,au aF.roots id=some (.live r)→∃r0,au st.roots id=some (.live r0)∧r0.ver=r.ver
theorem bg.rf(rf:Nat→Nat→Prop){c:Sc}{u:Value}(h:bg w g st c u):bg w (g.uo rf) st c u:=by
 cases c<;>exact h
theorem bg.rf'{rf:Nat→Nat→Prop}{c:Sc}{u:Value}(h:bg w (g.uo rf) st c u):bg w g st c u:=by
 cases c<;>exact h
theorem mT.rf(rf:Nat→Nat→Prop):∀{cs:List Sc}{us:List Value},mT w g st cs us→mT w (g.uo rf) st cs us
 | [],[],_=>trivial
 | [],_::_,h=>h.elim
 |_::_,[],h=>h.elim
 |_::_,_::_,h=>⟨h.1.rf rf,mT.rf rf h.2⟩
theorem fJ.refl(w:World)(g:Gh)(st:St):fJ w g g.rf st st [] []:=
 ⟨rfl,fun _ h=>h,fun _ _ h=>h,fun _ _ h=>h,List.Pairwise.nil,by simp,by simp,fun _ r h=>⟨r,h,rfl⟩⟩
theorem fJ.trans{rf rf2:Nat→Nat→Prop}{s1 s2 s3:St}{u v:List (Nat×Rt)}{Fs Gs:List (Nat→Prop)}(h:fJ w g rf s1 s2 u Fs)(k:fJ w (g.uo rf) rf2 s2 s3 v Gs):fJ w g rf2 s1 s3 (u++v) (Fs++Gs):=by
 refine⟨?_,fun id hi=>h.own id (k.own id hi),fun id n hn=>h.less id n (k.less id n hn),fun c u hc=>(k.map c u ((h.map c u hc).rf rf)).rf',?_,?_,?_,fun id r hr=> ?_⟩
 ·rw[k.eq,h.eq,bn]
 ·refine List.pairwise_append.2 ⟨h.apart,k.apart,fun F hF G hG n hn KR=> ?_⟩
  obtain⟨id,cS,n7⟩:=k.src G hG n KR
  exact h.off F hF n hn id cS n7
 ·intro F hF n hn
  rcases List.mem_append.1 hF with hF | hF
  ·exact h.src F hF n hn
  ·obtain⟨id,cS,n7⟩:=k.src F hF n hn
   exact⟨id,h.own id cS,h.less id n n7⟩
 ·intro F hF n hn id cS hr
  rcases List.mem_append.1 hF with hF | hF
  ·exact h.off F hF n hn id (k.own id cS) (k.less id n hr)
  ·exact k.off F hF n hn id cS hr
 ·obtain⟨r1,h1,e1⟩:=k.live id r hr
  obtain⟨r0,h0,e0⟩:=h.live id r1 h1
  exact⟨r0,h0,e0.trans e1⟩
theorem kN.P{aF:St}{fr:List (Nat×Rt)}{Fs:List (Nat→Prop)}(T:kN w g st aF fr Fs):fJ w g g.rf st aF fr Fs:=
 ⟨T.eq,T.own,fun _ _ h=>h,T.map,T.apart,T.src,T.off,fun id r h=>⟨r,T.live id r h,rfl⟩⟩
theorem Inv.AG(I:Inv w0 Mf g st a w){id:Nat}{r:cC}(h:au st.roots id=some (.live r))(hm:r.md.cr=false){md:Md}(cK:md.cr=false){F:Nat→Prop}(hF:∀k,F k→g.rf id k)
 (hr:aV w (g.uo fun i k=>if i=id then F k else g.rf i k) id ⟨r.t,md,r.ver,r.log,r.xs⟩):
    Inv w0 Mf (g.uo fun i k=>if i=id then F k else g.rf i k) { st with roots:=bd st.roots id (.live ⟨r.t,md,r.ver,r.log,r.xs⟩) } a w∧
    ∀c u,bg w g st c u→bg w g { st with roots:=bd st.roots id (.live ⟨r.t,md,r.ver,r.log,r.xs⟩) } c u:=by
 have cQ:aS st id:=⟨r,h,hm⟩
 have ho:∀aJ,aS { st with roots:=bd st.roots id (.live ⟨r.t,md,r.ver,r.log,r.xs⟩) } aJ→aS st aJ:=fun aJ ⟨r',h1,h2⟩=>by
  simp only[aH] at h1
  by_cases e:aJ=id
  ·rw[e];exact cQ
  ·exact⟨r',by simpa [e] using h1,h2⟩
 have hl:∀aJ k,(if aJ=id then F k else g.rf aJ k)→g.rf aJ k:=by
  intro aJ k hk
  by_cases e:aJ=id
  ·rw[if_pos e] at hk;rw[e];exact hF k hk
  ·rw[if_neg e] at hk;exact hk
 have vC:∀c u,bg w g st c u→bg w g { st with roots:=bd st.roots id (.live ⟨r.t,md,r.ver,r.log,r.xs⟩) } c u:=by
  intro c u hc
  have hv:∀aJ ver iv,cL st aJ ver iv→cL { st with roots:=bd st.roots id (.live ⟨r.t,md,r.ver,r.log,r.xs⟩) } aJ ver iv:=by
   intro aJ ver iv hv
   unfold cL at hv ⊢
   simp only[aH]
   by_cases e:aJ=id
   ·subst e;simp only[h] at hv;simp only[if_true];exact hv
   ·simpa [e] using hv
  have hx:∀aJ ver iv p r',Vx { st with roots:=bd st.roots id (.live ⟨r.t,md,r.ver,r.log,r.xs⟩) } aJ ver iv p r'→∃r0,Vx st aJ ver iv p r0∧r0.t=r'.t∧HEq r0.xs r'.xs:=by
   intro aJ ver iv p r' ⟨h1,h2,h3⟩
   simp only[aH] at h1
   by_cases e:aJ=id
   ·subst e
    simp only[if_true,Option.some.injEq,Rt.live.injEq,reduceCtorEq,or_false] at h1
    subst h1
    exact⟨r,⟨.inl h,h2,h3⟩,rfl,.rfl⟩
   ·exact⟨r',⟨by simpa [e] using h1,h2,h3⟩,rfl,.rfl⟩
  refine⟨hc.1,?_⟩
  have h2:=hc.2
  cases c with
  |h aJ ver iv p=>
   refine⟨hv _ _ _ h2.1,fun r' j6=> ?_⟩
   obtain⟨⟨t0,sL,v0,l0,x0⟩,h3,e1,e2⟩:=hx _ _ _ _ _ j6
   obtain⟨t1,KG,v1,l1,x1⟩:=r'
   simp only at e1;subst e1
   have e2:=eq_of_heq e2
   simp only at e2;subst e2
   have h4:=h2.2 ⟨t0,sL,v0,l0,x0⟩ h3
   exact h4
  |vw aJ ver lo hi=>
   refine⟨hv _ _ _ h2.1,fun r' j6=> ?_⟩
   obtain⟨⟨t0,sL,v0,l0,x0⟩,h3,e1,e2⟩:=hx _ _ _ _ _ j6
   obtain⟨t1,KG,v1,l1,x1⟩:=r'
   simp only at e1;subst e1
   have e2:=eq_of_heq e2
   simp only at e2;subst e2
   have h4:=h2.2 ⟨t0,sL,v0,l0,x0⟩ h3
   exact h4
  |pe aJ ver iv p i off=>
   refine⟨hv _ _ _ h2.1,fun r' j6=> ?_⟩
   obtain⟨⟨t0,sL,v0,l0,x0⟩,h3,e1,e2⟩:=hx _ _ _ _ _ j6
   obtain⟨t1,KG,v1,l1,x1⟩:=r'
   simp only at e1;subst e1
   have e2:=eq_of_heq e2
   simp only at e2;subst e2
   have h4:=h2.2 ⟨t0,sL,v0,l0,x0⟩ h3
   exact h4
  |_=>exact h2
 refine⟨?_,vC⟩
 exact {
  ay:=fun s sv h'=>let ⟨u,hu,hr⟩:=I.ay s sv h';⟨u,hu,hr.map fun c u hc=>(vC c u hc).rf _⟩
  boxes:=fun b x h'=>let ⟨us,el,h1,h2⟩:=I.boxes b x h';⟨us,el,h1,h2.map fun c u hc=>(vC c u hc).rf _⟩
  roots:=fun aJ r' h'=>by
   simp only[aH] at h'
   by_cases e:aJ=id
   ·subst e;simp only[if_true,Option.some.injEq,Rt.live.injEq] at h';subst h';exact hr
   ·have:=I.roots aJ r' (by simpa [e] using h')
    unfold aV at this ⊢
    simpa [e] using this
  apart:={
   rr:=fun i i' k h1 h2 h3 h4=>I.apart.rr i i' k (ho _ h1) (ho _ h2) (hl _ _ h3) (hl _ _ h4)
   rb:=fun i b h1 h2 h3=>I.apart.rb i b (ho _ h1) h2 (hl _ _ h3)
   bb:=I.apart.bb
   eu:=fun i k h1 h3=>I.apart.eu i k (ho _ h1) (hl _ _ h3)
   gD:=I.apart.gD
   cp:=fun i k h1 h3=>I.apart.cp i k (ho _ h1) (hl _ _ h3)
   dL:=I.apart.dL
   ew:=fun i k h1 h3=>I.apart.ew i k (ho _ h1) (hl _ _ h3)
   db:=I.apart.db
   bY:=I.apart.bY }
  kept:=I.kept
  defers:=I.defers
  size:=I.size
  base:=⟨I.base.wl,I.base.ap,I.base.ro⟩ }
theorem vD{m:Md}{i j:Nat}(h:m.tB i j=true):m.cr=false∧(m = .deep∨∃a b,m = .part (.cur a b)∧ov a b i j=true):=by
 cases m with
 |deep=>exact⟨rfl,.inl rfl⟩
 |part k=>
  cases k with
  |cur a b=>exact⟨rfl,.inr ⟨a,b,rfl,h⟩⟩
  |hole p=>cases h
 |n6=>cases h
 |B5=>cases h
theorem Inv.EE(I:Inv w0 Mf g st a w){id:Nat}{r:cC}(h:au st.roots id=some (.live r)){i j:Nat}(ht:r.md.tB i j=true):cX w (g.rf id) (.cur i j) r.t r.xs (g.rv id):=by
 have hr:=I.roots id r h
 unfold aV at hr
 obtain⟨_,hm | ⟨a',b',hm,hl⟩⟩:=vD ht
 ·rw[hm] at hr;exact hr.part _
 ·rw[hm] at hr;exact hr.on hl
theorem Inv.take(I:Inv w0 Mf g st a w){id:Nat}{r:cC}(h:au st.roots id=some (.live r)){i j i' j':Nat}(ht:r.md.tB i j=true)(hl:ov i j i' j'=true){Fs:Nat→Prop}
 (hF:∀k,Fs k↔∃p s,(Pt.cur i j).nodeAt p=true∧(Pt.cur i' j').nodeAt p=false∧aQ r.t r.xs p=some s∧qR (g.rv id p)=some k):
    ∃rf,Inv w0 Mf (g.uo rf) (st.taken id r i' j') a w∧fJ w g rf st (st.taken id r i' j') [(id,.live ⟨r.t,.part (.cur i' j'),r.ver,r.log,r.xs⟩)] [Fs]:=by
 have hp:=I.EE h ht
 have yv:=(vD ht).1
 have cQ:aS st id:=⟨r,h,yv⟩
 have SZ:∀k,Fs k→g.rf id k:=fun k hk=>by
  obtain⟨p,s,h1,_,h3,h4⟩:=(hF k).1 hk
  exact bA.oa (hp.1 p s h1 h3) h4
 have jA:cX w (fun k=>g.rf id k∧ ¬Fs k) (.cur i' j') r.t r.xs (g.rv id):=by
  have ho:=hp.on hl
  refine⟨fun p s h1 hs=>bA.toF (ho.1 p s h1 hs) fun k hk=>⟨bA.oa (ho.1 p s h1 hs) hk,fun tF=> ?_⟩,ho.2⟩
  obtain⟨q,s',h2,h3,h4,h5⟩:=(hF k).1 tF
  have:=hp.2.1 p q s s' k (lS hl h1) h2 hs h4 hk h5
  subst this
  rw[h1] at h3;cases h3
 obtain⟨I1,vC⟩:=I.AG h yv (md:= .part (.cur i' j')) rfl (F:=fun k=>g.rf id k∧ ¬Fs k) (fun k hk=>hk.1) (by unfold aV;simpa using jA)
 refine⟨_,I1,rfl,fun aJ ⟨r',h1,h2⟩=> ?_,fun aJ k hk=> ?_,vC,List.pairwise_singleton _ _,fun F Yu k hk=> ?_,fun F Yu k hk aJ cS n7=> ?_,fun aJ r' h'=> ?_⟩
 ·simp only[St.taken,aH] at h1
  by_cases e:aJ=id
  ·rw[e];exact cQ
  ·exact⟨r',by simpa [e] using h1,h2⟩
 ·by_cases e:aJ=id
  ·rw[if_pos e] at hk;rw[e];exact hk.1
  ·rw[if_neg e] at hk;exact hk
 ·simp only[List.mem_singleton] at Yu;subst Yu
  exact⟨id,cQ,SZ k hk⟩
 ·simp only[List.mem_singleton] at Yu;subst Yu
  by_cases e:aJ=id
  ·rw[if_pos e] at n7;exact n7.2 hk
  ·rw[if_neg e] at n7
   obtain⟨r',h1,h2⟩:=cS
   simp only[St.taken,aH,e,if_false] at h1
   exact e (I.apart.rr aJ id k ⟨r',h1,h2⟩ cQ n7 (SZ k hk))
 ·simp only[St.taken,aH] at h'
  by_cases e:aJ=id
  ·subst e
   simp only[if_true,Option.some.injEq,Rt.live.injEq] at h'
   subst h';exact⟨r,h,rfl⟩
  ·exact⟨r',by simpa [e] using h',rfl⟩
theorem cX.at{F:Nat→Prop}{a b:Nat}{t:Ty}{xs:List (El t)}{av:Path→Value}(hp:cX w F (.cur a b) t xs av){i j:Nat}(hl:ov a b i j=true){s:Sl}(eK:aQ t xs [(i,j)]=some s):
    a8 w (dR t xs av [(i,j)]) s.t s.xs fun q=>av ([(i,j)]++q):=by
 have B6:∀q,(Pt.cur a b).nodeAt ([(i,j)]++q)=true:=fun q=>hl
 refine⟨fun q s2 hq=> ?_,fun q q' s1 s2 b h1 h2 h3 h4=> ?_⟩
 ·have h1:aQ t xs ([(i,j)]++q)=some s2:=by rw[ck q eK];exact hq
  have:=bA.toF (G:=dR t xs av [(i,j)]) (hp.1 _ s2 (B6 q) h1) fun k hk=>⟨q,s2,h1,hk⟩
  simpa [List.append_assoc] using this
 ·have e1:aQ t xs ([(i,j)]++q)=some s1:=by rw[ck q eK];exact h1
  have e2:aQ t xs ([(i,j)]++q')=some s2:=by rw[ck q' eK];exact h2
  have:=hp.2.1 _ _ _ _ b (B6 q) (B6 q') e1 e2 h3 h4
  simpa using this
theorem Inv.ml(I:Inv w0 Mf g st a w){c:Sc}{q:Option Ty}{k:Cv→Bool→St→List (Nat×Rt)→Option R}{r:R}{u:Value}(h:ml st c q k=some r)(hc:bg w g st c u):
    ∃cv d aF fr F rf,k cv d aF fr=some r∧Inv w0 Mf (g.uo rf) aF a w∧fJ w g rf st aF fr [F]∧pL w (fun k=>F k∨g.ro k) cv u∧(d=true→gX w F cv u):=by
 unfold Gm.ml at h
 split at h
 ·rename_i id ver iv i j t
  obtain⟨ro,dj,h⟩:=de h
  obtain⟨ht,h⟩:=bh h
  obtain⟨s,hs,h⟩:=aT h
  obtain⟨hu,lv⟩:=hc.2.2 ro dj.x
  obtain⟨s',eK⟩:=Option.isSome_iff_exists.1 lv
  have:=cW eK
  rw[hs] at this;cases this
  have hp:=I.EE dj.1 ht
  have hl:ov i j i (j+1)=true:=eX.2 (.inr ⟨rfl,Nat.le_succ _⟩)
  have B6:∀q,(Pt.cur i j).nodeAt ([(i,j)]++q)=true:=fun q=>eX.2 (.inr ⟨rfl,Nat.le_refl _⟩)
  let F:Nat→Prop:=dR ro.t ro.xs (g.rv id) [(i,j)]
  obtain⟨rf,I1,T1⟩:=I.take dj.1 ht hl (Fs:=F) (fun k=>by
   constructor
   ·rintro⟨q,s2,h1,h2⟩
    refine⟨[(i,j)]++q,s2,B6 q,?_,h1,h2⟩
    show ov i (j+1) i j=false
    cases hh:ov i (j+1) i j with
    |false=>rfl
    |true=>rw[eX] at hh;omega
   ·rintro⟨p,s2,h1,h2,h3,h4⟩
    cases p with
    |nil=>cases h2
    |cons ij p=>
     obtain⟨i2,j2⟩:=ij
     have h1:ov i j i2 j2=true:=h1
     have h2:ov i (j+1) i2 j2=false:=h2
     have:i2=i∧j2=j:=by
      rw[eX] at h1
      have KF : ¬(i<i2∨(i=i2∧j+1≤j2)):=fun hh=>by rw[eX.2 hh] at h2;cases h2
      omega
     obtain⟨rfl,rfl⟩:=this
     exact⟨p,s2,h3,h4⟩)
  have ez:a8 w F s.t s.xs fun q=>g.rv id ([(i,j)]++q):=hp.at (eX.2 (.inr ⟨rfl,Nat.le_refl _⟩)) eK
  exact⟨_,_,_,_,F,rf,h,I1,T1,⟨_,by simpa using hu.symm,ez.rd.mono fun k=> .inl⟩,fun _=>⟨_,by simpa using hu.symm,ez⟩⟩
 ·obtain⟨cv,d,aF,fr,F,h1,I1,T1,h2,h3⟩:=I.kE h hc
  exact⟨cv,d,aF,fr,F,g.rf,h1,I1,T1.P,h2,h3⟩
theorem Inv.tC:∀{cs:List Sc}{g:Gh}{st:St}{qs:List (Option Ty)}{k:List Cv→Bool→St→List (Nat×Rt)→Option R}{r:R}{us:List Value},Inv w0 Mf g st a w→
    tC st cs qs k=some r→mT w g st cs us→
    ∃cv d aF fr Fs rf,k cv d aF fr=some r∧Inv w0 Mf (g.uo rf) aF a w∧fJ w g rf st aF fr Fs∧ny w g.ro cv us Fs d
 | [],g,st,[],k,r,us,I,h,hc=>by
  cases us with
  |nil=>exact⟨[],true,st,[],[],g.rf,h,I,fJ.refl _ _ _,.nil⟩
  |cons u us=>exact hc.elim
 |c::cs,g,st,q::qs,k,r,us,I,h,hc=>by
  cases us with
  |nil=>exact hc.elim
  |cons u us=>
   obtain⟨cv,d,s1,u1,F,rf,h1,I1,T1,hr,ho⟩:=I.ml h hc.1
   obtain⟨Cl,d2,s2,u2,Fs,rf2,h2,I2,T2,hA⟩:=Inv.tC I1 h1 ((hc.2.map T1.map).rf rf)
   exact⟨_,_,_,_,_,rf2,h2,I2,T1.trans T2,.cons hr ho hA⟩
 | [],g,_,_::_,k,r,us,I,h,hc=>by cases h
 |_::_,g,_,[],k,r,us,I,h,hc=>by cases h
theorem Inv.Yv(I:Inv w0 Mf g st a w){id:Nat}{r:cC}(h:au st.roots id=some (.live r))(hm:r.md = .deep){p:Path}(Xa:p≠[]){s:Sl}(hs:aQ r.t r.xs p=some s){aJ ver:Nat}(dn:aJ≠id)
 (da:dF st aJ ⟨s.t,.deep,ver,[],s.xs⟩):
    ∃g',g'.n=g.n∧g'.ro=g.ro∧(∀ b,g'.bx b=g.bx b)∧g'.rv aJ []=g.rv id p∧
      Inv w0 Mf g' { st with roots:=bd (bd st.roots id (.live ⟨r.t,.part (.hole p),r.ver,r.log,r.xs⟩)) aJ (.live ⟨s.t,.deep,ver,[],s.xs⟩) } a w∧
      ∀i k,aS { st with roots:=bd (bd st.roots id (.live ⟨r.t,.part (.hole p),r.ver,r.log,r.xs⟩)) aJ (.live ⟨s.t,.deep,ver,[],s.xs⟩) } i→g'.rf i k→∃i0,aS st i0∧g.rf i0 k:=by
 have hr:=I.roots id r h
 unfold aV at hr
 rw[hm] at hr
 have hr:a8 w (g.rf id) r.t r.xs (g.rv id):=hr
 have yv:r.md.cr=false:=by rw[hm];rfl
 have cQ:aS st id:=⟨r,h,yv⟩
 let F:Nat→Prop:=dR r.t r.xs (g.rv id) p
 have SZ:∀k,F k→g.rf id k:=fun k ⟨q,s2,h1,h2⟩=>bA.oa (hr.1 _ s2 h1) h2
 have acS:=hr.part (.hole p)
 have jA:cX w (fun k=>g.rf id k∧ ¬F k) (.hole p) r.t r.xs (g.rv id):=by
  refine⟨fun q s2 h1 h2=>bA.toF (hr.1 q s2 h2) fun k hk=>⟨bA.oa (hr.1 q s2 h2) hk,fun ⟨q',s3,h3,h4⟩=> ?_⟩,acS.2⟩
  have:=hr.2 _ _ _ _ k h2 h3 hk h4
  subst this
  exact (jd Xa).1 h1 (List.prefix_append _ _)
 obtain⟨I1,_⟩:=I.AG h yv (md:= .part (.hole p)) rfl (F:=fun k=>g.rf id k∧ ¬F k) (fun k hk=>hk.1) (by unfold aV;simpa using jA)
 have mW:dF { st with roots:=bd st.roots id (.live ⟨r.t,.part (.hole p),r.ver,r.log,r.xs⟩) } aJ ⟨s.t,.deep,ver,[],s.xs⟩:=by
  unfold dF at da ⊢
  simpa only[b6 _ _ dn] using da
 have eC:a8 w F s.t s.xs fun q=>g.rv id (p++q):=hr.at hs
 have I2:=I1.b7 (id:=aJ) (r:=⟨s.t,.deep,ver,[],s.xs⟩) mW (av:=fun q=>g.rv id (p++q)) (F:=F) (by unfold aV;simp only[Gh.b7,if_true];exact eC)
  (fun k hk=>⟨fun i ⟨r',h1,h2⟩ hi n7=>by
   simp only[aH] at h1
   by_cases e:i=id
   ·subst e
    simp only[if_true] at n7
    exact n7.2 hk
   ·simp only[e,if_false] at h1 n7
    exact e (I.apart.rr i id k ⟨r',h1,h2⟩ cQ n7 (SZ k hk)),I.apart.eu id k cQ (SZ k hk),fun b hb e=>I.apart.rb id b cQ hb (e▸SZ k hk),I.apart.cp id k cQ (SZ k hk),I.apart.ew id k cQ (SZ k hk)⟩)
 refine⟨(g.uo fun i k=>if i=id then g.rf id k∧ ¬F k else g.rf i k).b7 aJ (fun q=>g.rv id (p++q)) F,rfl,rfl,fun _=>rfl,?_,I2,fun i k ⟨r',h1,h2⟩ n7=> ?_⟩
 ·simp[Gh.b7]
 ·by_cases e:i=aJ
  ·subst e
   simp only[Gh.b7,if_true] at n7
   exact⟨id,cQ,SZ k n7⟩
  ·simp only[Gh.b7,e,if_false] at n7
   by_cases e2:i=id
   ·subst e2
    simp only[if_true] at n7
    exact⟨i,cQ,n7.1⟩
   ·simp only[e2,if_false] at n7
    simp only[aH,e,e2,if_false] at h1
    exact⟨i,⟨r',h1,h2⟩,n7⟩
end Go.Gm
