/- The G-machine, part 1: an evaluator of translated code on typed values, and that it is sound. No conditions. -/
import Derived.Orders
import Derived.Laws.CopyRow
import Derived.Laws.Entries
import Derived.Laws.Rows
import Derived.ChangeKeysEq
import Derived.Laws.Cover3
import Derived.Lib.SliceRun
import Derived.Laws.BytesArg
import Derived.Laws.BytesString
import Derived.Laws.AppendOwn
namespace Go.Gm
abbrev BA:=ByteArray
theorem bJ {α:Type _} {p:α→Prop} {a:α} {l:List α}:(∀ x∈a::l,p x)↔p a∧∀x∈l,p x:=List.forall_mem_cons
theorem im {α:Type _} {p:α→Prop}:∀x∈([]:List α),p x:=List.forall_mem_nil p
structure ae where
 kind:Int
 n:Int
 s:BA
 keys:List BA
 kids:List ae
structure af where
 kind:Int
 keys:List BA
 kids:List af
 need:List Bool
 low:Int
 high:Int
structure ai where
 b:List Int
 i:Int
 h:Int
inductive Ty where
 | i (k:IntKind) | bool | str | sl (t:Ty)
 | node
 | aq
 | cur
 deriving DecidableEq
@[reducible] def El:Ty→Type
 | .i _=>Int
 | .bool=>Bool
 | .str=>BA
 | .sl t=>List (El t)
 | .node=>ae
 | .aq=>af
 | .cur=>ai
inductive Cv where
 | v (x:Value)
 | l (t:Ty) (xs:List (El t))
def Cv.int? :Cv→Option Int | .v (.int .i64 n)=>some n | _=>none
def Cv.PA:Cv→Option BA | .v (.string s)=>some s | _=>none
def Cv.bool? :Cv→Option Bool | .v (.bool b)=>some b | _=>none
def Cv.ik? (k:IntKind):Cv→Option Int | .v (.int k' n)=>if k'=k then some n else none | _=>none
def Cv.Iq (t:Ty):Cv→Option (List (El t)) | .l t' xs=>if h:t'=t then some (h▸xs) else none | _=>none
theorem Cv.iT {c:Cv} {n:Int} (h:c.int? =some n):c = .v (.int .i64 n):=by unfold Cv.int? at h;split at h<;>simp_all
theorem Cv.xw {c:Cv} {n:BA} (h:c.PA=some n):c = .v (.string n):=by unfold Cv.PA at h;split at h<;>simp_all
theorem Cv.CN {c:Cv} {n:Bool} (h:c.bool? =some n):c = .v (.bool n):=by unfold Cv.bool? at h;split at h<;>simp_all
theorem Cv.Ir {k:IntKind} {c:Cv} {n:Int} (h:c.ik? k=some n):c = .v (.int k n):=by unfold Cv.ik? at h;split at h<;>simp_all
theorem Cv.iq {t:Ty} {c:Cv} {n:List (El t)} (h:c.Iq t=some n):c = .l t n:=by
 unfold Cv.Iq at h;split at h
 ·split at h
  ·rename_i e;subst e;simpa using h
  ·cases h
 ·cases h
def tr (x:ae):List Cv:=[.v (.int .i64 x.kind),.v (.int .i64 x.n),.v (.string x.s),.l .str x.keys,.l .node x.kids]
def tt:List Cv→Option ae
 | [c0,c1,c2,c3,c4]=>(Cv.int? c0).bind fun a0=>(Cv.int? c1).bind fun a1=>(Cv.PA c2).bind fun a2=>(Cv.Iq .str c3).bind fun a3=>(Cv.Iq .node c4).bind fun a4=>some ⟨a0,a1,a2,a3,a4⟩
 | _=>none
theorem yI {cs:List Cv} {x:ae} (h:tt cs=some x):cs=tr x:=by
 unfold tt at h;split at h
 ·simp only [Option.bind_eq_some_iff,Option.some.injEq] at h;obtain ⟨a0,h0,a1,h1,a2,h2,a3,h3,a4,h4,rfl⟩:=h
  simp only [tr,Cv.iT h0,Cv.iT h1,Cv.xw h2,Cv.iq h3,Cv.iq h4]
 ·cases h
def Gu:ae:=⟨0,0,ByteArray.empty,[],[]⟩
def tu (x:af):List Cv:=[.v (.int .i64 x.kind),.l .str x.keys,.l .aq x.kids,.l .bool x.need,.v (.int .i64 x.low),.v (.int .i64 x.high)]
def tv:List Cv→Option af
 | [c0,c1,c2,c3,c4,c5]=>(Cv.int? c0).bind fun a0=>(Cv.Iq .str c1).bind fun a1=>(Cv.Iq .aq c2).bind fun a2=>(Cv.Iq .bool c3).bind fun a3=>(Cv.int? c4).bind fun a4=>(Cv.int? c5).bind fun a5=>some ⟨a0,a1,a2,a3,a4,a5⟩
 | _=>none
theorem yJ {cs:List Cv} {x:af} (h:tv cs=some x):cs=tu x:=by
 unfold tv at h;split at h
 ·simp only [Option.bind_eq_some_iff,Option.some.injEq] at h;obtain ⟨a0,h0,a1,h1,a2,h2,a3,h3,a4,h4,a5,h5,rfl⟩:=h
  simp only [tu,Cv.iT h0,Cv.iq h1,Cv.iq h2,Cv.iq h3,Cv.iT h4,Cv.iT h5]
 ·cases h
def Gv:af:=⟨0,[],[],[],0,0⟩
def yK (x:ai):List Cv:=[.l (.i .u8) x.b,.v (.int .i64 x.i),.v (.int .i64 x.h)]
def yL:List Cv→Option ai
 | [c0,c1,c2]=>(Cv.Iq (.i .u8) c0).bind fun a0=>(Cv.int? c1).bind fun a1=>(Cv.int? c2).bind fun a2=>some ⟨a0,a1,a2⟩
 | _=>none
theorem Az {cs:List Cv} {x:ai} (h:yL cs=some x):cs=yK x:=by
 unfold yL at h;split at h
 ·simp only [Option.bind_eq_some_iff,Option.some.injEq] at h;obtain ⟨a0,h0,a1,h1,a2,h2,rfl⟩:=h
  simp only [yK,Cv.iq h0,Cv.iT h1,Cv.iT h2]
 ·cases h
def Is:ai:=⟨[],0,0⟩
def enc:(t:Ty)→El t→List Cv
 | .i k,n=>[.v (.int k n)]
 | .bool,b=>[.v (.bool b)]
 | .str,s=>[.v (.string s)]
 | .sl t,xs=>[.l t xs]
 | .node,x=>tr x
 | .aq,x=>tu x
 | .cur,x=>yK x
def dec:(t:Ty)→List Cv→Option (El t)
 | .i k,[c]=>c.ik? k
 | .bool,[c]=>c.bool?
 | .str,[c]=>c.PA
 | .sl t,[c]=>c.Iq t
 | .node,cs=>tt cs
 | .aq,cs=>tv cs
 | .cur,cs=>yL cs
 | _,_=>none
theorem c6:∀ {t:Ty} {cs:List Cv} {x:El t},dec t cs=some x→cs=enc t x
 | .i k,[c],x,h=>by simp only [dec] at h;simp only [enc,Cv.Ir h]
 | .bool,[c],x,h=>by simp only [dec] at h;simp only [enc,Cv.CN h]
 | .str,[c],x,h=>by simp only [dec] at h;simp only [enc,Cv.xw h]
 | .sl t,[c],x,h=>by simp only [dec] at h;simp only [enc,Cv.iq h]
 | .i k,[],x,h=>by simp [dec] at h
 | .i k,_::_::_,x,h=>by simp [dec] at h
 | .bool,[],x,h=>by simp [dec] at h
 | .bool,_::_::_,x,h=>by simp [dec] at h
 | .str,[],x,h=>by simp [dec] at h
 | .str,_::_::_,x,h=>by simp [dec] at h
 | .sl t,[],x,h=>by simp [dec] at h
 | .sl t,_::_::_,x,h=>by simp [dec] at h
 | .node,cs,x,h=>by simp only [dec] at h;exact yI h
 | .aq,cs,x,h=>by simp only [dec] at h;exact yJ h
 | .cur,cs,x,h=>by simp only [dec] at h;exact Az h
def aD:Ty→Nat
 | .i _ | .bool | .str | .sl _=>1
 | .node=>5
 | .aq=>6
 | .cur=>3
theorem br:∀(t:Ty) (x:El t),(enc t x).length=aD t
 | .i _,_ | .bool,_ | .str,_ | .sl _,_=>rfl
 | .node,_=>rfl
 | .aq,_=>rfl
 | .cur,_=>rfl
def ik:Ty→Bool
 | .i _ | .bool | .str | .sl _=>false
 | _=>true
def zero:(t:Ty)→El t
 | .i _=>0
 | .bool=>false
 | .str=>ByteArray.empty
 | .sl _=>[]
 | .node=>Gu
 | .aq=>Gv
 | .cur=>Is
def cR:Value→Bool | .agg _=>false | .tuple _=>false | _=>true
def Cv.cR:Cv→Bool | .v y=>Gm.cR y | .l _ _=>true
theorem tw:∀(t:Ty) (x:El t),(enc t x).all Cv.cR=true
 | .i _,_ | .bool,_ | .str,_ | .sl _,_=>rfl
 | .node,_=>rfl
 | .aq,_=>rfl
 | .cur,_=>rfl
def Cv.kind:Cv→Option Ty | .v _=>none | .l t _=>some t
def kinds (t:Ty):List (Option Ty):=(enc t (zero t)).map Cv.kind
theorem tz:∀(t:Ty) (x:El t),(enc t x).map Cv.kind=kinds t
 | .i _,_ | .bool,_ | .str,_ | .sl _,_=>rfl
 | .node,_=>rfl
 | .aq,_=>rfl
 | .cur,_=>rfl
theorem gK:∀t:Ty,0<aD t
 | .i _ | .bool | .str | .sl _=>by simp [aD]
 | .node=>by simp [aD]
 | .aq=>by simp [aD]
 | .cur=>by simp [aD]
theorem Ep:∀t:Ty,ik t=false→aD t=1
 | .i _,_ | .bool,_ | .str,_ | .sl _,_=>rfl
 | .node,h=>by simp [ik] at h
 | .aq,h=>by simp [ik] at h
 | .cur,h=>by simp [ik] at h
end Go.Gm
namespace Go.Gm
open Go
abbrev Path:=List (Nat×Nat)
inductive Sc where
 | v (x:Value)
 | nl
 | ro (t:Ty) (xs:List (El t))
 | h (id ver iv:Nat) (p:Path)
 | vw (id ver lo hi:Nat)
 | pt (b off:Nat)
 | pe (id ver iv:Nat) (p:Path) (i off:Nat)
 | rp (t:Ty) (x:El t) (off:Nat)
 | fH (fn:Nat) (nA:List Nat)
 | oT (fn:Nat) (nA:List (Σ t:Ty,El t))
 | rk (t:Ty) (xs:List (El t))
 | dead
inductive Cm where
 | one (c:Sc)
 | agg (cs:List Sc)
inductive Sv where
 | c (x:Cm)
 | xx (vs:List Cm)
inductive Pt where
 | cur (i j:Nat)
 | hole (p:List (Nat×Nat))
def tA:List (Nat×Nat)→List (Nat×Nat)→Bool
  | [],_=>true
  | _::_,[]=>false
  | (a,b)::p,(c,d)::q=>Nat.beq a c&&(Nat.beq b d&&tA p q)
def xy:List (Nat×Nat)→List (Nat×Nat)→Bool
  | [],[]=>true
  | (a,b)::p,(c,d)::q=>Nat.beq a c&&(Nat.beq b d&&xy p q)
  | _,_=>false
inductive Md where
 | deep | nq | Er
 /-- A list of one's own, of which something was taken away. -/
 | part (k:Pt)
def Md.cW:Md→Bool | .part _=>true | _=>false
def rY (a b i j:Nat):Bool:=Nat.blt a i||(Nat.beq a i&&Nat.ble b j)
def Pt.nodeAt:Pt→List (Nat×Nat)→Bool
 | _,[]=>true
 | .cur a b,(i,j)::_=>rY a b i j
 | .hole p,q=> !(tA p q)
def Md.nodeAt:Md→List (Nat×Nat)→Bool
 | _,[]=>true
 | .part k,q=>k.nodeAt q
 | _,_=>true
def Md.jG:Md→List (Nat×Nat)→Bool
 | .part (.cur a b),(i,j)::_=>rY a b i j
 | .part _,_=>false
 | _,_=>true
def Md.xA:Md→Bool | .nq=>true | .Er=>true | _=>false
def Md.j8:Md→Bool | .nq=>true | _=>false
def Md.norm:Md→Md | .part (.cur i (_+1))=> .part (.cur (i+1) 0) | m=>m
def Md.cr:Md→Bool | .Er=>true | _=>false
def Md.bK:Md→Bool | .deep=>true | _=>false
def Md.meet (m:Md) (deep:Bool):Md:=cond deep m (match m with | .deep=> .nq | m=>m)
structure cB where
 t:Ty
 md:Md
 ver:Nat
 log:List Nat
 xs:List (El t)
structure Sl where
 t:Ty
 xs:List (El t)
inductive Rt where
 | live (r:cB)
 | dj (r:cB)
 | gone (ver:Nat)
structure Bx where
 t:Ty
 cs:List Sc
structure St where
 aA:List (Nat×Sv)
 boxes:List (Nat×Bx)
 roots:List (Nat×Rt)
structure Dl where
 slot:Option (Nat×Sv):=none
 boxes:List (Nat×Bx):=[]
 roots:List (Nat×Rt):=[]
inductive Dt where
 | d (t:Ty) (x:El t)
 | fH (fn:Nat) (nA:List (Σ t:Ty,El t))
abbrev Kt (R:Type):=List Dt→Option R
abbrev Qt:=List Dt→Option (Bool×List Dt)
inductive Am where
 | ro | mut | CO | CA | bj | fn | PB | kp
structure Spec where
 bO:List Am
 res:List Bool
 own:Bool
 fn:{R:Type}→List Dt→(Kt R)→Option R
 /-- Which arguments go in cell by cell: so many cells; 0: whole. -/
 shape:List Nat:=[]
structure Env where
 code:Nat→Option Ty
 eq:Nat→Option (List Ty)
 wx:Nat→Nat→Option (Nat×Nat)
 spec:Nat→Option Spec
section assoc
variable {α : Type}
def ax:List (Nat×α)→Nat→Option α
  | [],_=>none
  | (k,v)::r,n=>cond (Nat.beq n k) (some v) (ax r n)
def aX:List (Nat×α)→Nat→α→List (Nat×α)
  | [],n,v=>[(n,v)]
  | (k,u)::r,n,v=>cond (Nat.beq n k) ((n,v)::r) (cond (Nat.blt n k) ((n,v)::(k,u)::r) ((k,u)::aX r n v))
def cg (l:List (Nat×α)):List (Nat×α)→List (Nat×α)
  | []=>l
  | (n,v)::r=>cg (aX l n v) r
end assoc
def St.apply (st:St) (d:Dl):St:=
  { aA:=match d.slot with | some (s,v)=>aX st.aA s v | none=>st.aA,boxes:=cg st.boxes d.boxes,roots:=cg st.roots d.roots }
def p8 (t:Ty):List Sc:=(enc t (zero t)).map fun | .v x=> .v x | .l _ _=> .nl
def j3:Value→Option Sc
 | .bool b=>some (.v (.bool b))
 | .int k n=>some (.v (.int k n))
 | .string s=>some (.v (.string s))
 | .nilFunc=>some (.v .nilFunc)
 | .nilIface=>some (.v .nilIface)
 | .pointer none=>some (.v (.pointer none))
 | .slice none 0 0=>some .nl
 | _=>none
def gW:List Value→Option (List Sc)
 | []=>some []
 | v::r=>(j3 v).bind fun c=>(gW r).bind fun cs=>some (c::cs)
def oz:Value→Option Sv
 | .agg cs=>(gW cs.toList).bind fun l=>some (.c (.agg l))
 | v=>(j3 v).bind fun c=>some (.c (.one c))
section ev
variable {R : Type}
def dk (st:St) (x:Operand) (k:Sv→Option R):Option R:=
  match x with
 | .tmp t=>(ax st.aA t).bind k
 | .const v=>(oz v).bind k
 | .func f=>k (.c (.one (.fH f [])))
 | .global _=>none
def Sc.soft:Sc→Sc | .rk t xs=> .ro t xs | c=>c
def fr (st:St) (x:Operand) (k:Sc→Option R):Option R:=
  dk st x fun | .c (.one c)=>k c.soft | _=>none
def jn (st:St) (x:Operand) (k:Value→Option R):Option R:=
  fr st x fun | .v u=>k u | _=>none
def getBool (st:St) (x:Operand) (k:Bool→Option R):Option R:=
  jn st x fun | .bool b=>k b | _=>none
def getInt (st:St) (x:Operand) (k:Int→Option R):Option R:=
  jn st x fun | .int .i64 n=>k n | _=>none
def jH (st:St) (id ver:Nat) (k:cB→Option R):Option R:=
  match ax st.roots id with
 | some (.live r)=>cond (Nat.beq r.ver ver) (k r) none
 | _=>none
def iu (r:cB) (iv:Nat) (p:Path):Bool:=(r.log.drop iv).all fun D=>Nat.ble p.length D
def j9 (st:St) (id ver iv:Nat) (p:Path) (k:cB→Option R):Option R:=
  jH st id ver fun r=>cond (iu r iv p) (k r) none
def ar {t:Ty} (xs:List (El t)) (i:Nat):El t:=xs.getD i (zero t)
def sub:(t:Ty)→List (El t)→Path→Option Sl
 | t,xs,[]=>some ⟨t,xs⟩
 | t,xs,(i,j)::p=>match (enc t (ar xs i))[j]? with
  | some (.l t' ys)=>sub t' ys p
  | _=>none
def dp:(t:Ty)→List (El t)→Path→Sl→Option (List (El t))
 | t,_,[],s=>dec (.sl t) [.l s.t s.xs]
 | t,xs,(i,j)::p,s=>match (enc t (ar xs i))[j]? with
  | some (.l t' ys)=>(dp t' ys p s).bind fun zs=>(dec t ((enc t (ar xs i)).set j (.l t' zs))).bind fun y=>some (xs.set i y)
  | _=>none
def oU (st:St) (c:Sc) (q:Option Ty) (k:Cv→Option R):Option R:=
  match c,q with
 | .v x,none=>k (.v x)
 | .nl,some t=>k (.l t [])
 | .ro t xs,some _=>k (.l t xs)
 | .rk t xs,some _=>k (.l t xs)
 | .h id ver iv p,some _=>j9 st id ver iv p fun r=>cond (r.md.jG p) ((sub r.t r.xs p).bind fun s=>k (.l s.t s.xs)) none
 | .vw id ver lo hi,some _=>jH st id ver fun r=>cond (r.md.jG []) (k (.l r.t ((r.xs.take hi).drop lo))) none
 | _,_=>none
def CP (st:St):List Sc→List (Option Ty)→(List Cv→Option R)→Option R
 | [],[],k=>k []
 | c::cs,q::qs,k=>oU st c q fun x=>CP st cs qs fun xs=>k (x::xs)
 | _,_,_=>none
def eV (t:Ty) (s:Sv):Option (List Sc):=
  match ik t,s with
 | true,.c (.agg cs)=>some cs
 | false,.c (.one c)=>some [c]
 | _,_=>none
def AA (t:Ty) (cs:List Sc):Option Cm:=
  match ik t,cs with
 | true,cs=>some (.agg cs)
 | false,[c]=>some (.one c)
 | _,_=>none
def ra (st:St) (t:Ty) (s:Sv) (k:El t→Option R):Option R:=
 (eV t s).bind fun cs=>CP st cs (kinds t) fun xs=>(dec t xs).bind k
def jO (st:St) (c:Sc) (q:Option Ty) (k:Cv→Bool→St→List (Nat×Rt)→Option R):Option R:=
  match c,q with
 | .v x,none=>k (.v x) true st []
 | .nl,some t=>k (.l t []) true st []
 | .ro t xs,some _=>k (.l t xs) false st []
 | .rk t xs,some _=>k (.l t xs) false st []
 | .h id ver _ [],some _=>jH st id ver fun r=>cond (r.md.jG [])
   (cond r.md.cr (k (.l r.t r.xs) false st [])
    (k (.l r.t r.xs) r.md.bK { st with roots:=aX st.roots id (.gone ver) } [(id,.gone ver)])) none
 | .vw id ver lo hi,some _=>jH st id ver fun r=>cond (r.md.jG [])
   (cond r.md.cr (k (.l r.t ((r.xs.take hi).drop lo)) false st [])
    (k (.l r.t ((r.xs.take hi).drop lo)) r.md.bK { st with roots:=aX st.roots id (.gone ver) } [(id,.gone ver)])) none
 | _,_=>none
def pE (st:St):List Sc→List (Option Ty)→(List Cv→Bool→St→List (Nat×Rt)→Option R)→Option R
 | [],[],k=>k [] true st []
 | c::cs,q::qs,k=>jO st c q fun x d st u=>pE st cs qs fun xs d' st u'=>k (x::xs) (d&&d') st (u++u')
 | _,_,_=>none
def xB (st:St) (t:Ty) (s:Sv) (k:El t→Bool→St→List (Nat×Rt)→Option R):Option R:=
 (eV t s).bind fun cs=>pE st cs (kinds t) fun xs d st u=>(dec t xs).bind fun x=>k x d st u
def Md.rZ:Md→Nat→Nat→Bool
 | .deep,_,_=>true
 | .part (.cur a b),i,j=>rY a b i j
 | _,_,_=>false
def St.taken (st:St) (id:Nat) (r:cB) (i j:Nat):St:={ st with roots:=aX st.roots id (.live ⟨r.t,.part (.cur i j),r.ver,r.log,r.xs⟩) }
def ll (st:St) (c:Sc) (q:Option Ty) (k:Cv→Bool→St→List (Nat×Rt)→Option R):Option R:=
  match c,q with
 | .h id ver iv [(i,j)],some _=>j9 st id ver iv [(i,j)] fun r=>cond (r.md.rZ i j)
   ((sub r.t r.xs [(i,j)]).bind fun s=>k (.l s.t s.xs) true (st.taken id r i (j+1)) [(id,.live ⟨r.t,.part (.cur i (j+1)),r.ver,r.log,r.xs⟩)]) none
 | c,q=>jO st c q k
def r3 (st:St):List Sc→List (Option Ty)→(List Cv→Bool→St→List (Nat×Rt)→Option R)→Option R
 | [],[],k=>k [] true st []
 | c::cs,q::qs,k=>ll st c q fun x d st u=>r3 st cs qs fun xs d' st u'=>k (x::xs) (d&&d') st (u++u')
 | _,_,_=>none
def re (st:St) (t:Ty) (s:Sv) (k:El t→Bool→St→List (Nat×Rt)→Option R):Option R:=
 (eV t s).bind fun cs=>r3 st cs (kinds t) fun xs d st u=>(dec t xs).bind fun x=>k x d st u
def mkRoot (st:St) (id:Nat) (t:Ty) (md:Md) (xs:List (El t)) (k:cB→Option R):Option R:=
  match ax st.roots id with
 | none=>k ⟨t,md,0,[],xs⟩
 | some (.gone v)=>k ⟨t,md,v+1,[],xs⟩
 | some _=>none
def jU (st:St) (id:Nat) (t:Ty) (md:Md) (xs:List (El t)) (k:cB→Option R):Option R:=
  match ax st.roots id with
 | some (.live r)=>cond r.md.cW (k ⟨t,md,r.ver+1,[],xs⟩) none
 | _=>mkRoot st id t md xs k
def tB (own:Bool) (st:St) (id:Nat):List Cv→(List Sc→Nat→St→List (Nat×Rt)→Option R)→Option R
 | [],k=>k [] id st []
 | .v x::cs,k=>tB own st id cs fun ss n st u=>k (.v x::ss) n st u
 | .l t xs::cs,k=>
  cond (Nat.beq (id%64) 63) none (cond own
   (mkRoot st id t .deep xs fun r=>tB own { st with roots:=aX st.roots id (.live r) } (id+1) cs fun ss n st u=>
    k (.h id r.ver 0 []::ss) n st ((id,.live r)::u))
   (tB own st (id+1) cs fun ss n st u=>k (.ro t xs::ss) n st u))
def shr:Ty→Bool | .cur=>true | _=>false
def Gw (cs:List Cv):List Sc:=cs.map fun | .v x=> .v x | .l t xs=> .rk t xs
def rdK:Sc→Option Ty→Option Cv
 | .v x,none=>some (.v x)
 | .nl,some t=>some (.l t [])
 | .rk t xs,some _=>some (.l t xs)
 | _,_=>none
def AB:List Sc→List (Option Ty)→Option (List Cv)
 | [],[]=>some []
 | c::cs,q::qs=>(rdK c q).bind fun x=>(AB cs qs).bind fun xs=>some (x::xs)
 | _,_=>none
def tC (own:Bool) (st:St) (id:Nat) (t:Ty) (cs:List Cv) (k:List Sc→Nat→St→List (Nat×Rt)→Option R):Option R:=
  cond (shr t) (k (Gw cs) id st []) (tB own st id cs k)
def PC (st:St) (t:Ty) (cs:List Sc) (k:List Cv→Bool→St→List (Nat×Rt)→Option R):Option R:=
  cond (shr t) ((AB cs (kinds t)).bind fun cv=>k cv true st []) (pE st cs (kinds t) k)
def dY {α:Type} (l:List α) (off:Nat) (ys:List α):List α:=l.take off++ys++l.drop (off+ys.length)
def eC (x y:BA):Bool:=x.toList==y.toList
def lq (x y:BA):Bool:=Op.bytesLess x.toList y.toList
def xC (op:BinOp) (tb:Bool) (x y:Value) (k:Value→Option R):Option R:=
  match x,y with
 | .int k1 a,.int k2 b=>
  match op with
  | .shl=>cond (decide (b<0)) none (k (.int k1 (k1.wrap (a*2^(min b.toNat k1.bits)))))
  | .shr=>cond (decide (b<0)) none (k (.int k1 (a.fdiv (2^(min b.toNat k1.bits)))))
  | op=>
   cond (decide (k1=k2))
    (match op with
    | .add=>k (.int k1 (k1.wrap (a+b)))
    | .sub=>k (.int k1 (k1.wrap (a-b)))
    | .mul=>k (.int k1 (k1.wrap (a*b)))
    | .quo=>cond (decide (b=0)) none (k (.int k1 (k1.wrap (a.tdiv b))))
    | .rem=>cond (decide (b=0)) none (k (.int k1 (a.tmod b)))
    | .and=>k (.int k1 (k1.wrap (BitVec.ofInt k1.bits a &&& BitVec.ofInt k1.bits b).toNat))
    | .or=>k (.int k1 (k1.wrap (BitVec.ofInt k1.bits a ||| BitVec.ofInt k1.bits b).toNat))
    | .xor=>k (.int k1 (k1.wrap (BitVec.ofInt k1.bits a ^^^ BitVec.ofInt k1.bits b).toNat))
    | .eql=>k (.bool (a==b))
    | .neq=>k (.bool (a !=b))
    | .lss=>k (.bool (decide (a<b)))
    | .leq=>k (.bool (decide (a≤b)))
    | .gtr=>k (.bool (decide (a>b)))
    | .geq=>k (.bool (decide (a≥b)))
    | _=>none) none
 | .string a,.string b=>
  match op with
  | .add=>cond (decide (a.size+b.size≤9223372036854775807)) (k (.string (a++b))) none
  | .eql=>k (.bool (eC a b))
  | .neq=>k (.bool (!eC a b))
  | .lss=>k (.bool (lq a b))
  | .leq=>k (.bool (lq a b||eC a b))
  | .gtr=>k (.bool (!(lq a b||eC a b)))
  | .geq=>k (.bool (!lq a b))
  | _=>none
 | .bool a,.bool b=>
  match op with
  | .eql=>cond tb (k (.bool (a==b))) none
  | .neq=>cond tb (k (.bool (!(a==b)))) none
  | _=>none
 | _,_=>none
def isB:Option Ty→Bool | some .bool=>true | _=>false
def jP:List Ty→List Sc→List Sc→Option Bool
 | [],[],[]=>some true
 | .i q::ts,.v (.int k a)::r,.v (.int k' b)::s=>cond (decide (k=q)&&decide (k'=q)) ((jP ts r s).bind fun e=>some ((a==b)&&e)) none
 | .str::ts,.v (.string a)::r,.v (.string b)::s=>(jP ts r s).bind fun e=>some ((a==b)&&e)
 | .bool::ts,.v (.bool a)::r,.v (.bool b)::s=>(jP ts r s).bind fun e=>some ((a==b)&&e)
 | _,_,_=>none
def bytesOf (xs:List Int):BA:=⟨(xs.map fun n=>UInt8.ofNat n.toNat).toArray⟩
def put (o:Oper) (s:Sv):Dl:={ slot:=o.dst.map fun d=>(d,s) }
def fI (o:Oper) (c:Sc):Dl:=put o (.c (.one c))
def loadAt (st:St) (a:Sc) (n:Nat) (k:List Sc→Option R):Option R:=
  match a with
 | .pt b off=>(ax st.boxes b).bind fun x=>cond (Nat.ble (off+n) x.cs.length) (k ((x.cs.drop off).take n)) none
 | .pe id ver iv p i off=>j9 st id ver iv p fun r=>cond (r.md.nodeAt p) ((sub r.t r.xs p).bind fun s=>cond (Nat.ble (off+n) (aD s.t))
   (k (((((enc s.t (ar s.xs i)).zipIdx).drop off).take n).map fun (c,j)=>
    match c with | .v x=> .v x | .l t ys=>cond r.md.xA (.ro t ys) (.h id ver r.log.length (p++[(i,j)])))) none) none
 | .rp t x off=>cond (Nat.ble (off+n) (aD t))
   (k ((((enc t x).drop off).take n).map fun | .v x=> .v x | .l t ys=> .ro t ys)) none
 | _=>none
def Sc.names:Sc→List Nat×List Nat
 | .h id .. | .vw id .. | .pe id .. =>([],[id])
 | .pt b _=>([b],[])
 | .fH _ bs=>(bs,[])
 | _=>([],[])
def p9 (st:St) (b:Nat):List Nat:=match ax st.boxes b with | some x=>(x.cs.map fun c=>c.names.2).flatten | none=>[]
def Sc.reach (st:St) (c:Sc):List Nat:=c.names.2++(c.names.1.map (p9 st)).flatten
def Cm.cells:Cm→List Sc | .one c=>[c] | .agg cs=>cs
def Sv.cells:Sv→List Sc | .c x=>x.cells | .xx vs=>(vs.map Cm.cells).flatten
def my (st:St):List Nat→(List (Σ t:Ty,El t)→Option R)→Option R
 | [],k=>k []
 | b::bs,k=>(ax st.boxes b).bind fun x=>CP st x.cs (kinds x.t) fun cv=>(dec x.t cv).bind fun y=>my st bs fun ys=>k (⟨x.t,y⟩::ys)
inductive Bk where
 | root (id:Nat) (r:cB) (p:Path)
 | box (b:Nat)
def fF (E:Env) (m:Am) (T:Nat) (s:Sv) (st:St) (k:Dt→List Bk→St→Dl→Option R):Option R:=
  match m with
 | .ro=>(E.code T).bind fun t=>ra st t s fun x=>k (.d t x) [] st {}
 | .CO=>(E.code T).bind fun t=>xB st t s fun x d st u=>cond d (k (.d t x) [] st { roots:=u }) none
 | .mut=>
  match s with
  | .c (.one (.h id ver iv p))=>j9 st id ver iv p fun r=>cond r.md.bK
    ((sub r.t r.xs p).bind fun s=>k (.d (.sl s.t) s.xs) [.root id r p] { st with roots:=aX st.roots id (.dj r) } {}) none
  | _=>none
 | .CA=>
  match s with
  | .c (.one (.pt b 0))=>(ax st.boxes b).bind fun x=>CP st x.cs (kinds x.t) fun cv=>(dec x.t cv).bind fun y=>k (.d x.t y) [] st {}
  | .c (.one (.rp t x 0))=>k (.d t x) [] st {}
  | _=>none
 | .bj=>
  match s with
  | .c (.one (.pt b 0))=>(ax st.boxes b).bind fun x=>PC st x.t x.cs fun cv d st u=>cond d
    ((dec x.t cv).bind fun y=>let z:Bx:=⟨x.t,x.cs.map fun _=> .dead⟩;k (.d x.t y) [.box b] { st with boxes:=aX st.boxes b z } { boxes:=[(b,z)],roots:=u }) none
  | _=>none
 | .fn=>
  match s with
  | .c (.one (.fH f bs))=>my st bs fun ys=>k (.fH f ys) [] st {}
  | .c (.one (.oT f ys))=>k (.fH f ys) [] st {}
  | _=>none
 | .PB=>
  match s with
  | .c (.one _)=>k (.d .bool false) [] st {}
  | _=>none
 | .kp=>(E.code T).bind fun t=>(eV t s).bind fun cs=>(AB cs (kinds t)).bind fun cv=>(dec t cv).bind fun x=>k (.d t x) [] st {}
def Am.reads:Am→Bool | .ro | .CA | .fn | .PB | .kp=>true | _=>false
def yM:List Nat→List (Nat×Sv)→Option (List (Nat×Sv))
  | [],l=>some l
  | 0::sh,a::l=>(yM sh l).bind fun r=>some (a::r)
  | (n+1)::sh,(_,.c (.agg cs))::l=>cond (Nat.beq cs.length (n+1)) ((yM sh l).bind fun r=>some (cs.map (fun c=>(0,.c (.one c)))++r)) none
  | _,_=>none
def dx (E:Env):List (Am×Nat×Sv)→St→(List Dt→List Bk→St→Dl→Option R)→Option R
  | [],st,k=>k [] [] st {}
  | (m,T,s)::r,st,k=>
    match m.reads with
    | true=>dx E r st fun xs bs st d=>fF E m T s st fun x _ _ _=>k (x::xs) bs st d
    | false=>fF E m T s st fun x b st d=>dx E r st fun xs bs st d'=>
      k (x::xs) (b++bs) st { boxes:=d.boxes++d'.boxes,roots:=d.roots++d'.roots }
def fJ (st:St):List Bk→List Dt→(St→Dl→Option R)→Option R
 | [],[],k=>k st {}
 | .root id r p::bs,.d (.sl t) ys::ds,k=>(dp r.t r.xs p ⟨t,ys⟩).bind fun zs=>
   let r':cB:=⟨r.t,r.md,r.ver,r.log++[p.length],zs⟩
   fJ { st with roots:=aX st.roots id (.live r') } bs ds fun st d=>k st { d with roots:=(id,.live r')::d.roots }
 | .box b::bs,.d t x::ds,k=>tC true st (64*b) t (enc t x) fun cs _ st u=>
   let z:Bx:=⟨t,cs⟩
   fJ { st with boxes:=aX st.boxes b z } bs ds fun st d=>k st { d with boxes:=(b,z)::d.boxes,roots:=u++d.roots }
 | _,_,_=>none
def eo (own:Bool) (st:St) (d id:Nat):List Bool→List Dt→(List Cm→St→Dl→Option R)→Option R
 | [],[],k=>k [] st {}
 | false::ps,.d t x::ds,k=>tB own st id (enc t x) fun cs n st u=>(AA t cs).bind fun c=>eo own st d n ps ds fun r st u'=>
   k (c::r) st { boxes:=u'.boxes,roots:=u++u'.roots }
 | true::ps,.d t x::ds,k=>match ax st.boxes d with
  | none=>tC own st id t (enc t x) fun cs n st u=>eo own { st with boxes:=aX st.boxes d ⟨t,cs⟩ } d n ps ds fun r st u'=>
    k (.one (.pt d 0)::r) st { boxes:=(d,⟨t,cs⟩)::u'.boxes,roots:=u++u'.roots }
  | some _=>none
 | _,_,_=>none
def freeze (st:St):List Nat→(St→List (Nat×Rt)→Option R)→Option R
 | [],k=>k st []
 | id::ids,k=>
  match ax st.roots id with
  | some (.live r)=>cond r.md.cW none <| let r':cB:={ r with md:= .Er };freeze { st with roots:=aX st.roots id (.live r') } ids fun st u=>k st ((id,.live r')::u)
  | _=>freeze st ids k
def ka (E:Env) (o:Oper) (fn:Nat) (args:List (Nat×Sv)) (st:St) (k:Dl→Option R):Option R:=
 (E.spec fn).bind fun sp=>(yM sp.shape args).bind fun args=>
    cond (Nat.beq sp.bO.length args.length&&(sp.own||args.all fun a=>a.2.cells.all fun c=>c.names.1.isEmpty))
 (dx E (sp.bO.zip args) st fun ds bs st d=>
      sp.fn ds fun outs=>
        fJ st bs (outs.drop sp.res.length) fun st d1=>
 (cond sp.own (fun (k:St→List (Nat×Rt)→Option R)=>k st [])
 (freeze st ((args.map fun a=>(a.2.cells.map fun c=>c.names.2).flatten).flatten))) fun st u0=>
          eo sp.own st (o.dst.getD 0) (64*o.dst.getD 0) sp.res (outs.take sp.res.length) fun rs _ u=>
            k { slot:=o.dst.map fun q=>(q,match rs with | [r]=> .c r | rs=> .xx rs),boxes:=d.boxes++(d1.boxes++u.boxes),roots:=d.roots++(d1.roots++(u0++u.roots)) }) none
def bT:Nat:=4294967296
def xD (st:St) (c:Sc) (q:Option Ty) (k:Cv→Bool→St→List (Nat×Rt)→Option R):Option R:=
  match c,q with
 | .vw id ver lo hi,some _=>jH st id ver fun r=>cond (r.md.rZ lo 0)
   (k (.l r.t ((r.xs.take hi).drop lo)) true (st.taken id r hi 0) [(id,.live ⟨r.t,.part (.cur hi 0),r.ver,r.log,r.xs⟩)])
   (jO st c q k)
 | c,q=>ll st c q k
def kJ (st:St) (e:Ty) (c:Sc) (k:List (El e)→Bool→St→List (Nat×Rt)→Option R):Option R:=
  match (kinds e).all (fun q=>q.isNone) with
 | true=>oU st c (some e) fun x=>(dec (.sl e) [x]).bind fun xs=>k xs true st []
 | false=>xD st c (some e) fun x d st u=>(dec (.sl e) [x]).bind fun xs=>k xs d st u
def lS (E:Env) (o:Oper) (T:Nat) (s x:Sc) (st:St) (k:Dl→Option R):Option R:=
  match E.code T with
  | some (.sl e)=>
    match s with
    | .nl=>kJ st e x fun ys d st u=>cond (Nat.ble ys.length bT)
        (jU st (64*o.dst.getD 0) e (Md.deep.meet d) ys fun r=>
          k { slot:=o.dst.map fun q=>(q,.c (.one (.h (64*o.dst.getD 0) r.ver 0 []))),roots:=u++[(64*o.dst.getD 0,.live r)] }) none
    | .h id ver _ []=>kJ st e x fun ys d st u=>jH st id ver fun r=>cond (r.md.cr||r.md.cW) none ((dec (.sl e) [.l r.t r.xs]).bind fun xs=>
        cond (Nat.ble (xs.length+ys.length) bT)
          (let r':cB:=⟨e,r.md.meet d,ver+1,[],xs++ys⟩
           k { slot:=o.dst.map fun q=>(q,.c (.one (.h id (ver+1) 0 []))),roots:=u++[(id,.live r')] }) none)
    | .h id ver iv p=>kJ st e x fun ys d st u=>j9 st id ver iv p fun r=>cond r.md.bK ((sub r.t r.xs p).bind fun s=>(dec (.sl e) [.l s.t s.xs]).bind fun xs=>
        cond (Nat.ble (xs.length+ys.length) bT) (mkRoot st (64*o.dst.getD 0) e .deep xs fun r2=>
          k { slot:=o.dst.map fun q=>(q,.c (.one (.h (64*o.dst.getD 0) (r2.ver+1) 0 []))),roots:=u++[(id,.live ⟨r.t,.part (.hole p),r.ver,r.log,r.xs⟩),(64*o.dst.getD 0,.live ⟨e,Md.deep.meet d,r2.ver+1,[],xs++ys⟩)] }) none) none
    | _=>none
  | _=>none
def Md.UG:Md→Option (List (Nat×Nat)) | .part (.hole p)=>some p | _=>none
def iw:Option Ty→Option Ty | some (.sl e)=>some e | _=>none
def isStr:Option Ty→Bool | some .str=>true | _=>false
def yN (mx:Bool):Value→Value→Option Value
 | .int k a,.int _ b=>some (.int k (cond mx (if b>a then b else a) (if b<a then b else a)))
 | _,_=>none
def AE {α:Type} (z:α) (xs:List α) (lo hi:Nat):List α:=xs.take lo++List.replicate (hi-lo) z++xs.drop hi
def eD (E:Env) (o:Oper) (b:Builtin) (c:Call) (st:St) (k:Dl→Option R):Option R:=
  match b with
 | .len=>match c.args.toList,c.argTypes.toList with
  | [x],[T]=>fr st x fun
   | .v (.string s)=>cond (isStr (E.code T)) (k (fI o (.v (.int .i64 s.size)))) none
   | .nl=>(iw (E.code T)).bind fun _=>k (fI o (.v (.int .i64 0)))
   | .ro _ xs=>(iw (E.code T)).bind fun _=>k (fI o (.v (.int .i64 xs.length)))
   | .h id ver iv p=>(iw (E.code T)).bind fun _=>j9 st id ver iv p fun r=>cond (r.md.nodeAt p) ((sub r.t r.xs p).bind fun s=>k (fI o (.v (.int .i64 s.xs.length)))) none
   | .vw id ver lo hi=>(iw (E.code T)).bind fun _=>jH st id ver fun r=>k (fI o (.v (.int .i64 ((r.xs.take hi).drop lo).length)))
   | _=>none
  | _,_=>none
 | .append=>match c.args.toList,c.argTypes.toList with
  | [s,x],[T,T']=>(iw (E.code T')).bind fun _=>fr st s fun s=>fr st x fun x=>lS E o T s x st k
  | _,_=>none
 | .min=>match c.args.toList with
  | [x,y]=>jn st x fun x=>jn st y fun y=>(yN false x y).bind fun z=>k (fI o (.v z))
  | _=>none
 | .max=>match c.args.toList with
  | [x,y]=>jn st x fun x=>jn st y fun y=>(yN true x y).bind fun z=>k (fI o (.v z))
  | _=>none
 | .clear=>match c.args.toList,c.argTypes.toList with
  | [x],[T]=>cond o.dst.isNone ((iw (E.code T)).bind fun e=>fr st x fun
   | .vw id ver lo hi=>jH st id ver fun r=>cond (r.md.bK&&(Nat.beq (aD e) (aD r.t)&&(enc e (zero e)).all fun c=>c.kind.isNone))
     ((dec r.t (enc e (zero e))).bind fun z=>k { roots:=[(id,.live ⟨r.t,r.md,r.ver,r.log,AE z r.xs lo hi⟩)] }) none
   | _=>none) none
  | _,_=>none
 | _=>none
def ji (E:Env) (T:Nat) (st:St):List (Nat×Operand)→List Sc→(List Sc→Option R)→Option R
  | [],row,k=>k row
  | (i,x)::r,row,k=>(E.wx T i).bind fun (off,ft)=>(E.code ft).bind fun t=>dk st x fun s=>(eV t s).bind fun cs=>
      cond (Nat.beq cs.length (aD t)&&Nat.ble (off+cs.length) row.length) (ji E T st r (dY row off cs) k) none
def jj (e:Ty) (st:St):List (Nat×Operand)→List (El e)→(List (El e)→Bool→St→List (Nat×Rt)→Option R)→Option R
  | [],xs,k=>k xs true st []
  | (i,x)::r,xs,k=>dk st x fun s=>re st e s fun y d st u=>cond (Nat.blt i xs.length)
      (jj e st r (xs.set i y) fun xs d' st u'=>k xs (d&&d') st (u++u')) none
def lT (st:St):List Operand→(List Sv→Option R)→Option R
 | [],k=>k []
 | x::r,k=>dk st x fun s=>lT st r fun ss=>k (s::ss)
def AF:List Sv→Option (List Nat)
 | []=>some []
 | .c (.one (.pt b 0))::r=>(AF r).bind fun bs=>some (b::bs)
 | _=>none
def fu (st:St) (x:Option Operand) (d:Int) (k:Int→Option R):Option R:=
  match x with | none=>k d | some x=>getInt st x k
def eE (E:Env) (o:Oper) (st:St) (k:Dl→Option R):Option R:=
  match o.op with
  | .move x | .assign x=>dk st x fun s=>k (put o s)
  | .pick c a b=>getBool st c fun t=>cond t (dk st a fun s=>k (put o s)) (dk st b fun s=>k (put o s))
  | .alloc T=>(E.code T).bind fun t=>o.dst.bind fun d=>match ax st.boxes d with
      | none=>k { slot:=some (d,.c (.one (.pt d 0))),boxes:=[(d,⟨t,p8 t⟩)] }
      | some _=>none
  | .box T x=>(E.code T).bind fun t=>o.dst.bind fun d=>match ax st.boxes d with
      | none=>dk st x fun s=>(eV t s).bind fun cs=>cond (Nat.beq cs.length (aD t))
          (k { slot:=some (d,.c (.one (.pt d 0))),boxes:=[(d,⟨t,cs⟩)] }) none
      | some _=>none
  | .build T ps=>(E.code T).bind fun t=>cond (ik t) (ji E T st ps.toList (p8 t) fun row=>k (put o (.c (.agg row)))) none
  | .buildSlice T n ps=>match E.code T with
      | some (.sl e)=>cond (Nat.ble (n*aD e) 16777216) (jj e st ps.toList (List.replicate n (zero e)) fun xs d st u=>
          jU st (64*o.dst.getD 0) e (Md.deep.meet d) xs fun r=>
            k { slot:=o.dst.map fun q=>(q,.c (.one (.h (64*o.dst.getD 0) r.ver 0 []))),roots:=u++[(64*o.dst.getD 0,.live r)] }) none
      | _=>none
  | .load T a=>(E.code T).bind fun t=>fr st a fun a=>loadAt st a (aD t) fun cs=>(AA t cs).bind fun c=>k (put o (.c c))
  | .store T a x=>cond (o.dst.isNone) ((E.code T).bind fun t=>fr st a fun a=>dk st x fun s=>(eV t s).bind fun cs=>cond (Nat.beq cs.length (aD t))
      (match a with
       | .pt b off=>(ax st.boxes b).bind fun y=>cond (Nat.ble (off+cs.length) y.cs.length) (k { boxes:=[(b,⟨y.t,dY y.cs off cs⟩)] }) none
       | .pe id ver iv p i off=>j9 st id ver iv p fun r=>match r.md.UG with
        | some p0=>cond (xy p0 (p++[(i,off)])) (match cs with
          | [c]=>(sub r.t r.xs p0).bind fun s0=>jO st c (some s0.t) fun cv d st u=>cond d (jH st id ver fun r=>(cv.Iq s0.t).bind fun ys=>(dp r.t r.xs p0 ⟨s0.t,ys⟩).bind fun zs=>
              k { roots:=u++[(id,.live ⟨r.t,.deep,r.ver,r.log++[p.length],zs⟩)] }) none
          | _=>none) none
        | none=>(sub r.t r.xs p).bind fun s=>
          cond ((r.md.bK||(r.md.j8&&p.isEmpty))&&Nat.ble (off+cs.length) (aD s.t))
          (pE st cs (((kinds s.t).drop off).take cs.length) fun cv d st u=>jH st id ver fun r=>
            cond (d||p.isEmpty) ((dec s.t (dY (enc s.t (ar s.xs i)) off cv)).bind fun y=>(dp r.t r.xs p ⟨s.t,s.xs.set i y⟩).bind fun zs=>
              k { roots:=u++[(id,.live ⟨r.t,cond (cv.all fun c=>c.kind.isNone) r.md (r.md.meet d),r.ver,cond (cv.all fun c=>c.kind.isNone) r.log (r.log++[p.length]),zs⟩)] }) none) none
       | _=>none) none) none
  | .nilCheck x=>fr st x fun
      | .pt b off=>k (fI o (.pt b off))
      | .pe id ver iv p i off=>j9 st id ver iv p fun _=>k (fI o (.pe id ver iv p i off))
      | .rp t x off=>k (fI o (.rp t x off))
      | .fH f bs=>k (fI o (.fH f bs))
      | .oT f ys=>k (fI o (.oT f ys))
      | _=>none
  | .binOp op T x y _=>dk st x fun x=>dk st y fun y=>match x,y with
      | .c (.one (.v x)),.c (.one (.v y))=>xC op (isB (E.code T)) x y fun z=>k (fI o (.v z))
      | .c (.agg xs),.c (.agg ys)=>(E.eq T).bind fun ts=>match op with
          | .eql=>(jP ts xs ys).bind fun e=>k (fI o (.v (.bool e)))
          | .neq=>(jP ts xs ys).bind fun e=>k (fI o (.v (.bool (!e))))
          | _=>none
      | .c (.one (.ro _ xs)),.c (.one .nl)=>(iw (E.code T)).bind fun _=>cond xs.isEmpty none (match op with
          | .eql=>k (fI o (.v (.bool false)))
          | .neq=>k (fI o (.v (.bool true)))
          | _=>none)
      | _,_=>none
  | .unOp op _ x=>jn st x fun x=>match op,x with
      | .not,.bool b=>k (fI o (.v (.bool (!b))))
      | .neg,.int kd n=>k (fI o (.v (.int kd (kd.wrap (0-n)))))
      | _,_=>none
  | .convert S T x=>match E.code S,E.code T with
      | some (.i _),some (.i kd)=>jn st x fun | .int _ n=>k (fI o (.v (.int kd (kd.wrap n)))) | _=>none
      | some (.i _),some .str=>jn st x fun | .int _ n=>k (fI o (.v (.string (Utf8.encode n)))) | _=>none
      | some .str,some .str=>jn st x fun | .string s=>k (fI o (.v (.string s))) | _=>none
      | some (.sl (.i .u8)),some .str=>fr st x fun c=>oU st c (some (.i .u8)) fun cv=>(cv.Iq (.i .u8)).bind fun xs=>k (fI o (.v (.string (bytesOf xs))))
      | _,_=>none
  | .makeFunc fn first nA=>match fn,first.toList with
      | .func f,[]=>lT st nA.toList fun ss=>(AF ss).bind fun bs=>k (fI o (.fH f bs))
      | _,_=>none
  | .makeSlice T n m=>match E.code T with
      | some (.sl e)=>getInt st n fun n=>getInt st m fun m=>cond (decide (n=m)&&(decide (0≤n)&&decide (n≤(bT:Int))))
          (jU st (64*o.dst.getD 0) e .deep (List.replicate n.toNat (zero e)) fun r=>
            k { slot:=o.dst.map fun q=>(q,.c (.one (.h (64*o.dst.getD 0) r.ver 0 []))),roots:=[(64*o.dst.getD 0,.live r)] }) none
      | _=>none
  | .slice T x lo hi none=>fr st x fun
      | .v (.string s)=>cond (isStr (E.code T)) (fu st lo 0 fun l=>fu st hi s.size fun h=>
          cond (decide (0≤l)&&(decide (l≤h)&&decide (h≤(s.size:Int)))) (k (fI o (.v (.string (s.extract l.toNat h.toNat))))) none) none
      | .ro t xs=>(iw (E.code T)).bind fun e=>cond (Nat.beq (aD e) (aD t)) (fu st lo 0 fun l=>fu st hi xs.length fun h=>
          cond (decide (0≤l)&&(decide (l≤h)&&decide (h≤(xs.length:Int)))) (k (fI o (.ro t ((xs.take h.toNat).drop l.toNat)))) none) none
      | .h id ver _ []=>(iw (E.code T)).bind fun e=>jH st id ver fun r=>cond (Nat.beq (aD e) (aD r.t)) (fu st lo 0 fun l=>fu st hi r.xs.length fun h=>
          cond (decide (0≤l)&&(decide (l≤h)&&decide (h≤(r.xs.length:Int)))) (k (fI o (.vw id ver l.toNat h.toNat))) none) none
      | _=>none
  | .fieldAddr T x f=>(E.wx T f).bind fun (off,_)=>fr st x fun
      | .pt b a=>k (fI o (.pt b (a+off)))
      | .pe id ver iv p i a=>j9 st id ver iv p fun _=>k (fI o (.pe id ver iv p i (a+off)))
      | .rp t y a=>k (fI o (.rp t y (a+off)))
      | _=>none
  | .field T x f=>(E.wx T f).bind fun (off,ft)=>(E.code ft).bind fun t=>dk st x fun
      | .c (.agg cs)=>cond (Nat.ble (off+aD t) cs.length) ((AA t ((cs.drop off).take (aD t))).bind fun c=>k (put o (.c c))) none
      | _=>none
  | .indexAddr T x i=>fr st x fun c=>getInt st i fun i=>(iw (E.code T)).bind fun e=>match c with
      | .ro t xs=>cond (Nat.beq (aD e) (aD t)) (cond (decide (0≤i)&&decide (i<(xs.length:Int))) (k (fI o (.rp t (ar xs i.toNat) 0))) none) none
      | .h id ver iv p=>j9 st id ver iv p fun r=>cond (r.md.nodeAt p) ((sub r.t r.xs p).bind fun s=>cond (Nat.beq (aD e) (aD s.t))
          (cond (decide (0≤i)&&decide (i<(s.xs.length:Int))) (k (fI o (.pe id ver r.log.length p i.toNat 0))) none) none) none
      | .vw id ver lo hi=>jH st id ver fun r=>cond (Nat.beq (aD e) (aD r.t))
          (cond (decide (0≤i)&&decide (i<(((r.xs.take hi).drop lo).length:Int))) (k (fI o (.pe id ver r.log.length [] (lo+i.toNat) 0))) none) none
      | _=>none
  | .index T x i=>jn st x fun x=>getInt st i fun i=>match E.code T,x with
      | some .str,.string s=>cond (decide (0≤i)&&decide (i<(s.size:Int))) (k (fI o (.v (.int .u8 (s.data.getD i.toNat 0).toNat)))) none
      | _,_=>none
  | .extract x i=>dk st x fun | .xx vs=>(vs[i]?).bind fun c=>k (put o (.c c)) | _=>none
  | .call c=>match c.callee with
      | .builtin b=>eD E o b c st k
      | .value f=>fr st f fun
          | .fH fn bs=>lT st c.args.toList fun ss=>cond (Nat.beq c.argTypes.toList.length ss.length) (ka E o fn (c.argTypes.toList.zip ss++bs.map fun b=>(0,.c (.one (.pt b 0)))) st k) none
          | .oT fn ys=>lT st c.args.toList fun ss=>cond (Nat.beq c.argTypes.toList.length ss.length) (ka E o fn (c.argTypes.toList.zip ss++ys.map fun y=>(0,.c (.one (.rp y.1 y.2 0)))) st k) none
          | _=>none
      | .invoke _ _=>none
  | _=>none
end ev
end Go.Gm
namespace Go.Gm
open Go
def aR:(t:Ty)→List (El t)→Path→Option Sl
 | t,xs,[]=>some ⟨t,xs⟩
 | t,xs,(i,j)::p=>match xs[i]? with
  | some x=>match (enc t x)[j]? with
   | some (.l t' ys)=>aR t' ys p
   | _=>none
  | none=>none
theorem bz {t:Ty} {xs:List (El t)} {i:Nat} {x:El t} (h:xs[i]? =some x):ar xs i=x:=by
 simp [ar,List.getD,h]
theorem c9 {t:Ty} {xs:List (El t)} {i:Nat} (h:i<xs.length):xs[i]? =some (ar xs i):=by
 simp [ar,List.getD,List.getElem?_eq_getElem h]
theorem cX:∀ {p:Path} {t:Ty} {xs:List (El t)} {s:Sl},aR t xs p=some s→sub t xs p=some s
  | [],t,xs,s,h=>by simpa [aR,sub] using h
  | (i,j)::p,t,xs,s,h=>by
    simp only [aR] at h
    split at h
    · rename_i x hx
      simp only [sub,bz hx]
      split at h
      · rename_i t' ys hc;(try simp only [hc]);exact cX h
      · cases h
    · cases h
theorem ch:∀ {p:Path} {t:Ty} {xs:List (El t)} {s:Sl} (q:Path),aR t xs p=some s→aR t xs (p++q)=aR s.t s.xs q
  | [],t,xs,s,q,h=>by simp only [aR,Option.some.injEq] at h;subst h;rfl
  | (i,j)::p,t,xs,s,q,h=>by
    simp only [aR,List.cons_append] at h ⊢
    cases hx:xs[i]? with
    | none=>simp [hx] at h
    | some x=>
      simp only [hx] at h ⊢
      cases hc:(enc t x)[j]? with
      | none=>simp [hc] at h
      | some c=>
        simp only [hc] at h ⊢
        cases c with
        | v y=>simp at h
        | l t' ys=>exact ch q h
def q6:Value→Option Nat
 | .slice (some a) _ _=>some a.block
 | _=>none
def eF (c:Cv) (u k:Value):Prop:=match c with | .v x=>u=x | .l _ _=>u=k
def RowsIn (t:Ty) (ys:List (El t)) (cs:Array Value) (o:Nat) (eW:Nat→Nat→Value):Prop:=
  ∀i y j c,ys[i]? =some y→(enc t y)[j]? =some c→∃u,cs[o+i*aD t+j]? =some u∧eF c u (eW i j)
def ep (w:World) (P:Nat→Prop) (t:Ty) (ys:List (El t)) (v:Value) (eW:Nat→Nat→Value):Prop:=
  ∃a cap,v = .slice a ys.length cap∧ys.length≤cap∧(ys≠[]→∃b o cs el fz,a=some ⟨b,o,none⟩∧P b∧w.heap[b]? =some (.cells cs el fz)∧RowsIn t ys cs o eW)
def bB (w:World) (F:Nat→Prop) (t:Ty) (ys:List (El t)) (v:Value) (eW:Nat→Nat→Value):Prop:=
 (ys=[]∧v = .slice none 0 0)∨∃b o cap cs el,v = .slice (some ⟨b,o,none⟩) ys.length cap∧F b∧w.heap[b]? =some (.cells cs el (0,0))∧
    ys.length≤cap∧o+cap*aD t≤cs.size∧RowsIn t ys cs o eW
def dR (w:World) (P:Nat→Prop) (t:Ty) (xs:List (El t)) (av:Path→Value):Prop:=
  ∀p s,aR t xs p=some s→ep w P s.t s.xs (av p) fun i j=>av (p++[(i,j)])
def bo (w:World) (F:Nat→Prop) (t:Ty) (xs:List (El t)) (av:Path→Value):Prop:=
 (∀ p s,aR t xs p=some s→bB w F s.t s.xs (av p) fun i j=>av (p++[(i,j)]))∧
  ∀p q s s' b,aR t xs p=some s→aR t xs q=some s'→q6 (av p)=some b→q6 (av q)=some b→p=q
def mz (w:World) (F RO:Nat→Prop) (t:Ty) (xs:List (El t)) (av:Path→Value):Prop:=
 (bB w F t xs (av []) fun i j=>av [(i,j)])∧∀p s,p≠[]→aR t xs p=some s→ep w RO s.t s.xs (av p) fun i j=>av (p++[(i,j)])
def fK (w:World) (P:Nat→Prop) (t:Ty) (xs:List (El t)) (v:Value):Prop:=∃av:Path→Value,av []=v∧dR w P t xs av
def pF (w:World) (P:Nat→Prop) (c:Cv) (u:Value):Prop:=match c with | .v x=>u=x | .l t xs=>fK w P t xs u
def kb (w:World) (F:Nat→Prop) (t:Ty) (xs:List (El t)) (v:Value):Prop:=∃av:Path→Value,av []=v∧bo w F t xs av
theorem bB.rd {w:World} {F:Nat→Prop} {t:Ty} {ys:List (El t)} {v:Value} {eW:Nat→Nat→Value} (h:bB w F t ys v eW):ep w F t ys v eW:=by
 rcases h with ⟨rfl,rfl⟩ | ⟨b,o,cap,cs,el,rfl,hF,hb,hc,hs,hr⟩
 ·exact ⟨none,0,rfl,Nat.le_refl _,fun h=>absurd rfl h⟩
 ·exact ⟨_,cap,rfl,hc,fun _=>⟨b,o,cs,el,_,rfl,hF,hb,hr⟩⟩
theorem ep.mono {w:World} {P Q:Nat→Prop} {t:Ty} {ys:List (El t)} {v:Value} {eW:Nat→Nat→Value} (xE:∀k,P k→Q k) (h:ep w P t ys v eW):ep w Q t ys v eW:=by
 obtain ⟨a,cap,e,hle,h⟩:=h
 exact ⟨a,cap,e,hle,fun hn=>let ⟨b,o,cs,el,fz,h1,h2,h3,h4⟩:=h hn;⟨b,o,cs,el,fz,h1,xE _ h2,h3,h4⟩⟩
theorem bB.mono {w:World} {P Q:Nat→Prop} {t:Ty} {ys:List (El t)} {v:Value} {eW:Nat→Nat→Value} (xE:∀k,P k→Q k) (h:bB w P t ys v eW):bB w Q t ys v eW:=by
 rcases h with h | ⟨b,o,cap,cs,el,h1,h2,h3⟩
 ·exact .inl h
 ·exact .inr ⟨b,o,cap,cs,el,h1,xE _ h2,h3⟩
theorem dR.mono {w:World} {P Q:Nat→Prop} {t:Ty} {xs:List (El t)} {av:Path→Value} (xE:∀k,P k→Q k) (h:dR w P t xs av):dR w Q t xs av:=
  fun p s hs=>(h p s hs).mono xE
theorem bo.mono {w:World} {P Q:Nat→Prop} {t:Ty} {xs:List (El t)} {av:Path→Value} (xE:∀k,P k→Q k) (h:bo w P t xs av):bo w Q t xs av:=
 ⟨fun p s hs=>(h.1 p s hs).mono xE,h.2⟩
theorem bo.rd {w:World} {F:Nat→Prop} {t:Ty} {xs:List (El t)} {av:Path→Value} (h:bo w F t xs av):dR w F t xs av:=
  fun p s hs=>(h.1 p s hs).rd
theorem mz.rd {w:World} {F RO:Nat→Prop} {t:Ty} {xs:List (El t)} {av:Path→Value} (h:mz w F RO t xs av):dR w (fun k=>F k∨RO k) t xs av:=by
 intro p s hs
 by_cases hp:p=[]
 ·subst hp;simp only [aR,Option.some.injEq] at hs;subst hs;exact h.1.rd.mono fun k=> .inl
 ·exact (h.2 p s hp hs).mono fun k=> .inr
theorem dR.at {w:World} {P:Nat→Prop} {t:Ty} {xs:List (El t)} {av:Path→Value} (h:dR w P t xs av) {p:Path} {s:Sl} (hs:aR t xs p=some s):
    dR w P s.t s.xs fun q=>av (p++q):=by
 intro q s' fv
 have:=h (p++q) s' (by rw [ch q hs];exact fv)
 simpa [List.append_assoc] using this
theorem fK.mono {w:World} {P Q:Nat→Prop} {t:Ty} {xs:List (El t)} {v:Value} (xE:∀k,P k→Q k) (h:fK w P t xs v):fK w Q t xs v:=
  let ⟨av,h0,h1⟩:=h;⟨av,h0,h1.mono xE⟩
theorem pF.mono {w:World} {P Q:Nat→Prop} {c:Cv} {u:Value} (xE:∀k,P k→Q k) (h:pF w P c u):pF w Q c u:=by
 cases c with
 | v x=>exact h
 | l t xs=>exact fK.mono xE h
def bH (X:Nat→Prop) (w w':World):Prop:=w.heap.size≤w'.heap.size∧∀b,b<w.heap.size→ ¬X b→w'.heap[b]? =w.heap[b]?
theorem bH.get {X:Nat→Prop} {w w':World} (h:bH X w w') {b:Nat} {o:Obj} (hb:w.heap[b]? =some o) (hx : ¬X b):w'.heap[b]? =some o:=by
 have ct:b<w.heap.size:=by
  rcases Nat.lt_or_ge b w.heap.size with h' | h'
  ·exact h'
  ·simp [Array.getElem?_eq_none h'] at hb
 rw [h.2 b ct hx];exact hb
theorem bH.refl (w:World):bH (fun _=>False) w w:=⟨Nat.le_refl _,fun _ _ _=>rfl⟩
theorem bH.trans {X Y Z:Nat→Prop} {a b c:World} (h:bH X a b) (k:bH Y b c) (hX:∀n,X n→Z n) (hY:∀n,n<a.heap.size→Y n→Z n):bH Z a c:=
 ⟨Nat.le_trans h.1 k.1,fun n hn hz=>(k.2 n (Nat.lt_of_lt_of_le hn h.1) fun hy=>hz (hY n hn hy)).trans (h.2 n hn fun hx=>hz (hX n hx))⟩
theorem ep.same {w w':World} {X P:Nat→Prop} (hs:bH X w w') (hd:∀k,P k→ ¬X k) {t:Ty} {ys:List (El t)} {v:Value} {eW:Nat→Nat→Value}
 (h:ep w P t ys v eW):ep w' P t ys v eW:=by
 obtain ⟨a,cap,e,hle,h⟩:=h
 exact ⟨a,cap,e,hle,fun hn=>let ⟨b,o,cs,el,fz,h1,h2,h3,h4⟩:=h hn;⟨b,o,cs,el,fz,h1,h2,hs.get h3 (hd _ h2),h4⟩⟩
theorem bB.same {w w':World} {X P:Nat→Prop} (hs:bH X w w') (hd:∀k,P k→ ¬X k) {t:Ty} {ys:List (El t)} {v:Value} {eW:Nat→Nat→Value}
 (h:bB w P t ys v eW):bB w' P t ys v eW:=by
 rcases h with h | ⟨b,o,cap,cs,el,h1,h2,h3,h4⟩
 ·exact .inl h
 ·exact .inr ⟨b,o,cap,cs,el,h1,h2,hs.get h3 (hd _ h2),h4⟩
theorem dR.same {w w':World} {X P:Nat→Prop} (hs:bH X w w') (hd:∀k,P k→ ¬X k) {t:Ty} {xs:List (El t)} {av:Path→Value} (h:dR w P t xs av):dR w' P t xs av:=
  fun p s hp=>(h p s hp).same hs hd
theorem bo.same {w w':World} {X P:Nat→Prop} (hs:bH X w w') (hd:∀k,P k→ ¬X k) {t:Ty} {xs:List (El t)} {av:Path→Value} (h:bo w P t xs av):bo w' P t xs av:=
 ⟨fun p s hp=>(h.1 p s hp).same hs hd,h.2⟩
theorem mz.same {w w':World} {X F RO:Nat→Prop} (hs:bH X w w') (hd:∀k,F k→ ¬X k) (hr:∀k,RO k→ ¬X k) {t:Ty} {xs:List (El t)} {av:Path→Value} (h:mz w F RO t xs av):mz w' F RO t xs av:=
 ⟨h.1.same hs hd,fun p s hp fv=>(h.2 p s hp fv).same hs hr⟩
theorem fK.same {w w':World} {X P:Nat→Prop} (hs:bH X w w') (hd:∀k,P k→ ¬X k) {t:Ty} {xs:List (El t)} {v:Value} (h:fK w P t xs v):fK w' P t xs v:=
  let ⟨av,h0,h1⟩:=h;⟨av,h0,h1.same hs hd⟩
theorem pF.same {w w':World} {X P:Nat→Prop} (hs:bH X w w') (hd:∀k,P k→ ¬X k) {c:Cv} {u:Value} (h:pF w P c u):pF w' P c u:=by
 cases c with
 | v x=>exact h
 | l t xs=>exact fK.same hs hd h
def tc:Cv→Cv→Prop
 | .v x,.v y=>x=y
 | .l t _,.l t' _=>t=t'
 | _,_=>False
theorem tc.refl (c:Cv):tc c c:=by cases c<;>rfl
def jV (s s':Sl):Prop:=s'.t=s.t∧s'.xs.length=s.xs.length∧
  ∀(i:Nat) (y':El s'.t) (j:Nat) (c':Cv),s'.xs[i]? =some y'→(enc s'.t y')[j]? =some c'→∃(y:El s.t) (c:Cv),s.xs[i]? =some y∧(enc s.t y)[j]? =some c∧tc c c'
theorem jV.refl (s:Sl):jV s s:=⟨rfl,rfl,fun _ y' _ c' h h'=>⟨y',c',h,h',.refl _⟩⟩
theorem jV.rows {s s':Sl} (h:jV s s') {cs:Array Value} {o:Nat} {eW:Nat→Nat→Value} (hr:RowsIn s.t s.xs cs o eW):RowsIn s'.t s'.xs cs o eW:=by
 obtain ⟨ht,_,h⟩:=h
 intro i y' j c' hy hc
 obtain ⟨y,c,h1,h2,h3⟩:=h i y' j c' hy hc
 obtain ⟨u,hu,kE⟩:=hr i y j c h1 h2
 refine ⟨u,by rw [ht];exact hu,?_⟩
 cases c<;>cases c'<;>simp_all [tc,eF]
theorem jV.own {w:World} {F:Nat→Prop} {s s':Sl} (h:jV s s') {v:Value} {eW:Nat→Nat→Value} (ho:bB w F s.t s.xs v eW):bB w F s'.t s'.xs v eW:=by
 have hl:=h.2.1
 rcases ho with ⟨h1,h2⟩ | ⟨b,o,cap,cs,el,h1,h2,h3,h4,h5,h6⟩
 ·exact .inl ⟨by rw [h1] at hl;exact List.length_eq_zero_iff.1 hl,h2⟩
 ·exact .inr ⟨b,o,cap,cs,el,by rw [hl];exact h1,h2,h3,by rw [hl];exact h4,by rw [h.1];exact h5,h.rows h6⟩
theorem jV.rd {w:World} {F:Nat→Prop} {s s':Sl} (h:jV s s') {v:Value} {eW:Nat→Nat→Value} (ho:ep w F s.t s.xs v eW):ep w F s'.t s'.xs v eW:=by
 have hl:=h.2.1
 obtain ⟨a,cap,e,hle,hh⟩:=ho
 refine ⟨a,cap,by rw [hl];exact e,by rw [hl];exact hle,fun hn=> ?_⟩
 obtain ⟨b,o,cs,el,fz,h1,h2,h3,h4⟩:=hh (fun h0=>hn (by rw [h0] at hl;exact List.length_eq_zero_iff.1 hl))
 exact ⟨b,o,cs,el,fz,h1,h2,h3,h.rows h4⟩
theorem kc:∀ {p:Path} {t:Ty} {xs zs:List (El t)} {s s':Sl},aR t xs p=some s→dp t xs p s'=some zs→
    ∀q CB,aR t zs q=some CB→(∃ q',q=p++q'∧aR s'.t s'.xs q'=some CB)∨(¬ p <+: q∧∃s2,aR t xs q=some s2∧jV s2 CB)
  | [],t,xs,zs,s,s',h,hz,q,CB,hq=>by
    simp only [dp] at hz
    have:=c6 hz
    simp only [enc,List.cons.injEq,and_true] at this
    cases s' with | mk t' Yc=>cases this;exact .inl ⟨q,rfl,hq⟩
  | (i,j)::p,t,xs,zs,s,s',h,hz,q,CB,hq=>by
    simp only [aR] at h
    split at h
    case h_2=>cases h
    rename_i x hx
    split at h
    case h_2=>cases h
    rename_i t1 ys hc
    simp only [dp,bz hx,hc,Option.bind_eq_some_iff,Option.some.injEq] at hz
    obtain ⟨z1,Gx,y,hy,rfl⟩:=hz
    have Gy:=c6 hy
    have ct:i<xs.length:=by
      rcases Nat.lt_or_ge i xs.length with h' | h'
      · exact h'
      · simp [List.getElem?_eq_none h'] at hx
    have hj:j<(enc t x).length:=by
      rcases Nat.lt_or_ge j (enc t x).length with h' | h'
      · exact h'
      · simp [List.getElem?_eq_none h'] at hc
    cases q with
    | nil=>
      refine .inr ⟨by simp,⟨t,xs⟩,rfl,?_⟩
      simp only [aR,Option.some.injEq] at hq
      subst hq
      refine ⟨rfl,by simp,fun i' y' j' c' hy' r6=> ?_⟩
      by_cases qc:i=i'
      · subst qc
        simp only [List.getElem?_set_self ct,Option.some.injEq] at hy'
        subst hy'
        rw [← Gy] at r6
        by_cases Ib:j=j'
        · subst Ib
          simp only [List.getElem?_set_self hj,Option.some.injEq] at r6
          subst r6
          exact ⟨x,_,hx,hc,rfl⟩
        · rw [List.getElem?_set_ne Ib] at r6
          exact ⟨x,c',hx,r6,.refl _⟩
      · simp only [List.getElem?_set_ne qc] at hy'
        exact ⟨y',c',hy',r6,.refl _⟩
    | cons ij q=>
      obtain ⟨i',j'⟩:=ij
      simp only [aR] at hq
      by_cases qc:i=i'
      · subst qc
        simp only [List.getElem?_set_self ct,←Gy] at hq
        by_cases Ib:j=j'
        · subst Ib
          simp only [List.getElem?_set_self hj] at hq
          rcases kc h Gx q CB hq with ⟨q',rfl,h'⟩ | ⟨hn,s2,sR,sS⟩
          · exact .inl ⟨q',rfl,h'⟩
          · refine .inr ⟨by simpa using hn,s2,?_,sS⟩
            simp only [aR,hx,hc];exact sR
        · rw [List.getElem?_set_ne Ib] at hq
          refine .inr ⟨by simp [Ib],CB,?_,.refl _⟩
          simp only [aR,hx];exact hq
      · simp only [List.getElem?_set_ne qc] at hq
        refine .inr ⟨by simp [qc],CB,?_,.refl _⟩
        simp only [aR];exact hq
structure Fx where
 sz:Nat
 r0:Nat→Prop
 /-- The world as it was at the very start. -/
 wl:World
structure Gh where
 rv:Nat→Path→Value
 rf:Nat→Nat→Prop
 bx:Nat→Nat
 ro:Nat→Prop
 n:Fx
def Vd (st:St) (id ver iv:Nat) (p:Path) (r:cB):Prop:=ax st.roots id=some (.live r)∧r.ver=ver∧iu r iv p=true
def Vx (st:St) (id ver iv:Nat) (p:Path) (r:cB):Prop:=(ax st.roots id=some (.live r)∨ax st.roots id=some (.dj r))∧r.ver=ver∧iu r iv p=true
theorem Vd.x {st:St} {id ver iv:Nat} {p:Path} {r:cB} (h:Vd st id ver iv p r):Vx st id ver iv p r:=⟨.inl h.1,h.2⟩
theorem Vx.is {st:St} {id ver iv:Nat} {p:Path} {r ro:cB} (h:Vx st id ver iv p r) (hv:ax st.roots id=some (.live ro)):r=ro:=by
 rcases h.1 with h | h<;>simp [hv] at h
 exact h.symm
def cJ (st:St) (id ver iv:Nat):Prop:=
  match ax st.roots id with
 | some (.live r)=>ver<r.ver∨(ver=r.ver∧iv≤r.log.length)
 | some (.dj r)=>ver<r.ver∨(ver=r.ver∧iv≤r.log.length)
 | some (.gone v)=>ver≤v
 | none=>False
def lr (sz:Nat) (v:Value) (lo hi:Nat):Value:=
  match v with
 | .slice a _ cap=> .slice (if cap=lo then a else a.map (·.add (lo*sz))) (hi-lo) (cap-lo)
 | v=>v
def iQ (w:World) (P:Nat→Prop) (t:Ty) (x:El t) (off:Nat) (u:Value):Prop:=
  ∃b o cs el fz,u = .pointer (some ⟨b,o+off,none⟩)∧P b∧w.heap[b]? =some (.cells cs el fz)∧∀(j:Nat) c,(enc t x)[j]? =some c→∃z,cs[o+j]? =some z∧pF w P c z
def Kl (wl:World) (t:Ty) (xs:List (El t)) (u:Value):Prop:=fK wl (fun _=>True) t xs u
def lQ (w:World) (g:Gh) (st:St):Sc→Value→Prop
 | .v x,u=>u=x
 | .nl,u=>u = .slice none 0 0
 | .ro t xs,u=>fK w g.ro t xs u
 | .h id ver iv p,u=>cJ st id ver iv∧∀r,Vx st id ver iv p r→u=g.rv id p∧(aR r.t r.xs p).isSome
 | .vw id ver lo hi,u=>cJ st id ver 0∧∀r,Vx st id ver 0 [] r→lo≤hi∧hi≤r.xs.length∧u=lr (aD r.t) (g.rv id []) lo hi
 | .pt b off,u=>u = .pointer (some ⟨g.bx b,off,none⟩)∧(ax st.boxes b).isSome
 | .pe id ver iv p i off,u=>cJ st id ver iv∧∀r,Vx st id ver iv p r→∃s b o n cap,aR r.t r.xs p=some s∧i<s.xs.length∧
   g.rv id p = .slice (some ⟨b,o,none⟩) n cap∧u = .pointer (some ⟨b,o+i*aD s.t+off,none⟩)
 | .rp t x off,u=>iQ w g.ro t x off u
 | .fH fn bs,u=>u = .func (.func fn) #[] (bs.map fun b=>Value.pointer (some ⟨g.bx b,0,none⟩)).toArray∧∀b∈bs,(ax st.boxes b).isSome
 | .oT fn ys,u=>∃ps:List Value,u = .func (.func fn) #[] ps.toArray∧ps.length=ys.length∧∀(i:Nat) (y:Σ t:Ty,El t) (q:Value),ys[i]? =some y→ps[i]? =some q→iQ w g.ro y.1 y.2 0 q
 | .rk t xs,u=>Kl g.n.wl t xs u
 | .dead,_=>True
def aZ (w:World) (g:Gh) (st:St) (c:Sc) (u:Value):Prop:=cR u=true∧lQ w g st c u
def cH (w:World) (g:Gh) (st:St) (cs:List Sc) (us:Array Value):Prop:=
  us.size=cs.length∧∀(j:Nat) c,cs[j]? =some c→∃z,us[j]? =some z∧aZ w g st c z
def ix (w:World) (g:Gh) (st:St):Cm→Value→Prop
 | .one c,u=>aZ w g st c u
 | .agg cs,u=>∃us,u = .agg us∧cH w g st cs us
def dD (w:World) (g:Gh) (st:St):Sv→Value→Prop
 | .c x,u=>ix w g st x u
 | .xx vs,u=>∃us:Array Value,u = .tuple us∧us.size=vs.length∧∀(j:Nat) x,vs[j]? =some x→∃z,us[j]? =some z∧ix w g st x z
def UH (w:World) (g:Gh) (st:St) (b:Nat) (x:Bx):Prop:=
  ∃us el,w.heap[g.bx b]? =some (.cells us el (0,0))∧cH w g st x.cs us
def cY (w:World) (F:Nat→Prop) (k:Pt) (t:Ty) (xs:List (El t)) (av:Path→Value):Prop:=
 (∀ p s,k.nodeAt p=true→aR t xs p=some s→bB w F s.t s.xs (av p) fun i j=>av (p++[(i,j)]))∧
 (∀ p q s s' n,k.nodeAt p=true→k.nodeAt q=true→aR t xs p=some s→aR t xs q=some s'→q6 (av p)=some n→q6 (av q)=some n→p=q)∧
  ∀p s,aR t xs p=some s→cR (av p)=true
theorem cY.same {w w':World} {X F:Nat→Prop} (hs:bH X w w') (hd:∀k,F k→ ¬X k) {a:Pt} {t:Ty} {xs:List (El t)} {av:Path→Value} (h:cY w F a t xs av):cY w' F a t xs av:=
 ⟨fun p s h1 hp=>(h.1 p s h1 hp).same hs hd,h.2⟩
theorem cY.mono {w:World} {P Q:Nat→Prop} {a:Pt} {t:Ty} {xs:List (El t)} {av:Path→Value} (xE:∀k,P k→Q k) (h:cY w P a t xs av):cY w Q a t xs av:=
 ⟨fun p s h1 hs=>(h.1 p s h1 hs).mono xE,h.2⟩
theorem bB.flat {w:World} {F:Nat→Prop} {t:Ty} {ys:List (El t)} {v:Value} {eW:Nat→Nat→Value} (h:bB w F t ys v eW):cR v=true:=by
 rcases h with ⟨_,rfl⟩ | ⟨b,o,cap,cs,el,rfl,_⟩<;>rfl
theorem bo.part {w:World} {F:Nat→Prop} {t:Ty} {xs:List (El t)} {av:Path→Value} (h:bo w F t xs av) (a:Pt):cY w F a t xs av:=
 ⟨fun p s _ hs=>h.1 p s hs,fun p q s s' k _ _=>h.2 p q s s' k,fun p s hs=>(h.1 p s hs).flat⟩
theorem gb {a b i j:Nat}:rY a b i j=true↔a<i∨(a=i∧b≤j):=by
 simp only [rY,Bool.or_eq_true,Bool.and_eq_true,Nat.blt_eq,Nat.beq_eq,Nat.ble_eq]
theorem kK {a b a' b':Nat} (h:rY a b a' b'=true):∀ {p:Path},(Pt.cur a' b').nodeAt p=true→(Pt.cur a b).nodeAt p=true
  | [],_=>rfl
  | (i,j)::p,hp=>by
    simp only [Pt.nodeAt] at hp ⊢
    rw [gb] at *
    omega
theorem cY.on {w:World} {F:Nat→Prop} {a b a' b':Nat} (hl:rY a b a' b'=true) {t:Ty} {xs:List (El t)} {av:Path→Value} (h:cY w F (.cur a b) t xs av):cY w F (.cur a' b') t xs av:=
 ⟨fun p s h1 hs=>h.1 p s (kK hl h1) hs,fun p q s s' k h1 h2=>h.2.1 p q s s' k (kK hl h1) (kK hl h2),h.2.2⟩
theorem yO:∀ {p q:Path},xy p q=true↔p=q
  | [],[]=>by simp [xy]
  | [],_::_=>by simp [xy]
  | _::_,[]=>by simp [xy]
  | (a,b)::p,(c,d)::q=>by
    have ih:= @yO p q
    simp only [xy,Bool.and_eq_true,Nat.beq_eq,ih,List.cons.injEq,Prod.mk.injEq,and_assoc]
theorem xF:∀ {p q:Path},tA p q=true↔p <+: q
  | [],q=>by simp [tA]
  | _::_,[]=>by simp [tA]
  | (a,b)::p,(c,d)::q=>by
    have ih:= @xF p q
    simp only [tA,Bool.and_eq_true,Nat.beq_eq,ih,List.cons_prefix_cons,Prod.mk.injEq,and_assoc]
theorem iy {p:Path} (hp:p≠[]) {q:Path}:(Pt.hole p).nodeAt q=true↔ ¬p <+: q:=by
 cases q with
 | nil=>simp [Pt.nodeAt,hp]
 | cons x q=>
  show (!(tA p (x::q)))=true↔_
  rw [← xF];simp
theorem r7 (k:Pt) (p:Path):(Md.part k).nodeAt p=k.nodeAt p:=by
 cases p with
 | nil=>cases k<;>rfl
 | cons x p=>rfl
def aS (w:World) (g:Gh) (id:Nat) (r:cB):Prop:=
  match r.md with
 | .deep=>bo w (g.rf id) r.t r.xs (g.rv id)
 | .nq=>mz w (g.rf id) g.ro r.t r.xs (g.rv id)
 | .Er=>dR w g.ro r.t r.xs (g.rv id)
 | .part k=>cY w (g.rf id) k r.t r.xs (g.rv id)
def aP (st:St) (id:Nat):Prop:=∃r,ax st.roots id=some (.live r)∧r.md.cr=false
def bA (st:St) (b:Nat):Prop:=(ax st.boxes b).isSome
structure Yd (w0 w:World) (Mf:Nat→Prop) (g:Gh) (st:St):Prop where
 rr:∀id aH k,aP st id→aP st aH→g.rf id k→g.rf aH k→id=aH
 rb:∀id b,aP st id→bA st b→ ¬g.rf id (g.bx b)
 bb:∀b b',bA st b→bA st b'→g.bx b=g.bx b'→b=b'
 dZ:∀id k,aP st id→g.rf id k→ ¬g.ro k
 fL:∀b,bA st b→ ¬g.ro (g.bx b)
 ck:∀id k,aP st id→g.rf id k→w0.heap.size≤k∨Mf k
 dA:∀b,bA st b→w0.heap.size≤g.bx b∨Mf (g.bx b)
 eb:∀id k,aP st id→g.rf id k→k<w.heap.size
 c7:∀k,g.ro k→k<w.heap.size
 bU:∀k,g.ro k→g.n.r0 k∨w0.heap.size≤k∨Mf k
structure Kept (w0 w:World) (Mf:Nat→Prop):Prop where
 os:w.os=w0.os
 tape:w.tape=w0.tape
 output:w.output=w0.output
 same:bH Mf w0 w
structure Ye (w0:World) (Mf:Nat→Prop) (g:Gh):Prop where
 wl:∀b o,g.n.wl.heap[b]? =some o→g.n.r0 b∧w0.heap[b]? =some o
 ap:∀k,g.n.r0 k→ ¬Mf k
 ro:∀k,g.n.r0 k→g.ro k
structure Inv (w0:World) (Mf:Nat→Prop) (g:Gh) (st:St) (a:Act) (w:World):Prop where
 aA:∀s sv,ax st.aA s=some sv→∃u,a.tmps[s]? =some u∧dD w g st sv u
 boxes:∀b x,ax st.boxes b=some x→UH w g st b x
 roots:∀id r,ax st.roots id=some (.live r)→aS w g id r
 apart:Yd w0 w Mf g st
 kept:Kept w0 w Mf
 defers:a.defers=[]
 size:a.tmps.size=g.n.sz
 base:Ye w0 Mf g
def Form (t:Ty) (u:Value) (us:Array Value):Prop:=if ik t then u = .agg us else us = #[u]∧cR u=true
def AG (w:World) (P:Nat→Prop) (cs:List Cv) (us:Array Value):Prop:=us.size=cs.length∧∀(j:Nat) c,cs[j]? =some c→∃z,us[j]? =some z∧pF w P c z
def iO (w:World) (F:Nat→Prop) (c:Cv) (u:Value):Prop:=match c with | .v x=>u=x | .l t xs=>kb w F t xs u
def lu (w:World) (F:Nat→Prop) (cs:List Cv) (us:Array Value):Prop:=
  ∃Fs:Nat→Nat→Prop,(∀ j k,Fs j k→F k)∧(∀ j j' k,Fs j k→Fs j' k→j=j')∧us.size=cs.length∧∀(j:Nat) c,cs[j]? =some c→∃z,us[j]? =some z∧iO w (Fs j) c z
def qd (w:World) (P:Nat→Prop) (t:Ty) (x:El t) (u:Value):Prop:=∃us,Form t u us∧AG w P (enc t x) us
def mA (w:World) (F:Nat→Prop) (t:Ty) (x:El t) (u:Value):Prop:=∃us,Form t u us∧lu w F (enc t x) us
def CKl (wl:World) (c:Cv) (u:Value):Prop:=match c with | .v x=>u=x | .l t xs=>Kl wl t xs u
def Es (wl:World) (cs:List Cv) (us:Array Value):Prop:=us.size=cs.length∧∀(j:Nat) c,cs[j]? =some c→∃z,us[j]? =some z∧CKl wl c z
def Td (wl:World) (t:Ty) (x:El t) (u:Value):Prop:=∃us,Form t u us∧Es wl (enc t x) us
def tD (wl:World) (sh:Bool) (w:World) (F:Nat→Prop) (cs:List Cv) (us:Array Value):Prop:=match sh with | true=>Es wl cs us | false=>lu w F cs us
def tE (wl w:World) (F:Nat→Prop) (t:Ty) (x:El t) (u:Value):Prop:=
  ∃b us el,u = .pointer (some ⟨b,0,none⟩)∧F b∧w.heap[b]? =some (.cells us el (0,0))∧tD wl (shr t) w (fun k=>F k∧k≠b) (enc t x) us
def tF (wl w:World) (ROa:Nat→Prop):Am→Dt→Value→(Nat→Prop)→Prop
 | .ro,.d t x,u,_=>qd w ROa t x u
 | .CO,.d t x,u,F=>mA w F t x u
 | .mut,.d t x,u,F=>∃e xs,(⟨t,x⟩:Σ t,El t)=⟨.sl e,xs⟩∧kb w F e xs u
 | .CA,.d t x,u,_=>iQ w ROa t x 0 u
 | .bj,.d t x,u,F=>tE wl w F t x u
 | .kp,.d t x,u,_=>Td wl t x u
 | .PB,_,u,_=>cR u=true
 | .fn,.fH fn ys,u,_=>∃ps:List Value,u = .func (.func fn) #[] ps.toArray∧ps.length=ys.length∧∀(i:Nat) (y:Σ t:Ty,El t) (q:Value),ys[i]? =some y→ps[i]? =some q→iQ w ROa y.1 y.2 0 q
 | _,_,_,_=>False
inductive cS (wl w:World) (ROa:Nat→Prop):List Am→List Dt→List Value→List (Nat→Prop)→Prop where
 | nil:cS wl w ROa [] [] [] []
 | cons {m ms d ds u us F Fs} (h:tF wl w ROa m d u F) (hs:cS wl w ROa ms ds us Fs):cS wl w ROa (m::ms) (d::ds) (u::us) (F::Fs)
inductive ec (wl w:World):List Am→List Dt→List Value→List Dt→List (Nat→Prop)→Prop where
 | nil:ec wl w [] [] [] [] []
 | skip {m ms d pG u us ds Fs} (h:match m with | .mut=>False | .bj=>False | _=>True) (hs:ec wl w ms pG us ds Fs):ec wl w (m::ms) (d::pG) (u::us) ds Fs
 | mut {ms d pG u us t xs ds F Fs} (h:kb w F t xs u) (hs:ec wl w ms pG us ds Fs):ec wl w (.mut::ms) (d::pG) (u::us) (.d (.sl t) xs::ds) (F::Fs)
 | bj {ms t0 x0 pG u us t x ds F Fs} (h:tE wl w F t x u) (ht:aD t=aD t0) (hs:ec wl w ms pG us ds Fs):ec wl w (.bj::ms) (.d t0 x0::pG) (u::us) (.d t x::ds) (F::Fs)
inductive iU (wl w:World) (own:Bool):List Bool→List Dt→List Value→List (Nat→Prop)→Prop where
 | nil:iU wl w own [] [] [] []
 | val {ps t x ds u us F Fs} (h:if own then mA w F t x u else qd w F t x u) (hs:iU wl w own ps ds us Fs):iU wl w own (false::ps) (.d t x::ds) (u::us) (F::Fs)
 | ptr {ps t x ds u us F Fs} (h:own=true∧tE wl w F t x u) (hs:iU wl w own ps ds us Fs):iU wl w own (true::ps) (.d t x::ds) (u::us) (F::Fs)
def tG:List Value→Value
 | [v]=>v
 | vs=> .tuple vs.toArray
def bR (Fs:List (Nat→Prop)):Prop:=Fs.Pairwise fun F G=>∀k,F k→G k→False
structure nB (wl w w':World) (Mf ROa:Nat→Prop) (s:Spec) (ds:List Dt) (us:List Value) (outs:List Dt) (e:Ending):Prop where
 out:∃rs Gs Bs,e = .returned (tG rs)∧iU wl w' s.own s.res (outs.take s.res.length) rs Gs∧ec wl w' s.bO ds us (outs.drop s.res.length) Bs∧
  bR Bs∧(∀ B∈Bs,∀k,B k→Mf k∨w.heap.size≤k)∧
  (s.own=true→bR Gs∧(∀ G∈Gs,∀k,G k→Mf k∨w.heap.size≤k))∧
  (s.own=false→∀G∈Gs,∀k,G k→(ROa k∨w.heap.size≤k))∧
  (∀ G∈Gs,∀B∈Bs,∀k,G k→B k→False)∧
  (∀ G∈Gs,∀k,G k→k<w'.heap.size)∧(∀ B∈Bs,∀k,B k→k<w'.heap.size)
 kept:Kept w w' Mf
def xG:List Nat→List Value→List Value
  | [],us=>us
  | 0::sh,u::us=>u::xG sh us
  | 0::_,[]=>[]
  | (n+1)::sh,us=> .agg (us.take (n+1)).toArray::xG sh (us.drop (n+1))
def tH (P:Program) (wl:World):Prop:=wl.ShapedOpen P
def yP (wl w:World) (ROa:Nat→Prop):Prop:=∀b o,wl.heap[b]? =some o→ROa b∧w.heap[b]? =some o
def bV (P:Program) (f:Nat) (s:Spec):Prop:=
  ∀ {R:Type} (ds:List Dt) (k:Kt R) (r:R),s.fn ds k=some r→
    ∀(wl w:World) (us:List Value) (Mf ROa:Nat→Prop) (Fs:List (Nat→Prop)),tH P wl→yP wl w ROa→cS wl w ROa s.bO ds us Fs→bR Fs→(∀ F∈Fs,∀k,F k→Mf k)→
 (∀ k,ROa k→ ¬Mf k)→(∀ k,ROa k→k<w.heap.size)→(∀ k,Mf k→k<w.heap.size)→
      Calls P f (xG s.shape us).toArray w fun e w'=>∃outs,k outs=some r∧nB wl w w' Mf ROa s ds us outs e
theorem aQ {α β:Type} {o:Option α} {k:α→Option β} {r:β} (h:o.bind k=some r):∃a,o=some a∧k a=some r:=Option.bind_eq_some_iff.1 h
theorem Te {β:Type} {b:Bool} {x:Option β} {r:β} (h:cond b none x=some r):b=false∧x=some r:=by cases b<;>simp_all
theorem a8 {β:Type} {b:Bool} {x:Option β} {r:β} (h:cond b x none=some r):b=true∧x=some r:=by cases b<;>simp_all
theorem gX {a b:Nat} (h:Nat.beq a b=true):a=b:=Nat.eq_of_beq_eq_true h
theorem PD {a b:Nat} (h:a≠b):Nat.beq a b=false:=by
 cases h':Nat.beq a b
 ·rfl
 ·exact absurd (gX h') h
theorem gw {a b:Nat} (h:Nat.ble a b=true):a≤b:=Nat.le_of_ble_eq_true h
section assoc
variable {α : Type}
theorem aF (l:List (Nat×α)) (n:Nat) (v:α) (m:Nat):ax (aX l n v) m=if m=n then some v else ax l m:=by
 induction l with
 | nil=>
  by_cases h:m=n
  ·subst h;simp [aX,ax,Nat.beq_refl]
  ·have:Nat.beq m n=false:=PD h
   simp [aX,ax,this,h]
 | cons kv l ih=>
  obtain ⟨k,u⟩:=kv
  simp only [aX]
  cases hnk:Nat.beq n k
  ·simp only [cond_false]
   cases ct:Nat.blt n k
   ·simp only [cond_false,ax,ih]
    by_cases Pm:m=n
    ·subst Pm;simp [hnk]
    ·simp [Pm]
   ·simp only [cond_true,ax]
    by_cases Pm:m=n
    ·subst Pm;simp [Nat.beq_refl]
    ·have:Nat.beq m n=false:=PD Pm
     simp [this,Pm]
  ·have hk:=gX hnk
   subst hk
   simp only [cond_true,ax]
   by_cases Pm:m=n
   ·subst Pm;simp [Nat.beq_refl]
   ·have:Nat.beq m n=false:=PD Pm
    simp [this,Pm]
theorem bd (l:List (Nat×α)) (n:Nat) (v:α):ax (aX l n v) n=some v:=by simp [aF]
theorem bX (l:List (Nat×α)) {n m:Nat} (v:α) (h:m≠n):ax (aX l n v) m=ax l m:=by simp [aF,h]
end assoc
variable {R : Type} {w0 w : World} {Mf : Nat → Prop} {g : Gh} {st : St} {a : Act}
theorem mY {v:Value} {c:Sc} (h:j3 v=some c):aZ w g st c v:=by
 unfold j3 at h
 split at h<;>simp only [Option.some.injEq,reduceCtorEq] at h<;>subst h<;>exact ⟨rfl,rfl⟩
theorem lU:∀ {vs:List Value} {cs:List Sc},gW vs=some cs→vs.length=cs.length∧∀(j:Nat) c,cs[j]? =some c→∃z,vs[j]? =some z∧aZ w g st c z
 | [],cs,h=>by simp only [gW,Option.some.injEq] at h;subst h;simp
 | v::vs,cs,h=>by
  simp only [gW] at h
  obtain ⟨c,hc,h⟩:=aQ h
  obtain ⟨Gz,fe,h⟩:=aQ h
  simp only [Option.some.injEq] at h;subst h
  obtain ⟨h1,h2⟩:=lU fe
  refine ⟨by simp [h1],fun j c' hj=> ?_⟩
  cases j with
  | zero=>simp only [List.getElem?_cons_zero,Option.some.injEq] at hj;subst hj;exact ⟨v,rfl,mY hc⟩
  | succ j=>simpa using h2 j c' (by simpa using hj)
theorem w9 {v:Value} {s:Sv} (h:oz v=some s):dD w g st s v:=by
 unfold oz at h
 split at h
 ·rename_i cs
  obtain ⟨l,hl,h⟩:=aQ h
  simp only [Option.some.injEq] at h;subst h
  obtain ⟨h1,h2⟩:=lU (w:=w) (g:=g) (st:=st) hl
  exact ⟨cs,rfl,by simpa using h1,fun j c hj=>by simpa using h2 j c hj⟩
 ·obtain ⟨c,hc,h⟩:=aQ h
  simp only [Option.some.injEq] at h;subst h
  exact mY hc
theorem Inv.dk (I:Inv w0 Mf g st a w) {x:Operand} {k:Sv→Option R} {r:R} (h:dk st x k=some r):
    ∃s,k s=some r∧dD w g st s (a.eval x):=by
 cases x with
 | tmp t=>
  obtain ⟨s,hs,hk⟩:=aQ h
  obtain ⟨u,hu,hr⟩:=I.aA t s hs
  exact ⟨s,hk,by simpa [Act.eval,Array.getD_eq_getD_getElem?,hu] using hr⟩
 | const v=>
  obtain ⟨s,hs,hk⟩:=aQ h
  exact ⟨s,hk,w9 hs⟩
 | func f=>exact ⟨_,h,rfl,rfl,by simp⟩
 | global n=>cases h
theorem Inv.kro (I:Inv w0 Mf g st a w) {t:Ty} {xs:List (El t)} {u:Value} (h:Kl g.n.wl t xs u):fK w g.ro t xs u:=by
 obtain ⟨av,h0,h1⟩:=h
 refine ⟨av,h0,fun p s hs=> ?_⟩
 obtain ⟨ad,cap,e,hle,hh⟩:=h1 p s hs
 refine ⟨ad,cap,e,hle,fun hn=> ?_⟩
 obtain ⟨b,o,cs,el,fz,e1,_,e3,e4⟩:=hh hn
 obtain ⟨h2,h3⟩:=I.base.wl b _ e3
 exact ⟨b,o,cs,el,fz,e1,I.base.ro b h2,I.kept.same.get h3 (I.base.ap b h2),e4⟩
theorem Inv.fr (I:Inv w0 Mf g st a w) {x:Operand} {k:Sc→Option R} {r:R} (h:fr st x k=some r):
    ∃c,k c=some r∧aZ w g st c (a.eval x):=by
 obtain ⟨s,hk,hs⟩:=I.dk h
 split at hk
 ·rename_i c
  refine ⟨_,hk,?_⟩
  cases c with
  | rk t xs=>exact ⟨hs.1,I.kro hs.2⟩
  | _=>exact hs
 ·cases hk
theorem Inv.jn (I:Inv w0 Mf g st a w) {x:Operand} {k:Value→Option R} {r:R} (h:jn st x k=some r):
 k (a.eval x)=some r∧cR (a.eval x)=true:=by
 obtain ⟨c,hk,hc⟩:=I.fr h
 split at hk
 ·rename_i u
  have:=hc.2
  simp only [lQ] at this
  rw [this];exact ⟨hk,by rw [← this];exact hc.1⟩
 ·cases hk
theorem Inv.getBool (I:Inv w0 Mf g st a w) {x:Operand} {k:Bool→Option R} {r:R} (h:getBool st x k=some r):
    ∃b,k b=some r∧a.eval x = .bool b:=by
 have:=(I.jn h).1
 split at this
 ·rename_i b he;exact ⟨b,this,he⟩
 ·cases this
theorem Inv.getInt (I:Inv w0 Mf g st a w) {x:Operand} {k:Int→Option R} {r:R} (h:getInt st x k=some r):
    ∃n,k n=some r∧a.eval x = .int .i64 n:=by
 have:=(I.jn h).1
 split at this
 ·rename_i b he;exact ⟨b,this,he⟩
 ·cases this
def Et (a:Act) (x:Option Operand) (d n:Int):Prop:=match x with | none=>n=d | some x=>a.eval x = .int .i64 n
theorem Inv.fu (I:Inv w0 Mf g st a w) {x:Option Operand} {d:Int} {k:Int→Option R} {r:R} (h:fu st x d k=some r):
    ∃n,k n=some r∧Et a x d n:=by
 cases x with
 | none=>exact ⟨d,h,rfl⟩
 | some x=>exact I.getInt h
theorem Inv.lT (I:Inv w0 Mf g st a w):∀ {xs:List Operand} {k:List Sv→Option R} {r:R},lT st xs k=some r→
    ∃ss,k ss=some r∧ss.length=xs.length∧∀(j:Nat) s,ss[j]? =some s→∃x,xs[j]? =some x∧dD w g st s (a.eval x)
 | [],k,r,h=>⟨[],h,rfl,by simp⟩
 | x::xs,k,r,h=>by
  obtain ⟨s,hk,hs⟩:=I.dk h
  obtain ⟨ss,pH,hl,hr⟩:=I.lT hk
  refine ⟨s::ss,pH,by simp [hl],fun j s' hj=> ?_⟩
  cases j with
  | zero=>simp only [List.getElem?_cons_zero,Option.some.injEq] at hj;subst hj;exact ⟨x,rfl,hs⟩
  | succ j=>simpa using hr j s' (by simpa using hj)
theorem de {id ver:Nat} {k:cB→Option R} {r:R} (h:jH st id ver k=some r):∃ro,ax st.roots id=some (.live ro)∧ro.ver=ver∧k ro=some r:=by
 unfold jH at h
 split at h
 ·rename_i ro cZ
  obtain ⟨h1,h2⟩:=a8 h
  exact ⟨ro,cZ,gX h1,h2⟩
 ·cases h
theorem da {id ver iv:Nat} {p:Path} {k:cB→Option R} {r:R} (h:j9 st id ver iv p k=some r):∃ro,Vd st id ver iv p ro∧k ro=some r:=by
 obtain ⟨ro,h1,h2,h3⟩:=de h
 obtain ⟨h4,h5⟩:=a8 h3
 exact ⟨ro,⟨h1,h2,h4⟩,h5⟩
theorem Vd.root {id ver iv:Nat} {p:Path} {r:cB} (h:Vd st id ver iv p r):ax st.roots id=some (.live r):=h.1
theorem gC (r:cB) (iv:Nat):iu r iv []=true:=by simp [iu,Nat.ble]
def XM (g:Gh) (st:St) (k:Nat):Prop:=g.ro k∨∃id,aP st id∧g.rf id k
theorem Inv.tree (I:Inv w0 Mf g st a w) {id:Nat} {r:cB} (h:ax st.roots id=some (.live r)) (hp:r.md.jG []=true):dR w (XM g st) r.t r.xs (g.rv id):=by
 have hr:=I.roots id r h
 unfold aS at hr
 split at hr
 ·rename_i hm;exact hr.rd.mono fun k hk=> .inr ⟨id,⟨r,h,by rw [hm];rfl⟩,hk⟩
 ·rename_i hm;exact hr.rd.mono fun k hk=>hk.elim (fun hk=> .inr ⟨id,⟨r,h,by rw [hm];rfl⟩,hk⟩) .inl
 ·exact hr.mono fun k hk=> .inl hk
 ·rename_i k hm;rw [hm] at hp;cases k<;>cases hp
theorem Inv.nC (I:Inv w0 Mf g st a w) {id:Nat} {r:cB} (h:ax st.roots id=some (.live r)) {p:Path} (hp:r.md.nodeAt p=true) {s:Sl} (hs:aR r.t r.xs p=some s):
    ep w (XM g st) s.t s.xs (g.rv id p) fun i j=>g.rv id (p++[(i,j)]):=by
 have hr:=I.roots id r h
 unfold aS at hr
 split at hr
 ·rename_i hm;exact (hr.rd p s hs).mono fun k hk=> .inr ⟨id,⟨r,h,by rw [hm];rfl⟩,hk⟩
 ·rename_i hm;exact (hr.rd p s hs).mono fun k hk=>hk.elim (fun hk=> .inr ⟨id,⟨r,h,by rw [hm];rfl⟩,hk⟩) .inl
 ·exact (hr p s hs).mono fun k hk=> .inl hk
 ·rename_i hm;rw [hm,r7] at hp;exact (hr.1 p s hp hs).rd.mono fun k hk=> .inr ⟨id,⟨r,h,by rw [hm];rfl⟩,hk⟩
theorem Inv.AH (I:Inv w0 Mf g st a w) {id:Nat} {r:cB} (h:ax st.roots id=some (.live r)) {p:Path} {s:Sl} (hs:aR r.t r.xs p=some s):cR (g.rv id p)=true:=by
 have hr:=I.roots id r h
 unfold aS at hr
 have hf:∀ {P:Nat→Prop} {eW:Nat→Nat→Value},ep w P s.t s.xs (g.rv id p) eW→cR (g.rv id p)=true:=fun ⟨a,cap,e,_⟩=>by rw [e];rfl
 split at hr
 ·exact hf (hr.rd p s hs)
 ·exact hf (hr.rd p s hs)
 ·exact hf (hr p s hs)
 ·exact hr.2.2 p s hs
theorem tI {m:Md} {p:Path} (hp:m.jG p=true) (q:Path):m.nodeAt (p++q)=true:=by
 cases m with
 | part k=>
  cases k with
  | hole p0=>cases hp
  | cur a b=>
   cases p with
   | nil=>cases hp
   | cons ij p=>exact hp
 | deep=>cases p++q<;>rfl
 | nq=>cases p++q<;>rfl
 | Er=>cases p++q<;>rfl
theorem Inv.jG (I:Inv w0 Mf g st a w) {id:Nat} {r:cB} (h:ax st.roots id=some (.live r)) {p:Path} (hp:r.md.jG p=true) {s:Sl} (hs:aR r.t r.xs p=some s):
    dR w (XM g st) s.t s.xs fun q=>g.rv id (p++q):=by
 intro q s' fv
 have:=I.nC h (tI hp q) (p:=p++q) (s:=s') (by rw [ch q hs];exact fv)
 simpa [List.append_assoc] using this
theorem iz {α:Type} (xs:List α) (lo hi i:Nat):((xs.take hi).drop lo)[i]? =if lo+i<hi then xs[lo+i]? else none:=by
 rw [List.getElem?_drop,List.getElem?_take]
theorem ep.ab2 {P:Nat→Prop} {t:Ty} {xs:List (El t)} {v:Value} {eW:Nat→Nat→Value} (h:ep w P t xs v eW) {lo hi:Nat} (h1:lo≤hi) (h2:hi≤xs.length):
    ∃a cap,lr (aD t) v lo hi = .slice a ((xs.take hi).drop lo).length cap∧True:=by
 obtain ⟨a,cap,e,hle,_⟩:=h
 have hlen:((xs.take hi).drop lo).length=hi-lo:=by simp;omega
 exact ⟨(if cap=lo then a else a.map (·.add (lo*aD t))),cap-lo,by simp only [e,lr,hlen],trivial⟩
theorem dR.cut {P:Nat→Prop} {t:Ty} {xs:List (El t)} {av:Path→Value} (h:dR w P t xs av) {lo hi:Nat} (h1:lo≤hi) (h2:hi≤xs.length):
    fK w P t ((xs.take hi).drop lo) (lr (aD t) (av []) lo hi):=by
 refine ⟨fun p=>match p with | []=>lr (aD t) (av []) lo hi | (i,j)::p=>av ((i+lo,j)::p),rfl,?_⟩
 intro p s hs
 cases p with
 | nil=>
  simp only [aR,Option.some.injEq] at hs
  subst hs
  obtain ⟨a,cap,e,hle,hh⟩:=h [] ⟨t,xs⟩ rfl
  have hlen:((xs.take hi).drop lo).length=hi-lo:=by simp;omega
  refine ⟨(if cap=lo then a else a.map (·.add (lo*aD t))),cap-lo,by simp only [e,lr,hlen],by simp only [hlen];simp only at hle;omega,fun hn=> ?_⟩
  have ct:lo<hi:=by
   rcases Nat.lt_or_ge lo hi with h' | h'
   ·exact h'
   ·exact absurd (List.length_eq_zero_iff.1 (by rw [hlen];omega)) hn
  obtain ⟨b,o,cs,el,fz,rfl,hP,hb,hr⟩:=hh (by intro h0;simp only at h0;rw [h0] at h2;simp at h2;omega)
  have ab3:∃o',(if cap=lo then (some ⟨b,o,none⟩:Option Addr) else (some (⟨b,o,none⟩:Addr)).map (·.add (lo*aD t)))=some ⟨b,o',none⟩∧(o'=o+lo*aD t):=by
   simp only at hle
   rw [if_neg (by omega)]
   simp only [Option.map_some,Addr.add]
   split
   ·rename_i h0;exact ⟨_,rfl,by omega⟩
   ·exact ⟨_,rfl,rfl⟩
  obtain ⟨o',yQ,rfl⟩:=ab3
  refine ⟨b,_,cs,el,fz,yQ,hP,hb,?_⟩
  intro i y j c hy hc
  simp only [iz] at hy
  split at hy
  ·obtain ⟨u,hu,kE⟩:=hr (lo+i) y j c hy hc
   refine ⟨u,?_,?_⟩
   ·rw [← hu];congr 1;simp only [Nat.add_mul];omega
   ·simpa [Nat.add_comm] using kE
  ·cases hy
 | cons ij p=>
  obtain ⟨i,j⟩:=ij
  simp only [aR,iz] at hs
  split at hs
  case h_2=>cases hs
  rename_i x hx
  split at hx
  case isFalse=>cases hx
  have:=h ((lo+i,j)::p) s (by simp only [aR,hx];exact hs)
  simpa [Nat.add_comm] using this
end Go.Gm
namespace Go.Gm
open Go
variable {R : Type} {w0 w : World} {Mf : Nat → Prop} {g : Gh} {st : St} {a : Act}
theorem Eu (P:Nat→Prop) (t:Ty) (u:Value) (h:∃a cap,u = .slice a 0 cap):fK w P t [] u:=by
 obtain ⟨a,cap,rfl⟩:=h
 refine ⟨fun _=> .slice a 0 cap,rfl,fun p s hs=> ?_⟩
 cases p with
 | nil=>simp only [aR,Option.some.injEq] at hs;subst hs;exact ⟨a,cap,rfl,Nat.zero_le _,fun h=>absurd rfl h⟩
 | cons ij p=>simp [aR] at hs
theorem Inv.oU (I:Inv w0 Mf g st a w) {c:Sc} {q:Option Ty} {k:Cv→Option R} {r:R} {u:Value} (h:oU st c q k=some r) (hc:aZ w g st c u):
    ∃cv,k cv=some r∧pF w (XM g st) cv u:=by
 unfold Gm.oU at h
 split at h
 ·exact ⟨_,h,hc.2⟩
 ·exact ⟨_,h,Eu _ _ _ ⟨none,0,hc.2⟩⟩
 ·exact ⟨_,h,fK.mono (fun k hk=> .inl hk) hc.2⟩
 ·exact ⟨_,h,fK.mono (fun k hk=> .inl hk) (I.kro hc.2)⟩
 ·obtain ⟨ro,hv,h⟩:=da h
  obtain ⟨GA,h⟩:=a8 h
  obtain ⟨s,hs,h⟩:=aQ h
  obtain ⟨hu,ke⟩:=hc.2.2 ro hv.x
  obtain ⟨s',fv⟩:=Option.isSome_iff_exists.1 ke
  have:=cX fv
  rw [hs] at this;cases this
  refine ⟨_,h,_,?_,I.jG hv.1 GA fv⟩
  simpa using hu.symm
 ·obtain ⟨ro,hv,fM,h⟩:=de h
  obtain ⟨GA,h⟩:=a8 h
  obtain ⟨h1,h2,hu⟩:=hc.2.2 ro ⟨.inl hv,fM,gC _ _⟩
  refine ⟨_,h,?_⟩
  simp only [pF,hu]
  exact (I.tree hv GA).cut h1 h2
 ·cases h
def lV (w:World) (g:Gh) (st:St):List Sc→List Value→Prop
 | [],[]=>True
 | c::cs,u::us=>aZ w g st c u∧lV w g st cs us
 | _,_=>False
theorem lV.of:∀ {cs:List Sc} {us:List Value},us.length=cs.length→(∀ (j:Nat) c,cs[j]? =some c→∃z,us[j]? =some z∧aZ w g st c z)→lV w g st cs us
 | [],[],_,_=>trivial
 | [],_::_,h,_=>by simp at h
 | _::_,[],h,_=>by simp at h
 | c::cs,u::us,h,hr=>by
  refine ⟨?_,lV.of (by simpa using h) fun j c' hj=>by simpa using hr (j+1) c' (by simpa using hj)⟩
  obtain ⟨z,hz,hc⟩:=hr 0 c rfl
  simp only [List.getElem?_cons_zero,Option.some.injEq] at hz;subst hz;exact hc
theorem lV.len:∀ {cs:List Sc} {us:List Value},lV w g st cs us→us.length=cs.length
 | [],[],_=>rfl
 | [],_::_,h=>h.elim
 | _::_,[],h=>h.elim
 | _::cs,_::us,h=>by simp [lV.len h.2]
theorem lV.get:∀ {cs:List Sc} {us:List Value},lV w g st cs us→∀(j:Nat) c,cs[j]? =some c→∃z,us[j]? =some z∧aZ w g st c z
 | [],[],_,j,c,h=>by simp at h
 | [],_::_,h,_,_,_=>h.elim
 | _::_,[],h,_,_,_=>h.elim
 | c::cs,u::us,h,j,c',hj=>by
  cases j with
  | zero=>simp only [List.getElem?_cons_zero,Option.some.injEq] at hj;subst hj;exact ⟨u,rfl,h.1⟩
  | succ j=>simpa using lV.get h.2 j c' (by simpa using hj)
theorem cH.l {cs:List Sc} {us:Array Value} (h:cH w g st cs us):lV w g st cs us.toList:=
  lV.of (by simpa using h.1) fun j c hj=>by simpa using h.2 j c hj
theorem lV.arr {cs:List Sc} {us:Array Value} (h:lV w g st cs us.toList):cH w g st cs us:=
 ⟨by simpa using h.len,fun j c hj=>by simpa using h.get j c hj⟩
def iA (w:World) (P:Nat→Prop):List Cv→List Value→Prop
 | [],[]=>True
 | c::cs,u::us=>pF w P c u∧iA w P cs us
 | _,_=>False
theorem iA.len {P:Nat→Prop}:∀ {cs:List Cv} {us:List Value},iA w P cs us→us.length=cs.length
 | [],[],_=>rfl
 | [],_::_,h=>h.elim
 | _::_,[],h=>h.elim
 | _::cs,_::us,h=>by simp [iA.len h.2]
theorem iA.get {P:Nat→Prop}:∀ {cs:List Cv} {us:List Value},iA w P cs us→∀(j:Nat) c,cs[j]? =some c→∃z,us[j]? =some z∧pF w P c z
 | [],[],_,j,c,h=>by simp at h
 | [],_::_,h,_,_,_=>h.elim
 | _::_,[],h,_,_,_=>h.elim
 | c::cs,u::us,h,j,c',hj=>by
  cases j with
  | zero=>simp only [List.getElem?_cons_zero,Option.some.injEq] at hj;subst hj;exact ⟨u,rfl,h.1⟩
  | succ j=>simpa using iA.get h.2 j c' (by simpa using hj)
theorem iA.arr {P:Nat→Prop} {cs:List Cv} {us:Array Value} (h:iA w P cs us.toList):AG w P cs us:=
 ⟨by simpa using h.len,fun j c hj=>by simpa using h.get j c hj⟩
theorem Inv.CP (I:Inv w0 Mf g st a w):∀ {cs:List Sc} {qs:List (Option Ty)} {k:List Cv→Option R} {r:R} {us:List Value},CP st cs qs k=some r→lV w g st cs us→
    ∃cv,k cv=some r∧iA w (XM g st) cv us
 | [],[],k,r,us,h,hc=>by
  cases us with
  | nil=>exact ⟨[],h,trivial⟩
  | cons u us=>exact hc.elim
 | c::cs,q::qs,k,r,us,h,hc=>by
  cases us with
  | nil=>exact hc.elim
  | cons u us=>
   obtain ⟨cv,h1,h2⟩:=I.oU h hc.1
   obtain ⟨AI,h3,h4⟩:=I.CP h1 hc.2
   exact ⟨cv::AI,h3,h2,h4⟩
 | [],_::_,k,r,us,h,hc=>by cases h
 | _::_,[],k,r,us,h,hc=>by cases h
theorem dm {t:Ty} {s:Sv} {cs:List Sc} {u:Value} (h:eV t s=some cs) (hs:dD w g st s u):∃us,Form t u us∧cH w g st cs us:=by
 unfold eV at h
 split at h
 ·rename_i ht
  simp only [Option.some.injEq] at h;subst h
  obtain ⟨us,rfl,hc⟩:=hs
  exact ⟨us,by simp [Form,ht],hc⟩
 ·rename_i ht
  simp only [Option.some.injEq] at h;subst h
  refine ⟨#[u],?_,by simp,fun j c hj=> ?_⟩
  ·simp only [Form,ht,Bool.false_eq_true,if_false,true_and];exact hs.1
  ·cases j with
   | zero=>simp only [List.getElem?_cons_zero,Option.some.injEq] at hj;subst hj;exact ⟨u,rfl,hs⟩
   | succ j=>simp at hj
 ·cases h
theorem Inv.ra (I:Inv w0 Mf g st a w) {t:Ty} {s:Sv} {k:El t→Option R} {r:R} {u:Value} (h:ra st t s k=some r) (hs:dD w g st s u):
    ∃x,k x=some r∧qd w (XM g st) t x u:=by
 obtain ⟨cs,fe,h⟩:=aQ h
 obtain ⟨us,hf,hc⟩:=dm fe hs
 obtain ⟨cv,h1,h2⟩:=I.CP h hc.l
 obtain ⟨x,hx,h3⟩:=aQ h1
 refine ⟨x,h3,us,hf,?_⟩
 rw [← c6 hx]
 exact h2.arr
theorem lQ.roots {aE:St} {c:Sc} {u:Value} (hb:∀b,(ax st.boxes b).isSome→(ax aE.boxes b).isSome)
 (hv:∀id ver iv,cJ st id ver iv→cJ aE id ver iv) (hr:∀id ver iv p r,cJ st id ver iv→Vx aE id ver iv p r→Vx st id ver iv p r) (h:lQ w g st c u):lQ w g aE c u:=by
 cases c with
 | h id ver iv p=>exact ⟨hv _ _ _ h.1,fun r kF=>h.2 r (hr _ _ _ _ _ h.1 kF)⟩
 | vw id ver lo hi=>exact ⟨hv _ _ _ h.1,fun r kF=>h.2 r (hr _ _ _ _ _ h.1 kF)⟩
 | pe id ver iv p i off=>exact ⟨hv _ _ _ h.1,fun r kF=>h.2 r (hr _ _ _ _ _ h.1 kF)⟩
 | pt b off=>exact ⟨h.1,hb _ h.2⟩
 | fH fn bs=>exact ⟨h.1,fun b hm=>hb _ (h.2 b hm)⟩
 | _=>exact h
theorem cH.map {g':Gh} {w':World} {aE:St} {cs:List Sc} {us:Array Value} (hm:∀c u,aZ w g st c u→aZ w' g' aE c u) (h:cH w g st cs us):cH w' g' aE cs us:=
 ⟨h.1,fun j c hj=>let ⟨z,hz,hc⟩:=h.2 j c hj;⟨z,hz,hm _ _ hc⟩⟩
theorem ix.map {g':Gh} {w':World} {aE:St} {x:Cm} {u:Value} (hm:∀c u,aZ w g st c u→aZ w' g' aE c u) (h:ix w g st x u):ix w' g' aE x u:=by
 cases x with
 | one c=>exact hm _ _ h
 | agg cs=>obtain ⟨us,rfl,hc⟩:=h;exact ⟨us,rfl,hc.map hm⟩
theorem dD.map {g':Gh} {w':World} {aE:St} {x:Sv} {u:Value} (hm:∀c u,aZ w g st c u→aZ w' g' aE c u) (h:dD w g st x u):dD w' g' aE x u:=by
 cases x with
 | c x=>exact ix.map hm h
 | xx vs=>obtain ⟨us,rfl,hl,hc⟩:=h;exact ⟨us,rfl,hl,fun j x hj=>let ⟨z,hz,h⟩:=hc j x hj;⟨z,hz,h.map hm⟩⟩
theorem Inv.drop (I:Inv w0 Mf g st a w) {id:Nat} {r:cB} (h:ax st.roots id=some (.live r)):
    Inv w0 Mf g { st with roots:=aX st.roots id (.gone r.ver) } a w:=by
 have hm:∀c u,aZ w g st c u→aZ w g { st with roots:=aX st.roots id (.gone r.ver) } c u:=fun c u hc=>
  ⟨hc.1,lQ.roots (st:=st) (fun b hb=>hb)
   (fun aH ver iv hv=>by
    unfold cJ at hv ⊢
    simp only [aF]
    by_cases hid:aH=id
    ·subst hid;simp only [h] at hv;simp only [if_true];omega
    ·simpa [hid] using hv)
   (fun aH ver iv p r' _ hv=>by
    obtain ⟨h1,h2,h3⟩:=hv
    simp only [aF] at h1
    by_cases hid:aH=id
    ·simp [hid] at h1
    ·exact ⟨by simpa [hid] using h1,h2,h3⟩) hc.2⟩
 have ho:∀aH,aP { st with roots:=aX st.roots id (.gone r.ver) } aH→aP st aH:=fun aH ⟨r',h1,h2⟩=>by
  simp only [aF] at h1
  by_cases hid:aH=id
  ·simp [hid] at h1
  ·exact ⟨r',by simpa [hid] using h1,h2⟩
 exact {
  aA:=fun s sv hs=>let ⟨u,hu,hr⟩:=I.aA s sv hs;⟨u,hu,hr.map hm⟩
  boxes:=fun b x hb=>let ⟨us,el,h1,h2⟩:=I.boxes b x hb;⟨us,el,h1,h2.map hm⟩
  roots:=fun aH r' hr=>I.roots aH r' (by
   simp only [aF] at hr
   by_cases hid:aH=id
   ·simp [hid] at hr
   ·simpa [hid] using hr)
  apart:={
   rr:=fun i i' k h1 h2=>I.apart.rr i i' k (ho _ h1) (ho _ h2)
   rb:=fun i b h1 h2=>I.apart.rb i b (ho _ h1) h2
   bb:=I.apart.bb
   dZ:=fun i k h1=>I.apart.dZ i k (ho _ h1)
   fL:=I.apart.fL
   ck:=fun i k h1=>I.apart.ck i k (ho _ h1)
   dA:=I.apart.dA
   eb:=fun i k h1=>I.apart.eb i k (ho _ h1)
   c7:=I.apart.c7
   bU:=I.apart.bU }
  kept:=I.kept
  defers:=I.defers
  size:=I.size
  base:=⟨I.base.wl,I.base.ap,I.base.ro⟩ }
theorem bc {α:Type}:∀(l u v:List (Nat×α)),cg l (u++v)=cg (cg l u) v
 | _,[],_=>rfl
 | l,(n,x)::u,v=>by simp only [List.cons_append,cg];exact bc _ u v
inductive mB (w:World) (ro:Nat→Prop):List Cv→List Value→List (Nat→Prop)→Bool→Prop where
 | nil:mB w ro [] [] [] true
 | cons {c cs u us F Fs d d'} (hr:pF w (fun k=>F k∨ro k) c u) (ho:d=true→iO w F c u) (hs:mB w ro cs us Fs d'):mB w ro (c::cs) (u::us) (F::Fs) (d&&d')
structure jW (w:World) (g:Gh) (st aE:St) (eX:List (Nat×Rt)) (Fs:List (Nat→Prop)):Prop where
 eq:aE={ st with roots:=cg st.roots eX }
 own:∀id,aP aE id→aP st id
 map:∀c u,aZ w g st c u→aZ w g aE c u
 apart:bR Fs
 src:∀F∈Fs,∀k,F k→∃id,aP st id∧g.rf id k
 off:∀F∈Fs,∀k,F k→∀id,aP aE id→ ¬g.rf id k
 live:∀id r,ax aE.roots id=some (.live r)→ax st.roots id=some (.live r)
 dj:∀id r,ax st.roots id=some (.dj r)→ax aE.roots id=some (.dj r)
theorem jW.refl (w:World) (g:Gh) (st:St):jW w g st st [] []:=
 ⟨rfl,fun _ h=>h,fun _ _ h=>h,List.Pairwise.nil,by simp,by simp,fun _ _ h=>h,fun _ _ h=>h⟩
theorem jW.trans {s1 s2 s3:St} {u v:List (Nat×Rt)} {Fs Gs:List (Nat→Prop)} (h:jW w g s1 s2 u Fs) (k:jW w g s2 s3 v Gs):jW w g s1 s3 (u++v) (Fs++Gs):=by
 refine ⟨?_,fun id hi=>h.own id (k.own id hi),fun c u hc=>k.map c u (h.map c u hc),?_,?_,?_,fun id r hr=>h.live id r (k.live id r hr),fun id r hr=>k.dj id r (h.dj id r hr)⟩
 ·rw [k.eq,h.eq,bc]
 ·refine List.pairwise_append.2 ⟨h.apart,k.apart,fun F hF G hG n hn Pn=> ?_⟩
  obtain ⟨id,hid,nr⟩:=k.src G hG n Pn
  exact h.off F hF n hn id hid nr
 ·intro F hF n hn
  rcases List.mem_append.1 hF with hF | hF
  ·exact h.src F hF n hn
  ·obtain ⟨id,hid,nr⟩:=k.src F hF n hn
   exact ⟨id,h.own id hid,nr⟩
 ·intro F hF n hn id hid
  rcases List.mem_append.1 hF with hF | hF
  ·exact h.off F hF n hn id (k.own id hid)
  ·exact k.off F hF n hn id hid
theorem Inv.AJ (I:Inv w0 Mf g st a w) {id:Nat} {r:cB} (h:ax st.roots id=some (.live r)) (hm:r.md.cr=false):
    jW w g st { st with roots:=aX st.roots id (.gone r.ver) } [(id,.gone r.ver)] [g.rf id]:=by
 have ho:∀aH,aP { st with roots:=aX st.roots id (.gone r.ver) } aH→aP st aH∧aH≠id:=fun aH ⟨r',h1,h2⟩=>by
  simp only [aF] at h1
  by_cases hid:aH=id
  ·simp [hid] at h1
  ·exact ⟨⟨r',by simpa [hid] using h1,h2⟩,hid⟩
 have eG:aP st id:=⟨r,h,hm⟩
 refine ⟨rfl,fun aH h'=>(ho aH h').1,fun c u hc=> ?_,List.pairwise_singleton _ _,?_,?_,fun aH r' h'=>by
  simp only [aF] at h'
  by_cases hid:aH=id
  ·simp [hid] at h'
  ·simpa [hid] using h',fun aH r' h'=>by
  simp only [aF]
  by_cases hid:aH=id
  ·subst hid;rw [h] at h';cases h'
  ·simpa [hid] using h'⟩
 ·exact ⟨hc.1,lQ.roots (st:=st) (fun b hb=>hb)
   (fun aH ver iv hv=>by
    unfold cJ at hv ⊢
    simp only [aF]
    by_cases hid:aH=id
    ·subst hid;simp only [h] at hv;simp only [if_true];omega
    ·simpa [hid] using hv)
   (fun aH ver iv p r' _ hv=>by
    obtain ⟨h1,h2,h3⟩:=hv
    simp only [aF] at h1
    by_cases hid:aH=id
    ·simp [hid] at h1
    ·exact ⟨by simpa [hid] using h1,h2,h3⟩) hc.2⟩
 ·intro F hF k hk
  simp only [List.mem_singleton] at hF;subst hF
  exact ⟨id,eG,hk⟩
 ·intro F hF k hk aH It pH
  simp only [List.mem_singleton] at hF;subst hF
  obtain ⟨h1,h2⟩:=ho aH It
  exact h2 (I.apart.rr aH id k h1 eG pH hk)
theorem Iu {sz:Nat} {v:Value} {lo hi:Nat} {k:Nat} (h:q6 (lr sz v lo hi)=some k):q6 v=some k:=by
 unfold lr at h
 split at h
 ·rename_i a n cap
  cases a with
  | none=>split at h<;>simp [q6] at h
  | some a=>
   split at h
   ·exact h
   ·simp only [Option.map_some,q6] at h ⊢
    rw [← h];unfold Addr.add;split<;>rfl
 ·exact h
theorem bB.cut {F:Nat→Prop} {t:Ty} {xs:List (El t)} {v:Value} {eW:Nat→Nat→Value} (h:bB w F t xs v eW) {lo hi:Nat} (h1:lo≤hi) (h2:hi≤xs.length):
    bB w F t ((xs.take hi).drop lo) (lr (aD t) v lo hi) fun i j=>eW (i+lo) j:=by
 have hlen:((xs.take hi).drop lo).length=hi-lo:=by simp;omega
 rcases h with ⟨rfl,rfl⟩ | ⟨b,o,cap,cs,el,rfl,hF,hb,hc,hs,hr⟩
 ·simp only [List.length_nil] at h2
  have:hi=0:=by omega
  subst this
  have:lo=0:=by omega
  subst this
  exact .inl ⟨by simp,rfl⟩
 ·have ho:∃o',(if cap=lo then (some ⟨b,o,none⟩:Option Addr) else (some (⟨b,o,none⟩:Addr)).map (·.add (lo*aD t)))=some ⟨b,o',none⟩∧(o'=o+lo*aD t∨(o'=o∧cap=lo)):=by
   by_cases yR:cap=lo
   ·rw [if_pos yR];exact ⟨o,rfl,.inr ⟨rfl,yR⟩⟩
   ·rw [if_neg yR]
    simp only [Option.map_some,Addr.add]
    split
    ·rename_i h0;exact ⟨_,rfl,.inl (by omega)⟩
    ·exact ⟨_,rfl,.inl rfl⟩
  obtain ⟨o',yQ,hoo⟩:=ho
  refine .inr ⟨b,o',cap-lo,cs,el,by simp only [lr,yQ,hlen],hF,hb,by rw [hlen];omega,?_,?_⟩
  ·rcases hoo with rfl | ⟨rfl,rfl⟩
   ·have:lo*aD t+(cap-lo)*aD t=cap*aD t:=by rw [← Nat.add_mul];congr 1;omega
    omega
   ·rw [Nat.sub_self,Nat.zero_mul];omega
  ·intro i y j c hy lR
   simp only [iz] at hy
   split at hy
   ·rename_i mZ
    obtain ⟨u,hu,kE⟩:=hr (lo+i) y j c hy lR
    have ab4:o'=o+lo*aD t:=by rcases hoo with h | ⟨_,h⟩<;>omega
    refine ⟨u,?_,?_⟩
    ·rw [← hu,ab4];congr 1;simp only [Nat.add_mul];omega
    ·simpa [Nat.add_comm] using kE
   ·cases hy
theorem tJ {t:Ty} {xs:List (El t)} {lo hi i j:Nat} {p:Path} {s:Sl} (h:aR t ((xs.take hi).drop lo) ((i,j)::p)=some s):aR t xs ((i+lo,j)::p)=some s:=by
 simp only [aR,iz] at h ⊢
 split at h
 case h_2=>cases h
 rename_i x hx
 split at hx
 case isFalse=>cases hx
 rw [Nat.add_comm i lo,hx]
 exact h
theorem bo.cut {F:Nat→Prop} {t:Ty} {xs:List (El t)} {av:Path→Value} (h:bo w F t xs av) {lo hi:Nat} (h1:lo≤hi) (h2:hi≤xs.length):
    kb w F t ((xs.take hi).drop lo) (lr (aD t) (av []) lo hi):=by
 let f:Path→Path:=fun p=>match p with | []=>[] | (i,j)::p=>(i+lo,j)::p
 have hf:∀p q,f p=f q→p=q:=by
  intro p q h
  cases p with
  | nil=>cases q with
   | nil=>rfl
   | cons y q=>simp [f] at h
  | cons x p=>cases q with
   | nil=>simp [f] at h
   | cons y q=>
    obtain ⟨i,j⟩:=x
    obtain ⟨i',j'⟩:=y
    simp only [f,List.cons.injEq,Prod.mk.injEq] at h
    obtain ⟨⟨h1,rfl⟩,rfl⟩:=h
    rw [show i=i' by omega]
 refine ⟨fun p=>match p with | []=>lr (aD t) (av []) lo hi | (i,j)::p=>av ((i+lo,j)::p),rfl,fun p s hs=> ?_,fun p q s s' k hp hq hk pH=> ?_⟩
 ·cases p with
  | nil=>
   simp only [aR,Option.some.injEq] at hs
   subst hs
   exact (h.1 [] ⟨t,xs⟩ rfl).cut h1 h2
  | cons ij p=>
   obtain ⟨i,j⟩:=ij
   exact h.1 _ s (tJ hs)
 ·have go:∀p s k,aR t ((xs.take hi).drop lo) p=some s→q6 (match p with | []=>lr (aD t) (av []) lo hi | (i,j)::p=>av ((i+lo,j)::p))=some k→(∃ s0,aR t xs (f p)=some s0)∧q6 (av (f p))=some k:=by
   intro p s k hp hk
   cases p with
   | nil=>exact ⟨⟨_,rfl⟩,Iu hk⟩
   | cons ij p=>obtain ⟨i,j⟩:=ij;exact ⟨⟨_,tJ hp⟩,hk⟩
  obtain ⟨⟨s1,e1⟩,e2⟩:=go p s k hp hk
  obtain ⟨⟨s2,e3⟩,e4⟩:=go q s' k hq pH
  exact hf p q (h.2 _ _ _ _ k e1 e3 e2 e4)
theorem Inv.jO (I:Inv w0 Mf g st a w) {c:Sc} {q:Option Ty} {k:Cv→Bool→St→List (Nat×Rt)→Option R} {r:R} {u:Value} (h:jO st c q k=some r) (hc:aZ w g st c u):
    ∃cv d aE eX F,k cv d aE eX=some r∧Inv w0 Mf g aE a w∧jW w g st aE eX [F]∧pF w (fun k=>F k∨g.ro k) cv u∧(d=true→iO w F cv u):=by
 have T0:jW w g st st [] [fun _=>False]:=
  ⟨rfl,fun _ h=>h,fun _ _ h=>h,List.pairwise_singleton _ _,fun F hF k hk=>by simp only [List.mem_singleton] at hF;subst hF;exact hk.elim,
   fun F hF k hk=>by simp only [List.mem_singleton] at hF;subst hF;exact hk.elim,fun _ _ h=>h,fun _ _ h=>h⟩
 unfold Gm.jO at h
 split at h
 ·exact ⟨_,_,_,_,_,h,I,T0,hc.2,fun _=>hc.2⟩
 ·rename_i t _
  refine ⟨_,_,_,_,_,h,I,T0,Eu _ _ _ ⟨none,0,hc.2⟩,fun _=>⟨fun _=> .slice none 0 0,hc.2.symm,?_,?_⟩⟩
  ·intro p s hs
   cases p with
   | nil=>simp only [aR,Option.some.injEq] at hs;subst hs;exact .inl ⟨rfl,rfl⟩
   | cons ij p=>simp [aR] at hs
  ·intro p q s s' b _ _ hb _;simp [q6] at hb
 ·exact ⟨_,_,_,_,_,h,I,T0,fK.mono (fun k hk=> .inr hk) hc.2,fun h=>by cases h⟩
 ·exact ⟨_,_,_,_,_,h,I,T0,fK.mono (fun k hk=> .inr hk) (I.kro hc.2),fun h=>by cases h⟩
 ·rename_i id ver iv t
  obtain ⟨ro,hv,fM,h⟩:=de h
  obtain ⟨GA,h⟩:=a8 h
  obtain ⟨hu,_⟩:=hc.2.2 ro ⟨.inl hv,fM,gC _ _⟩
  cases hm:ro.md.cr
  ·simp only [hm,cond_false] at h
   rw [← fM] at h
   refine ⟨_,_,_,_,g.rf id,h,I.drop hv,I.AJ hv hm,?_,?_⟩
   ·have hr:=I.roots id ro hv
    refine ⟨g.rv id,hu.symm,?_⟩
    unfold aS at hr
    split at hr
    ·exact hr.rd.mono fun k=> .inl
    ·exact hr.rd
    ·rename_i cI;simp [cI,Md.cr] at hm
    ·rename_i kk cI;rw [cI] at GA;cases kk<;>cases GA
   ·intro hd
    have hr:=I.roots id ro hv
    unfold aS at hr
    split at hr
    ·exact ⟨g.rv id,hu.symm,hr⟩
    ·rename_i cI;simp [cI,Md.bK] at hd
    ·rename_i cI;simp [cI,Md.bK] at hd
    ·rename_i cI;simp [cI,Md.bK] at hd
  ·simp only [hm,cond_true] at h
   refine ⟨_,_,_,_,_,h,I,T0,?_,fun h=>by cases h⟩
   have hr:=I.roots id ro hv
   unfold aS at hr
   split at hr
   ·rename_i cI;simp [cI,Md.cr] at hm
   ·rename_i cI;simp [cI,Md.cr] at hm
   ·exact ⟨g.rv id,hu.symm,hr.mono fun k=> .inr⟩
   ·rename_i cI;simp [cI,Md.cr] at hm
 ·rename_i id ver lo hi t
  obtain ⟨ro,hv,fM,h⟩:=de h
  obtain ⟨GA,h⟩:=a8 h
  obtain ⟨Ic,Tf,hu⟩:=hc.2.2 ro ⟨.inl hv,fM,gC _ _⟩
  cases hm:ro.md.cr
  ·simp only [hm,cond_false] at h
   rw [← fM] at h
   refine ⟨_,_,_,_,g.rf id,h,I.drop hv,I.AJ hv hm,?_,?_⟩
   ·have hr:=I.roots id ro hv
    rw [hu]
    unfold aS at hr
    split at hr
    ·exact (hr.rd.mono fun k=> .inl).cut Ic Tf
    ·exact hr.rd.cut Ic Tf
    ·rename_i cI;simp [cI,Md.cr] at hm
    ·rename_i kk cI;rw [cI] at GA;cases kk<;>cases GA
   ·intro hd
    have hr:=I.roots id ro hv
    rw [hu]
    unfold aS at hr
    split at hr
    ·exact hr.cut Ic Tf
    ·rename_i cI;simp [cI,Md.bK] at hd
    ·rename_i cI;simp [cI,Md.bK] at hd
    ·rename_i cI;simp [cI,Md.bK] at hd
  ·simp only [hm,cond_true] at h
   refine ⟨_,_,_,_,_,h,I,T0,?_,fun h=>by cases h⟩
   have hr:=I.roots id ro hv
   rw [hu]
   unfold aS at hr
   split at hr
   ·rename_i cI;simp [cI,Md.cr] at hm
   ·rename_i cI;simp [cI,Md.cr] at hm
   ·exact (hr.mono fun k=> .inr).cut Ic Tf
   ·rename_i cI;simp [cI,Md.cr] at hm
 ·cases h
theorem lV.map {g':Gh} {w':World} {aE:St} (hm:∀c u,aZ w g st c u→aZ w' g' aE c u):∀ {cs:List Sc} {us:List Value},lV w g st cs us→lV w' g' aE cs us
 | [],[],_=>trivial
 | [],_::_,h=>h.elim
 | _::_,[],h=>h.elim
 | _::_,_::_,h=>⟨hm _ _ h.1,lV.map hm h.2⟩
theorem Inv.pE:∀ {cs:List Sc} {st:St} {qs:List (Option Ty)} {k:List Cv→Bool→St→List (Nat×Rt)→Option R} {r:R} {us:List Value},Inv w0 Mf g st a w→
    pE st cs qs k=some r→lV w g st cs us→
    ∃cv d aE eX Fs,k cv d aE eX=some r∧Inv w0 Mf g aE a w∧jW w g st aE eX Fs∧mB w g.ro cv us Fs d
 | [],st,[],k,r,us,I,h,hc=>by
  cases us with
  | nil=>exact ⟨[],true,st,[],[],h,I,jW.refl _ _ _,.nil⟩
  | cons u us=>exact hc.elim
 | c::cs,st,q::qs,k,r,us,I,h,hc=>by
  cases us with
  | nil=>exact hc.elim
  | cons u us=>
   obtain ⟨cv,d,s1,u1,F,h1,I1,T1,hr,ho⟩:=I.jO h hc.1
   obtain ⟨AI,d2,s2,u2,Fs,h2,I2,T2,hA⟩:=Inv.pE I1 h1 (hc.2.map T1.map)
   exact ⟨_,_,_,_,_,h2,I2,T1.trans T2,.cons hr ho hA⟩
 | [],_,_::_,k,r,us,I,h,hc=>by cases h
 | _::_,_,[],k,r,us,I,h,hc=>by cases h
theorem mB.len {ro:Nat→Prop} {cs:List Cv} {us:List Value} {Fs:List (Nat→Prop)} {d:Bool} (h:mB w ro cs us Fs d):us.length=cs.length∧Fs.length=cs.length:=by
 induction h with
 | nil=>exact ⟨rfl,rfl⟩
 | cons _ _ _ ih=>simp [ih.1,ih.2]
def Any (Fs:List (Nat→Prop)) (k:Nat):Prop:=∃F∈Fs,F k
theorem mB.rd {ro:Nat→Prop} {cs:List Cv} {us:List Value} {Fs:List (Nat→Prop)} {d:Bool} (h:mB w ro cs us Fs d):iA w (fun k=>Any Fs k∨ro k) cs us:=by
 induction h with
 | nil=>trivial
 | cons hr ho hs ih=>
  refine ⟨hr.mono fun k hk=>hk.imp (fun h=>⟨_,List.mem_cons_self,h⟩) id,?_⟩
  have:∀ {P Q:Nat→Prop} {cs:List Cv} {us:List Value},(∀ k,P k→Q k)→iA w P cs us→iA w Q cs us:=by
   intro P Q cs
   induction cs with
   | nil=>intro us xE h;cases us<;>first | trivial | exact h.elim
   | cons c cs ih=>intro us xE h;cases us with | nil=>exact h.elim | cons u us=>exact ⟨h.1.mono xE,ih xE h.2⟩
  exact this (fun k hk=>hk.imp (fun ⟨F,hF,h⟩=>⟨F,List.mem_cons_of_mem _ hF,h⟩) id) ih
theorem mB.own {ro:Nat→Prop} {cs:List Cv} {us:List Value} {Fs:List (Nat→Prop)} {d:Bool} (h:mB w ro cs us Fs d) (hd:d=true):
    ∀(j:Nat) c,cs[j]? =some c→∃z F,us[j]? =some z∧Fs[j]? =some F∧iO w F c z:=by
 induction h with
 | nil=>intro j c h;simp at h
 | cons hr ho hs ih=>
  simp only [Bool.and_eq_true] at hd
  intro j c hj
  cases j with
  | zero=>simp only [List.getElem?_cons_zero,Option.some.injEq] at hj;subst hj;exact ⟨_,_,rfl,rfl,ho hd.1⟩
  | succ j=>simpa using ih hd.2 j c (by simpa using hj)
theorem mB.row {ro:Nat→Prop} {cs:List Cv} {us:List Value} {Fs:List (Nat→Prop)} {d:Bool} (h:mB w ro cs us Fs d) (hd:d=true) (hp:bR Fs):
    lu w (Any Fs) cs us.toArray:=by
 refine ⟨fun j k=>∃F,Fs[j]? =some F∧F k,fun j k ⟨F,h1,h2⟩=>⟨F,List.mem_of_getElem? h1,h2⟩,?_,by simpa using h.len.1,?_⟩
 ·intro j j' k ⟨F,h1,h2⟩ ⟨G,h3,h4⟩
  have:=List.pairwise_iff_getElem.1 hp
  obtain ⟨hj,rfl⟩:=List.getElem?_eq_some_iff.1 h1
  obtain ⟨CQ,rfl⟩:=List.getElem?_eq_some_iff.1 h3
  rcases Nat.lt_trichotomy j j' with ct | heq | ct
  ·exact (this j j' hj CQ ct k h2 h4).elim
  ·exact heq
  ·exact (this j' j CQ hj ct k h4 h2).elim
 ·intro j c hj
  obtain ⟨z,F,h1,h2,h3⟩:=h.own hd j c hj
  refine ⟨z,by simpa using h1,?_⟩
  cases c with
  | v x=>exact h3
  | l t xs=>
   obtain ⟨av,h4,h5⟩:=h3
   exact ⟨av,h4,h5.mono fun k hk=>⟨F,h2,hk⟩⟩
theorem Inv.CR (I:Inv w0 Mf g st a w) {dst:Option Nat} (hd:∀d,dst=some d→d<g.n.sz) {s:Sv} {v:Value} (hs:dD w g st s v):
    Inv w0 Mf g (st.apply { slot:=dst.map fun d=>(d,s) }) (a.put dst v) w:=by
 cases dst with
 | none=>exact { I with }
 | some d=>
  have ct:=hd d rfl
  exact {
   aA:=fun n sv hn=>by
    simp only [St.apply,Option.map_some,aF] at hn
    by_cases GB:n=d
    ·subst GB
     simp only [if_true,Option.some.injEq] at hn;subst hn
     refine ⟨v,?_,hs⟩
     simp only [Act.put]
     rw [Array.getElem?_setIfInBounds_self_of_lt (by rw [I.size];exact ct)]
    ·simp only [GB,if_false] at hn
     obtain ⟨u,hu,hr⟩:=I.aA n sv hn
     refine ⟨u,?_,hr⟩
     simp only [Act.put]
     rw [Array.getElem?_setIfInBounds_ne (Ne.symm GB)];exact hu
   boxes:=I.boxes
   roots:=I.roots
   apart:={ I.apart with }
   kept:=I.kept
   defers:=by simp only [Act.put];exact I.defers
   size:=by simp only [Act.put,Array.size_setIfInBounds];exact I.size
   base:=⟨I.base.wl,I.base.ap,I.base.ro⟩ }
theorem lQ.world {w':World} {X:Nat→Prop} (hs:bH X w w') (hr:∀k,g.ro k→ ¬X k) {c:Sc} {u:Value} (h:lQ w g st c u):lQ w' g st c u:=by
 have Yf:∀t (x:El t) off u,iQ w g.ro t x off u→iQ w' g.ro t x off u:=fun t x off u ⟨b,o,cs,el,fz,h1,h2,h3,h4⟩=>
  ⟨b,o,cs,el,fz,h1,h2,hs.get h3 (hr _ h2),fun j c hj=>let ⟨z,hz,hc⟩:=h4 j c hj;⟨z,hz,hc.same hs hr⟩⟩
 cases c with
 | ro t xs=>exact fK.same hs hr h
 | rp t x off=>exact Yf _ _ _ _ h
 | oT fn ys=>obtain ⟨ps,h1,h2,h3⟩:=h;exact ⟨ps,h1,h2,fun i y q hy hq=>Yf _ _ _ _ (h3 i y q hy hq)⟩
 | _=>exact h
theorem Kept.refl (w:World) (Mf:Nat→Prop):Kept w w Mf:=⟨rfl,rfl,rfl,⟨Nat.le_refl _,fun _ _ _=>rfl⟩⟩
theorem Inv.world (I:Inv w0 Mf g st a w) {w':World} {X:Nat→Prop} (hs:bH X w w') (cZ:∀k,g.ro k→ ¬X k) (nr:∀id k,aP st id→g.rf id k→ ¬X k)
 (yS:∀b,bA st b→ ¬X (g.bx b)) (hk:Kept w0 w' Mf):Inv w0 Mf g st a w':={
 aA:=fun s sv h=>let ⟨u,hu,hr⟩:=I.aA s sv h;⟨u,hu,hr.map fun c u hc=>⟨hc.1,hc.2.world hs cZ⟩⟩
 boxes:=fun b x h=>let ⟨us,el,h1,h2⟩:=I.boxes b x h;⟨us,el,hs.get h1 (yS b (by simp [bA,h])),h2.map fun c u hc=>⟨hc.1,hc.2.world hs cZ⟩⟩
 roots:=fun id r h=>by
  have hr:=I.roots id r h
  unfold aS at hr ⊢
  split at hr
  ·rename_i hm;exact hr.same hs (nr id · ⟨r,h,by rw [hm];rfl⟩)
  ·rename_i hm;exact hr.same hs (nr id · ⟨r,h,by rw [hm];rfl⟩) cZ
  ·exact hr.same hs cZ
  ·rename_i hm;exact hr.same hs (nr id · ⟨r,h,by rw [hm];rfl⟩)
 apart:={ I.apart with
  eb:=fun id k h1 h2=>Nat.lt_of_lt_of_le (I.apart.eb id k h1 h2) hs.1
  c7:=fun k h=>Nat.lt_of_lt_of_le (I.apart.c7 k h) hs.1
  bU:=I.apart.bU }
 kept:=hk
 defers:=I.defers
 size:=I.size
 base:=⟨I.base.wl,I.base.ap,I.base.ro⟩ }
theorem lQ.ro {G:Nat→Prop} (hG:∀k,g.ro k→G k) {c:Sc} {u:Value} (h:lQ w g st c u):lQ w { g with ro:=G } st c u:=by
 have Yf:∀t (x:El t) off u,iQ w g.ro t x off u→iQ w G t x off u:=fun t x off u ⟨b,o,cs,el,fz,h1,h2,h3,h4⟩=>
  ⟨b,o,cs,el,fz,h1,hG _ h2,h3,fun j c hj=>let ⟨z,hz,hc⟩:=h4 j c hj;⟨z,hz,hc.mono hG⟩⟩
 cases c with
 | ro t xs=>exact fK.mono hG h
 | rp t x off=>exact Yf _ _ _ _ h
 | oT fn ys=>obtain ⟨ps,h1,h2,h3⟩:=h;exact ⟨ps,h1,h2,fun i y q hy hq=>Yf _ _ _ _ (h3 i y q hy hq)⟩
 | _=>exact h
theorem Inv.Iv (I:Inv w0 Mf g st a w) {G:Nat→Prop} (hG:∀k,g.ro k→G k) (hr:∀id k,aP st id→g.rf id k→ ¬G k) (hb:∀b,bA st b→ ¬G (g.bx b))
    (ct:∀k,G k→k<w.heap.size) (hm:∀k,G k→g.n.r0 k∨w0.heap.size≤k∨Mf k):Inv w0 Mf { g with ro:=G } st a w:={
 aA:=fun s sv h=>let ⟨u,hu,hr⟩:=I.aA s sv h;⟨u,hu,hr.map fun c u hc=>⟨hc.1,hc.2.ro hG⟩⟩
 boxes:=fun b x h=>let ⟨us,el,h1,h2⟩:=I.boxes b x h;⟨us,el,h1,h2.map fun c u hc=>⟨hc.1,hc.2.ro hG⟩⟩
 roots:=fun id r h=>by
  have hr:=I.roots id r h
  unfold aS at hr ⊢
  split at hr
  ·exact hr
  ·exact ⟨hr.1,fun p s hp hs=>(hr.2 p s hp hs).mono hG⟩
  ·exact hr.mono hG
  ·exact hr
 apart:={ I.apart with
  dZ:=fun id k h1 h2=>hr id k h1 h2
  fL:=hb
  c7:=ct
  bU:=hm }
 kept:=I.kept
 defers:=I.defers
 size:=I.size
 base:=⟨I.base.wl,I.base.ap,fun k h=>hG k (I.base.ro k h)⟩ }
def Gh.b8 (g:Gh) (id:Nat) (av:Path→Value) (F:Nat→Prop):Gh:=
  { g with rv:=fun i=>if i=id then av else g.rv i,rf:=fun i=>if i=id then F else g.rf i }
def dv (st:St) (id:Nat) (r:cB):Prop:=
  match ax st.roots id with
 | none=>True
 | some (.gone v)=>v<r.ver
 | some (.live r')=>r'.ver<r.ver
 | some (.dj r')=>r'.ver<r.ver
theorem lQ.b8 {id:Nat} {r:cB} (hf:dv st id r) {av:Path→Value} {F:Nat→Prop} {c:Sc} {u:Value} (h:lQ w g st c u):
    lQ w (g.b8 id av F) { st with roots:=aX st.roots id (.live r) } c u:=by
 have hv:∀aH ver iv,cJ st aH ver iv→cJ { st with roots:=aX st.roots id (.live r) } aH ver iv:=by
  intro aH ver iv hv
  unfold cJ at hv ⊢
  simp only [aF]
  by_cases hid:aH=id
  ·subst hid
   simp only [if_true]
   unfold dv at hf
   split at hv
   ·rename_i h;simp only [h] at hf;omega
   ·rename_i h;simp only [h] at hf;omega
   ·rename_i h;simp only [h] at hf;omega
   ·exact hv.elim
  ·simpa [hid] using hv
 have dP:∀aH ver iv p r',cJ st aH ver iv→Vx { st with roots:=aX st.roots id (.live r) } aH ver iv p r'→aH≠id∧Vx st aH ver iv p r':=by
  intro aH ver iv p r' Yg ⟨h1,h2,h3⟩
  simp only [aF] at h1
  by_cases hid:aH=id
  ·subst hid
   simp only [if_true,Option.some.injEq,Rt.live.injEq,reduceCtorEq,or_false] at h1
   subst h1
   unfold dv at hf
   unfold cJ at Yg
   split at Yg
   ·rename_i h;simp only [h] at hf;omega
   ·rename_i h;simp only [h] at hf;omega
   ·rename_i h;simp only [h] at hf;omega
   ·exact Yg.elim
  ·exact ⟨hid,by simpa [hid] using h1,h2,h3⟩
 cases c with
 | h aH ver iv p=>
  refine ⟨hv _ _ _ h.1,fun r' kF=> ?_⟩
  obtain ⟨hid,Yh⟩:=dP _ _ _ _ _ h.1 kF
  simpa [Gh.b8,hid] using h.2 r' Yh
 | vw aH ver lo hi=>
  refine ⟨hv _ _ _ h.1,fun r' kF=> ?_⟩
  obtain ⟨hid,Yh⟩:=dP _ _ _ _ _ h.1 kF
  simpa [Gh.b8,hid] using h.2 r' Yh
 | pe aH ver iv p i off=>
  refine ⟨hv _ _ _ h.1,fun r' kF=> ?_⟩
  obtain ⟨hid,Yh⟩:=dP _ _ _ _ _ h.1 kF
  simpa [Gh.b8,hid] using h.2 r' Yh
 | _=>exact h
theorem Inv.b8 (I:Inv w0 Mf g st a w) {id:Nat} {r:cB} (hf:dv st id r) {av:Path→Value} {F:Nat→Prop}
 (hr:aS w (g.b8 id av F) id r)
 (hF:∀k,F k→(∀ aH,aP st aH→aH≠id→ ¬g.rf aH k)∧ ¬g.ro k∧(∀ b,bA st b→g.bx b≠k)∧(w0.heap.size≤k∨Mf k)∧k<w.heap.size):
    Inv w0 Mf (g.b8 id av F) { st with roots:=aX st.roots id (.live r) } a w:=by
 have ho:∀aH,aP { st with roots:=aX st.roots id (.live r) } aH→aH≠id→aP st aH:=fun aH ⟨r',h1,h2⟩ hid=>
  ⟨r',by simpa [aF,hid] using h1,h2⟩
 exact {
  aA:=fun s sv h=>let ⟨u,hu,hr⟩:=I.aA s sv h;⟨u,hu,hr.map fun c u hc=>⟨hc.1,hc.2.b8 hf⟩⟩
  boxes:=fun b x h=>let ⟨us,el,h1,h2⟩:=I.boxes b x h;⟨us,el,h1,h2.map fun c u hc=>⟨hc.1,hc.2.b8 hf⟩⟩
  roots:=fun aH r' h=>by
   simp only [aF] at h
   by_cases hid:aH=id
   ·subst hid;simp only [if_true,Option.some.injEq,Rt.live.injEq] at h;subst h;exact hr
   ·have:=I.roots aH r' (by simpa [hid] using h)
    unfold aS at this ⊢
    simpa [Gh.b8,hid] using this
  apart:={
   rr:=fun i i' k h1 h2 h3 h4=>by
    by_cases hi:i=id<;>by_cases mZ:i'=id
    ·rw [hi,mZ]
    ·simp only [Gh.b8,hi,mZ,if_true,if_false] at h3 h4
     exact ((hF k h3).1 i' (ho _ h2 mZ) mZ h4).elim
    ·simp only [Gh.b8,hi,mZ,if_true,if_false] at h3 h4
     exact ((hF k h4).1 i (ho _ h1 hi) hi h3).elim
    ·simp only [Gh.b8,hi,mZ,if_false] at h3 h4
     exact I.apart.rr i i' k (ho _ h1 hi) (ho _ h2 mZ) h3 h4
   rb:=fun i b h1 h2 h3=>by
    by_cases hi:i=id
    ·simp only [Gh.b8,hi,if_true] at h3
     exact (hF _ h3).2.2.1 b h2 rfl
    ·simp only [Gh.b8,hi,if_false] at h3
     exact I.apart.rb i b (ho _ h1 hi) h2 h3
   bb:=I.apart.bb
   dZ:=fun i k h1 h3=>by
    by_cases hi:i=id
    ·simp only [Gh.b8,hi,if_true] at h3;exact (hF _ h3).2.1
    ·simp only [Gh.b8,hi,if_false] at h3;exact I.apart.dZ i k (ho _ h1 hi) h3
   fL:=I.apart.fL
   ck:=fun i k h1 h3=>by
    by_cases hi:i=id
    ·simp only [Gh.b8,hi,if_true] at h3;exact (hF _ h3).2.2.2.1
    ·simp only [Gh.b8,hi,if_false] at h3;exact I.apart.ck i k (ho _ h1 hi) h3
   dA:=I.apart.dA
   eb:=fun i k h1 h3=>by
    by_cases hi:i=id
    ·simp only [Gh.b8,hi,if_true] at h3;exact (hF _ h3).2.2.2.2
    ·simp only [Gh.b8,hi,if_false] at h3;exact I.apart.eb i k (ho _ h1 hi) h3
   c7:=I.apart.c7
   bU:=I.apart.bU }
  kept:=I.kept
  defers:=I.defers
  size:=I.size
  base:=⟨I.base.wl,I.base.ap,I.base.ro⟩ }
end Go.Gm
namespace Go.Gm
open Go
def ef (t:Ty):List Value:=(enc t (zero t)).map fun | .v x=>x | .l _ _=> .slice none 0 0
def dg (E:Env) (P:Program) (T:Nat) (t:Ty):Prop:=
  match t with
 | .i k=>P.underlying T=some (.int k)
 | .bool=>P.underlying T=some .bool
 | .str=>P.underlying T=some .string
 | .sl e=>∃el,P.underlying T=some (.slice el)∧E.code el=some e
 | _=>∃fs,P.underlying T=some (.struct fs)
def mC:List Ty→List Value→List Value→Option Bool
 | [],[],[]=>some true
 | .i q::ts,.int k a::r,.int k' b::s=>cond (decide (k=q)&&decide (k'=q)) ((mC ts r s).bind fun e=>some ((a==b)&&e)) none
 | .str::ts,.string a::r,.string b::s=>(mC ts r s).bind fun e=>some ((a==b)&&e)
 | .bool::ts,.bool a::r,.bool b::s=>(mC ts r s).bind fun e=>some ((a==b)&&e)
 | _,_,_=>none
structure Env.Ok (E:Env) (P:Program):Prop where
 info:∀T t,E.code T=some t→∃i zv,P.info? T=some i∧i.size=aD t∧i.bytes≤1024∧i.zero=some zv∧zv.cells=(ef t).toArray
 tK:∀T t,E.code T=some t→dg E P T t
 wx:∀T f off ft,E.wx T f=some (off,ft)→∃fs fd t,P.underlying T=some (.struct fs)∧fs[f]? =some fd∧fd.offset=off∧fd.type=ft∧E.code ft=some t
 Yi:∀T fs,P.underlying T=some (.struct fs)→(E.code T).isSome→∃pl,fs.toList.mapM (fun f=>(P.info? f.type).map fun i=>(f.offset,i.size))=some pl
 spec : ∀ f s, E.spec f = some s → bV P f s ∧ ∃ fn, P.funcs[f]? = some fn ∧ fn.body.isSome ∧ fn.name ≠ "runtime.NumGoroutine"
 eqs:∀T ts,E.eq T=some ts→∀(us vs:Array Value) (e:Bool),mC ts us.toList vs.toList=some e→∀w,
  (Op.equal T (.agg us) (.agg vs)).run P w = .ok e w∧(∀ op x y,(eqGuard op T x y (.agg us) (.agg vs)).run P w = .ok () w)
 ord:P.follows .mixedOrders=true
variable {R : Type} {P : Program} {E : Env} {w0 w : World} {Mf : Nat → Prop} {g : Gh} {st : St} {a : Act} {Q : Exit → Act → World → Prop}
theorem Env.Ok.size (hE:E.Ok P) {T:Nat} {t:Ty} (h:E.code T=some t) (w:World):(sizeOf T).run P w = .ok (aD t) w:=by
 obtain ⟨i,zv,h1,h2,_⟩:=hE.info T t h
 simp [sizeOf,run_typeInfo w h1,h2]
theorem Env.Ok.agg (hE:E.Ok P) {T:Nat} {t:Ty} (h:E.code T=some t) (w:World):(isAgg T).run P w = .ok (ik t) w:=by
 have hu:=hE.tK T t h
 unfold dg at hu
 cases t<;>simp only at hu
 case sl e=>obtain ⟨el,hu,_⟩:=hu;simp [isAgg,run_underlying hu,ik]
 case i k=>simp [isAgg,run_underlying hu,ik]
 case bool=>simp [isAgg,run_underlying hu,ik]
 case str=>simp [isAgg,run_underlying hu,ik]
 all_goals (obtain ⟨fs,hu⟩:=hu;simp [isAgg,run_underlying hu,ik])
theorem Env.Ok.zero (hE:E.Ok P) {T:Nat} {t:Ty} (h:E.code T=some t) (w:World):∃zv,(zeroValue T).run P w = .ok zv w∧zv.cells=(ef t).toArray:=by
 obtain ⟨i,zv,h1,_,_,h4,h5⟩:=hE.info T t h
 exact ⟨zv,by simp [zeroValue,run_typeInfo w h1,h4],h5⟩
theorem Env.Ok.slice (hE:E.Ok P) {T:Nat} {e:Ty} (h:E.code T=some (.sl e)):∃el,P.underlying T=some (.slice el)∧E.code el=some e:=hE.tK T _ h
theorem Form.cells {t:Ty} {u:Value} {us:Array Value} (h:Form t u us):u.cells=us:=by
 unfold Form at h
 split at h
 ·subst h;rfl
 ·obtain ⟨rfl,hf⟩:=h
  cases u<;>first | rfl | simp [cR] at hf
theorem Form.size {t:Ty} {u:Value} {us:Array Value} (h:Form t u us) (hs:ik t=false):us = #[u]∧cR u=true:=by simpa [Form,hs] using h
theorem nD {o:Oper} {v:Value} {w':World} {K:Act→World→Prop} (h:(execOp a.eval o).run P w = .ok (.value v) w') (hK:K (a.put o.dst v) w'):o.wp P a w K Q:=by
 unfold Oper.wp;rw [h];exact hK
theorem Inv.val (I:Inv w0 Mf g st a w) {o:Oper} (hd:∀d,o.dst=some d→d<g.n.sz) {s:Sv} {v:Value} {k:Dl→Option R} {r:R} {K:Act→World→Prop}
 (hK:∀δ g' a' w',k δ=some r→g'.n=g.n→Inv w0 Mf g' (st.apply δ) a' w'→K a' w')
 (er:(execOp a.eval o).run P w = .ok (.value v) w) (hk:k (put o s)=some r) (hs:dD w g st s v):o.wp P a w K Q:=
  nD er (hK _ g _ _ hk rfl (I.CR hd hs))
theorem Inv.gf (I:Inv w0 Mf g st a w) {o:Oper} (hd:∀d,o.dst=some d→d<g.n.sz) {c:Sc} {v:Value} {k:Dl→Option R} {r:R} {K:Act→World→Prop}
 (hK:∀δ g' a' w',k δ=some r→g'.n=g.n→Inv w0 Mf g' (st.apply δ) a' w'→K a' w')
 (er:(execOp a.eval o).run P w = .ok (.value v) w) (hk:k (fI o c)=some r) (hf:cR v=true) (hs:lQ w g st c v):o.wp P a w K Q:=
  I.val hd hK er (s:= .c (.one c)) hk ⟨hf,hs⟩
def xH:Value→Value→Prop
 | .nilIface,.nilIface=>False
 | .agg _,.agg _=>False
 | _,_=>True
theorem PE {op:BinOp} {T:Nat} {x y:Operand} {u v:Value} (h:xH u v) (w:World):(eqGuard op T x y u v).run P w = .ok () w:=by
 unfold eqGuard
 cases cc:(!(op matches .eql | .neq))
 ·simp only [Bool.false_eq_true,if_false]
  cases u<;>cases v<;>first | rfl | exact h.elim
 ·simp only [if_true];rfl
theorem Iw {T:Nat} (hu:P.underlying T=some .bool) (a b:Bool) (w:World):(Op.equal T (.bool a) (.bool b)).run P w = .ok (a==b) w:=by
 have key:∀d,(Op.equalIn (d+1) T (.bool a) (.bool b)).run P w = .ok (a==b) w:=fun d=>by
  rw [Op.equalIn]
  simp only [Sem.run_bind,run_underlying hu,Result.andThen_ok,Sem.run_pure]
 exact key 9999
theorem AK (hE:E.Ok P) {op:BinOp} {T:Nat} {x y:Value} {k:Value→Option R} {r:R} (h:xC op (isB (E.code T)) x y k=some r) (w:World):
    ∃z,k z=some r∧(Go.binOp op T x y).run P w = .ok z w∧cR z=true∧xH x y:=by
 unfold xC at h
 split at h
 ·rename_i k1 a k2 b
  have key:∀ {c:Bool} {x:Option R},(cond c none x)=some r→c=false∧x=some r:=by intro c x h;cases c<;>simp_all
  cases op
  case shl=>obtain ⟨hb,h⟩:=key h;exact ⟨_,h,by simp [Go.binOp,Op.shift,of_decide_eq_false hb],rfl,trivial⟩
  case shr=>obtain ⟨hb,h⟩:=key h;exact ⟨_,h,by simp [Go.binOp,Op.shift,of_decide_eq_false hb],rfl,trivial⟩
  all_goals
   obtain ⟨hk,h⟩:=a8 h
   have hk:=of_decide_eq_true hk
   subst hk
   simp only at h
  case quo=>obtain ⟨hb,h⟩:=key h;exact ⟨_,h,by simp [Go.binOp,Op.intDiv,of_decide_eq_false hb],rfl,trivial⟩
  case rem=>obtain ⟨hb,h⟩:=key h;exact ⟨_,h,by simp [Go.binOp,Op.intDiv,of_decide_eq_false hb],rfl,trivial⟩
  all_goals first
   | cases h;done
   | exact ⟨_,h,by simp [Go.binOp,Op.intArith,Op.intBits,Op.intCmp],rfl,trivial⟩
 ·rename_i a b
  cases op
  case add=>
   obtain ⟨hk,h⟩:=a8 h
   have hk:=of_decide_eq_true hk
   refine ⟨_,h,?_,rfl,trivial⟩
   have : ¬(((a.size+b.size:Nat):Int)>IntKind.i64.max):=by
    simp only [IntKind.max,IntKind.signed,IntKind.bits,if_true];omega
   simp only [Go.binOp,Op.stringOp,this,if_false,Sem.run_pure]
  all_goals first
   | cases h;done
   | exact ⟨_,h,by simp [Go.binOp,Op.stringOp,eC,lq],rfl,trivial⟩
 ·rename_i a b
  cases op
  case eql=>
   obtain ⟨ht,h⟩:=a8 h
   unfold isB at ht
   split at ht<;>simp only [Bool.false_eq_true] at ht
   rename_i hT
   have hu:P.underlying T=some .bool:=hE.tK T _ hT
   exact ⟨_,h,by
    rw [show Go.binOp .eql T (.bool a) (.bool b)=(do pure (.bool (← Op.equal T (.bool a) (.bool b)))) from rfl]
    simp only [Sem.run_bind,Iw hu,Result.andThen_ok,Sem.run_pure],rfl,trivial⟩
  case neq=>
   obtain ⟨ht,h⟩:=a8 h
   unfold isB at ht
   split at ht<;>simp only [Bool.false_eq_true] at ht
   rename_i hT
   have hu:P.underlying T=some .bool:=hE.tK T _ hT
   exact ⟨_,h,by
    rw [show Go.binOp .neq T (.bool a) (.bool b)=(do pure (.bool (!(← Op.equal T (.bool a) (.bool b))))) from rfl]
    simp only [Sem.run_bind,Iw hu,Result.andThen_ok,Sem.run_pure],rfl,trivial⟩
  all_goals cases h
 ·cases h
end Go.Gm
namespace Go.Gm
open Go
variable {R : Type} {P : Program} {E : Env} {w0 w : World} {Mf : Nat → Prop} {g : Gh} {st : St} {a : Act} {Q : Exit → Act → World → Prop}
  {o:Oper} {k:Dl→Option R} {r:R} {K:Act→World→Prop}
def Then (w0:World) (Mf:Nat→Prop) (g:Gh) (st:St) (k:Dl→Option R) (r:R) (K:Act→World→Prop):Prop:=
  ∀δ g' a' w',k δ=some r→g'.n=g.n→Inv w0 Mf g' (st.apply δ) a' w'→K a' w'
theorem Ix (I:Inv w0 Mf g st a w) (hd:∀d,o.dst=some d→d<g.n.sz) (hK:Then w0 Mf g st k r K) {x:Operand} (cc:o.op = .move x∨o.op = .assign x)
 (h:dk st x (fun s=>k (put o s))=some r):o.wp P a w K Q:=by
 replace h:=I.dk h;obtain ⟨s,hk,hs⟩:=h
 exact I.val hd hK (by rcases cc with cc | cc<;>simp [execOp,cc]) hk hs
theorem UI (I:Inv w0 Mf g st a w) (hd:∀d,o.dst=some d→d<g.n.sz) (hK:Then w0 Mf g st k r K) {c x y:Operand} (cc:o.op = .pick c x y)
 (h:eE E o st k=some r):o.wp P a w K Q:=by
 simp only [eE,cc] at h
 replace h:=I.getBool h;obtain ⟨b,h,hb⟩:=h
 cases b
 ·replace h:=I.dk h;obtain ⟨s,hk,hs⟩:=h
  exact I.val hd hK (by simp [execOp,cc,hb,asBool]) hk hs
 ·replace h:=I.dk h;obtain ⟨s,hk,hs⟩:=h
  exact I.val hd hK (by simp [execOp,cc,hb,asBool]) hk hs
theorem CS (I:Inv w0 Mf g st a w) (hd:∀d,o.dst=some d→d<g.n.sz) (hK:Then w0 Mf g st k r K) {x:Operand} (cc:o.op = .nilCheck x)
 (h:eE E o st k=some r):o.wp P a w K Q:=by
 simp only [eE,cc] at h
 replace h:=I.fr h;obtain ⟨c,h,hc⟩:=h
 have key:∀v:Value,a.eval x=v→(match v with | .pointer (some _)=>True | .func (.func _) _ _=>True | _=>False)→(execOp a.eval o).run P w = .ok (.value v) w:=by
  intro v hv hm
  split at hm
  ·simp [execOp,cc,hv]
  ·simp [execOp,cc,hv]
  ·exact hm.elim
 split at h
 ·exact I.gf hd hK (key _ rfl (by rw [hc.2.1];trivial)) h hc.1 hc.2
 ·replace h:=da h;obtain ⟨ro,cZ,h⟩:=h
  obtain ⟨s,b,oo,n,cap,_,_,_,hu⟩:=hc.2.2 ro cZ.x
  exact I.gf hd hK (key _ rfl (by rw [hu];trivial)) h hc.1 hc.2
 ·obtain ⟨b,oo,cs,el,fz,hu,_⟩:=hc.2
  exact I.gf hd hK (key _ rfl (by rw [hu];trivial)) h hc.1 hc.2
 ·exact I.gf hd hK (key _ rfl (by rw [hc.2.1];trivial)) h hc.1 hc.2
 ·obtain ⟨ps,hu,_⟩:=hc.2
  exact I.gf hd hK (key _ rfl (by rw [hu];trivial)) h hc.1 hc.2
 ·cases h
theorem UJ (I:Inv w0 Mf g st a w) (hd:∀d,o.dst=some d→d<g.n.sz) (hK:Then w0 Mf g st k r K) {op:UnOp} {T:Nat} {x:Operand} (cc:o.op = .unOp op T x)
 (h:eE E o st k=some r):o.wp P a w K Q:=by
 simp only [eE,cc] at h
 replace h:=I.jn h;obtain ⟨h,hf⟩:=h
 split at h
 ·rename_i b hx
  exact I.gf hd hK (by simp [execOp,cc,hx,Op.unary]) h rfl rfl
 ·rename_i kd n hx
  exact I.gf hd hK (by simp [execOp,cc,hx,Op.unary,Op.intArith]) h rfl rfl
 ·cases h
theorem jo {w:World} {g:Gh} {st:St}:∀ {ts:List Ty} {xs ys:List Sc} {us vs:List Value} {e:Bool},jP ts xs ys=some e→lV w g st xs us→lV w g st ys vs→mC ts us vs=some e
 | [],xs,ys,us,vs,e,h,h1,h2=>by
  cases xs with | cons _ _=>simp [jP] at h | nil=>
  cases ys with | cons _ _=>simp [jP] at h | nil=>
  cases us<;>cases vs<;>first | exact h1.elim | exact h2.elim | exact h
 | t::ts,[],_,_,_,_,h,_,_=>by cases t<;>simp [jP] at h
 | t::ts,c::r,[],_,_,_,h,_,_=>by cases t<;>simp [jP] at h
 | t::ts,c::r,c'::s,us,vs,e,h,h1,h2=>by
  cases us with | nil=>exact h1.elim | cons u us=>
  cases vs with | nil=>exact h2.elim | cons v vs=>
  obtain ⟨⟨_,hu⟩,h1⟩:=h1
  obtain ⟨⟨_,hv⟩,h2⟩:=h2
  cases t<;>try (simp [jP] at h;done)
  all_goals
   cases c<;>cases c'<;>try (simp [jP] at h;done)
   rename_i x y
   simp only [lQ] at hu hv
   subst hu;subst hv
   cases u<;>cases v<;>try (simp [jP] at h;done)
  ·simp only [jP] at h
   obtain ⟨hq,h⟩:=a8 h
   replace h:=aQ h;obtain ⟨e',he,h⟩:=h
   simp only [mC,hq,cond_true,jo he h1 h2,Option.bind_some];exact h
  ·simp only [jP] at h
   replace h:=aQ h;obtain ⟨e',he,h⟩:=h
   simp only [mC,jo he h1 h2,Option.bind_some];exact h
  ·simp only [jP] at h
   replace h:=aQ h;obtain ⟨e',he,h⟩:=h
   simp only [mC,jo he h1 h2,Option.bind_some];exact h
theorem PF (hE:E.Ok P) (I:Inv w0 Mf g st a w) (hd:∀d,o.dst=some d→d<g.n.sz) (hK:Then w0 Mf g st k r K) {op:BinOp} {T T':Nat} {x y:Operand} (cc:o.op = .binOp op T x y T')
 (h:eE E o st k=some r):o.wp P a w K Q:=by
 simp only [eE,cc] at h
 replace h:=I.dk h;obtain ⟨s,h,hs⟩:=h
 replace h:=I.dk h;obtain ⟨s',h,fv⟩:=h
 split at h
 ·rename_i u v
  have hu:=hs.2
  have hv:=fv.2
  simp only [lQ] at hu hv
  obtain ⟨z,hz,er,hf,hn⟩:=AK hE h w
  exact I.gf hd hK (by simp [execOp,cc,hu,hv,PE hn,er]) hz hf rfl
 ·rename_i xs ys
  replace h:=aQ h;obtain ⟨ets,he,h⟩:=h
  obtain ⟨us,hu,kE⟩:=hs
  obtain ⟨vs,hv,pZ⟩:=fv
  split at h
  ·replace h:=aQ h;obtain ⟨e,hee,h⟩:=h
   obtain ⟨h1,h2⟩:=hE.eqs T ets he us vs e (jo hee kE.l pZ.l) w
   refine I.gf hd hK ?_ h rfl rfl
   simp only [execOp,cc,hu,hv,Sem.run_bind,h2,Result.andThen_ok]
   rw [show Go.binOp .eql T (.agg us) (.agg vs)=(do pure (.bool (← Op.equal T (.agg us) (.agg vs)))) from rfl]
   simp only [Sem.run_bind,h1,Result.andThen_ok,Sem.run_pure]
  ·replace h:=aQ h;obtain ⟨e,hee,h⟩:=h
   obtain ⟨h1,h2⟩:=hE.eqs T ets he us vs e (jo hee kE.l pZ.l) w
   refine I.gf hd hK ?_ h rfl rfl
   simp only [execOp,cc,hu,hv,Sem.run_bind,h2,Result.andThen_ok]
   rw [show Go.binOp .neq T (.agg us) (.agg vs)=(do pure (.bool (!(← Op.equal T (.agg us) (.agg vs))))) from rfl]
   simp only [Sem.run_bind,h1,Result.andThen_ok,Sem.run_pure]
  ·cases h
 ·rename_i t xs
  replace h:=aQ h;obtain ⟨e,he,h⟩:=h
  have he:E.code T=some (.sl e):=by
   unfold iw at he;split at he<;>cases he;assumption
  obtain ⟨el,hu,q7⟩:=hE.slice he
  cases wy:xs.isEmpty
  ·rw [wy,cond_false] at h
   obtain ⟨av,h0,fw⟩:=hs.2
   obtain ⟨ad,cap,e1,_,dP⟩:=fw [] ⟨t,xs⟩ rfl
   obtain ⟨b,oo,cs,p3,fz,rfl,_⟩:=dP (fun hn=>by simp only at hn;rw [hn] at wy;cases wy)
   rw [h0] at e1
   have hv:a.eval y = .slice none 0 0:=fv.2
   have hq:∀neg:Bool,(Go.binOp (if neg then .neq else .eql) T (a.eval x) (a.eval y)).run P w = .ok (.bool neg) w:=by
    intro neg
    rw [e1,hv]
    cases neg
    ·exact Lib.run_eql_slice_nil w T _ _ _ _ _ _ hu
    ·exact run_neq_slice_nil w T _ _ _ _ hu
   split at h
   ·exact I.gf hd hK (by have q:=hq false;rw [e1,hv] at q;simp only [if_true,if_false,Bool.false_eq_true] at q;simp [execOp,cc,e1,hv,eqGuard_at_slice,q]) h rfl rfl
   ·exact I.gf hd hK (by have q:=hq true;rw [e1,hv] at q;simp only [if_true,if_false,Bool.false_eq_true] at q;simp [execOp,cc,e1,hv,eqGuard_at_slice,q]) h rfl rfl
   ·cases h
  ·rw [wy,cond_true] at h;cases h
 ·cases h
theorem CT (I:Inv w0 Mf g st a w) (hd:∀d,o.dst=some d→d<g.n.sz) (hK:Then w0 Mf g st k r K) {fn:Fn} {first nA:Array Operand} (cc:o.op = .makeFunc fn first nA)
 (h:eE E o st k=some r):o.wp P a w K Q:=by
 simp only [eE,cc] at h
 split at h
 ·rename_i f hf
  replace h:=I.lT h;obtain ⟨ss,h,hl,xI⟩:=h
  replace h:=aQ h;obtain ⟨bs,Tg,h⟩:=h
  have CU:first = #[]:=by
   have:=congrArg List.toArray hf;simpa using this
  have key:∀(ss:List Sv) (bs:List Nat) (cs:List Operand),AF ss=some bs→ss.length=cs.length→
    (∀ (j:Nat) s,ss[j]? =some s→∃x,cs[j]? =some x∧dD w g st s (a.eval x))→
    cs.map a.eval=bs.map (fun b=>Value.pointer (some ⟨g.bx b,0,none⟩))∧∀b∈bs,(ax st.boxes b).isSome:=by
   intro ss
   induction ss with
   | nil=>
    intro bs cs h1 h2 _
    simp only [AF,Option.some.injEq] at h1;subst h1
    cases cs with | nil=>simp | cons c cs=>simp at h2
   | cons s ss ih=>
    intro bs cs h1 h2 h3
    cases cs with
    | nil=>simp at h2
    | cons c cs=>
     unfold AF at h1
     split at h1
     ·rename_i heq;cases heq
     ·rename_i b r' heq
      obtain ⟨rfl,rfl⟩:=List.cons.inj heq
      obtain ⟨bs',gB,h1⟩:=aQ h1
      simp only [Option.some.injEq] at h1;subst h1
      obtain ⟨e1,e2⟩:=ih bs' cs gB (by simpa using h2) (fun j s hj=>by simpa using h3 (j+1) s (by simpa using hj))
      obtain ⟨x,hx,hs⟩:=h3 0 _ rfl
      simp only [List.getElem?_cons_zero,Option.some.injEq] at hx;subst hx
      exact ⟨by simp [e1,hs.2.1],fun b' hb=>by
       rcases List.mem_cons.1 hb with rfl | hb
       ·exact hs.2.2
       ·exact e2 b' hb⟩
     ·cases h1
  obtain ⟨e1,e2⟩:=key ss bs nA.toList Tg hl xI
  have e3:nA.map a.eval=(bs.map (fun b=>Value.pointer (some ⟨g.bx b,0,none⟩))).toArray:=by
   apply Array.ext';simpa using e1
  refine I.gf hd hK (v:= .func (.func f) #[] (bs.map (fun b=>Value.pointer (some ⟨g.bx b,0,none⟩))).toArray) ?_ h rfl ⟨rfl,e2⟩
  simp [execOp,cc,Instr.makeFunc,CU,e3]
 ·cases h
theorem GC (I:Inv w0 Mf g st a w) (hd:∀d,o.dst=some d→d<g.n.sz) (hK:Then w0 Mf g st k r K) {x:Operand} {i:Nat} (cc:o.op = .extract x i)
 (h:eE E o st k=some r):o.wp P a w K Q:=by
 simp only [eE,cc] at h
 replace h:=I.dk h;obtain ⟨s,h,hs⟩:=h
 split at h
 ·replace h:=aQ h;obtain ⟨c,hc,h⟩:=h
  obtain ⟨us,hu,_,hr⟩:=hs
  obtain ⟨z,hz,yT⟩:=hr i c hc
  exact I.val hd hK (by simp [execOp,cc,Instr.extract,hu,hz]) h yT
 ·cases h
theorem PG (hE:E.Ok P) (I:Inv w0 Mf g st a w) (hd:∀d,o.dst=some d→d<g.n.sz) (hK:Then w0 Mf g st k r K) {T:Nat} {x i:Operand} (cc:o.op = .index T x i)
 (h:eE E o st k=some r):o.wp P a w K Q:=by
 simp only [eE,cc] at h
 replace h:=I.jn h;obtain ⟨h,_⟩:=h
 replace h:=I.getInt h;obtain ⟨n,h,hn⟩:=h
 split at h
 ·rename_i s hT hx
  replace h:=a8 h;obtain ⟨hb,h⟩:=h
  simp only [Bool.and_eq_true,decide_eq_true_eq] at hb
  have hu:P.underlying T=some .string:=hE.tK T _ hT
  have ct:n.toNat<s.data.size:=by have:s.data.size=s.size:=rfl;omega
  refine I.gf hd hK ?_ h rfl rfl
  have e1:s[n.toNat]? =some (s.data.getD n.toNat 0):=by
   show (if h:n.toNat<s.size then some s[n.toNat] else none)=_
   have qe:n.toNat<s.size:=ct
   rw [dif_pos qe,Array.getD,dif_pos ct];rfl
  simp only [execOp,cc,hx,hn,Instr.index,asIntOf,Sem.run_bind,Sem.run_pure,Result.andThen_ok,run_underlying hu,hb.1,if_true,e1]
 ·cases h
theorem jk (b o n:Nat):(⟨b,o,none⟩:Addr).add n=⟨b,o+n,none⟩:=by
 unfold Addr.add;split
 ·rename_i h;subst h;rfl
 ·rfl
theorem fN {q:Option Ty} {e:Ty} (h:iw q=some e):q=some (.sl e):=by
 unfold iw at h;split at h
 ·simp only [Option.some.injEq] at h;subst h;rfl
 ·cases h
theorem tL {q:Option Ty} (h:isStr q=true):q=some .str:=by
 unfold isStr at h;split at h
 ·rfl
 ·cases h
theorem AL (hE:E.Ok P) (I:Inv w0 Mf g st a w) (hd:∀d,o.dst=some d→d<g.n.sz) (hK:Then w0 Mf g st k r K) {T f:Nat} {x:Operand} (cc:o.op = .fieldAddr T x f)
 (h:eE E o st k=some r):o.wp P a w K Q:=by
 simp only [eE,cc] at h
 replace h:=aQ h;obtain ⟨⟨off,ft⟩,Iy,h⟩:=h
 obtain ⟨fs,fd,t,hu,UK,rfl,rfl,tM⟩:=hE.wx T f _ _ Iy
 replace h:=I.fr h;obtain ⟨c,h,hc⟩:=h
 have key:∀b oo,a.eval x = .pointer (some ⟨b,oo,none⟩)→(execOp a.eval o).run P w = .ok (.value (.pointer (some ⟨b,oo+fd.offset,none⟩))) w:=by
  intro b oo hx
  have ff:aD t≠0:=by have:=gK t;omega
  simp [execOp,cc,hx,Instr.fieldAt,Instr.sureAddr,fieldPlace,run_underlying hu,UK,hE.size tM,ff,jk]
 split at h
 ·rename_i b off
  exact I.gf hd hK (key _ _ hc.2.1) h rfl ⟨rfl,hc.2.2⟩
 ·rename_i id ver iv p i off
  replace h:=da h;obtain ⟨ro,cZ,h⟩:=h
  obtain ⟨s,b,oo,n,cap,h1,h2,h3,hu⟩:=hc.2.2 ro cZ.x
  refine I.gf hd hK (key _ _ hu) h rfl ⟨hc.2.1,fun ro' CV=> ?_⟩
  obtain ⟨s,b',UL,n',rh,Au,Ie,h3',wz⟩:=hc.2.2 ro' CV
  rw [hu] at wz
  simp only [Value.pointer.injEq,Option.some.injEq,Addr.mk.injEq,and_true] at wz
  refine ⟨s,b',UL,n',rh,Au,Ie,h3',?_⟩
  simp only [Value.pointer.injEq,Option.some.injEq,Addr.mk.injEq,and_true]
  omega
 ·rename_i t' y off
  obtain ⟨b,oo,cs,el,fz,hu,h1,h2,h3⟩:=hc.2
  refine I.gf hd hK (key _ _ hu) h rfl ⟨b,oo,cs,el,fz,by rw [Nat.add_assoc],h1,h2,h3⟩
 ·cases h
theorem AN (hE:E.Ok P) (I:Inv w0 Mf g st a w) (hd:∀d,o.dst=some d→d<g.n.sz) (hK:Then w0 Mf g st k r K) {T:Nat} {x i:Operand} (cc:o.op = .indexAddr T x i)
 (h:eE E o st k=some r):o.wp P a w K Q:=by
 simp only [eE,cc] at h
 replace h:=I.fr h;obtain ⟨c,h,hc⟩:=h
 replace h:=I.getInt h;obtain ⟨n,h,hn⟩:=h
 replace h:=aQ h;obtain ⟨e,he,h⟩:=h
 have hT:=fN he
 obtain ⟨el,hu,q7⟩:=hE.slice hT
 have key:∀b oo len cap,a.eval x = .slice (some ⟨b,oo,none⟩) len cap→0≤n→n<len→(execOp a.eval o).run P w = .ok (.value (.pointer (some ⟨b,oo+n.toNat*aD e,none⟩))) w:=by
  intro b oo len cap hx h0 h1
  simp [execOp,cc,hx,hn,Instr.indexAt,asIntOf,run_underlying hu,h0,h1,hE.size q7,jk]
 split at h
 ·rename_i t xs
  replace h:=a8 h;obtain ⟨ff,h⟩:=h
  replace h:=a8 h;obtain ⟨hb,h⟩:=h
  have ff:=gX ff
  simp only [Bool.and_eq_true,decide_eq_true_eq] at hb
  have ct:n.toNat<xs.length:=by omega
  obtain ⟨av,h0,fw⟩:=hc.2
  obtain ⟨ad,cap,e1,_,hh⟩:=fw [] ⟨t,xs⟩ rfl
  obtain ⟨b,oo,cs,p3,fz,rfl,hP,hbk,eP⟩:=hh (fun ri=>by simp only at ri;subst ri;simp at ct)
  rw [h0] at e1
  refine I.gf hd hK (key b oo _ cap e1 hb.1 hb.2) h rfl ⟨b,oo+n.toNat*aD e,cs,p3,fz,by simp,hP,hbk,fun j c hj=> ?_⟩
  obtain ⟨z,hz,p4⟩:=eP n.toNat _ j c (c9 ct) hj
  refine ⟨z,by rw [ff];exact hz,?_⟩
  cases c with
  | v y=>exact p4
  | l t' ys=>
   have hs:aR t xs [(n.toNat,j)]=some ⟨t',ys⟩:=by simp only [aR,c9 ct,hj]
   exact ⟨fun q=>av ([(n.toNat,j)]++q),by simpa [eF] using p4.symm,fw.at hs⟩
 ·rename_i id ver iv p
  replace h:=da h;obtain ⟨ro,cZ,h⟩:=h
  replace h:=a8 h;obtain ⟨AO,h⟩:=h
  replace h:=aQ h;obtain ⟨s,hs,h⟩:=h
  replace h:=a8 h;obtain ⟨ff,h⟩:=h
  replace h:=a8 h;obtain ⟨hb,h⟩:=h
  have ff:=gX ff
  simp only [Bool.and_eq_true,decide_eq_true_eq] at hb
  have ct:n.toNat<s.xs.length:=by omega
  obtain ⟨hx,ke⟩:=hc.2.2 ro cZ.x
  obtain ⟨s',fv⟩:=Option.isSome_iff_exists.1 ke
  have:=cX fv;rw [hs] at this;cases this
  obtain ⟨ad,cap,e1,_,hh⟩:=I.nC cZ.1 AO fv
  obtain ⟨b,oo,cs,p3,fz,rfl,hP,hbk,eP⟩:=hh (fun ri=>by rw [ri] at ct;simp at ct)
  refine I.gf hd hK (key b oo _ cap (hx.trans e1) hb.1 hb.2) h rfl ⟨?_,fun ro' CV=> ?_⟩
  ·have:=cZ.1
   unfold cJ;simp only [this]
   exact .inr ⟨cZ.2.1.symm,Nat.le_refl _⟩
  ·have:ro'=ro:=CV.is cZ.1
   subst this
   exact ⟨s,b,oo,_,cap,fv,ct,e1,by rw [ff];simp⟩
 ·rename_i id ver lo hi
  replace h:=de h;obtain ⟨ro,hv,fM,h⟩:=h
  replace h:=a8 h;obtain ⟨ff,h⟩:=h
  replace h:=a8 h;obtain ⟨hb,h⟩:=h
  have ff:=gX ff
  simp only [Bool.and_eq_true,decide_eq_true_eq] at hb
  obtain ⟨h1,h2,hx⟩:=hc.2.2 ro ⟨.inl hv,fM,gC _ _⟩
  have hlen:((ro.xs.take hi).drop lo).length=hi-lo:=by simp;omega
  rw [hlen] at hb
  obtain ⟨ad,cap,e1,hle,hh⟩:=I.nC hv (p:=[]) (s:=⟨ro.t,ro.xs⟩) (by cases ro.md<;>rfl) rfl
  obtain ⟨b,oo,cs,p3,fz,rfl,hP,hbk,eP⟩:=hh (fun ri=>by simp only at ri;rw [ri] at h2;simp at h2;omega)
  have o6:a.eval x = .slice (some ⟨b,oo+lo*aD ro.t,none⟩) (hi-lo) (cap-lo):=by
   rw [hx,e1]
   simp only [lr]
   simp only at hle
   rw [if_neg (by omega)]
   simp [jk]
  refine I.gf hd hK (key b _ _ _ o6 hb.1 (by omega)) h rfl ⟨?_,fun ro' CV=> ?_⟩
  ·unfold cJ;simp only [hv]
   exact .inr ⟨fM.symm,Nat.le_refl _⟩
  ·have:ro'=ro:=CV.is hv
   subst this
   refine ⟨⟨ro'.t,ro'.xs⟩,b,oo,_,cap,rfl,by simp only;omega,e1,?_⟩
   rw [ff];simp only [Nat.add_mul];simp;omega
 ·cases h
theorem oA {x:Value} {n:Int} {y:Nat} {code:BoundsCode} (hx:x = .int .i64 n) (h0:0≤n) (h1:n≤y) (w:World):(Instr.sliceBound x y code).run P w = .ok n.toNat w:=by
 subst hx
 simp [Instr.sliceBound,asIntOf,h0,h1]
theorem PH (hE:E.Ok P) (I:Inv w0 Mf g st a w) (hd:∀d,o.dst=some d→d<g.n.sz) (hK:Then w0 Mf g st k r K) {T:Nat} {x:Operand} {lo hi:Option Operand} (cc:o.op = .slice T x lo hi none)
 (h:eE E o st k=some r):o.wp P a w K Q:=by
 simp only [eE,cc] at h
 replace h:=I.fr h;obtain ⟨c,h,hc⟩:=h
 have bounds:∀(b:Bool) (len cap:Nat) (l hh:Int),Et a lo 0 l→Et a hi len hh→
   0≤l→l≤hh→hh≤len→len≤cap→(Instr.sliceBounds b len cap (lo.map a.eval) (hi.map a.eval) none).run P w = .ok (l.toNat,hh.toNat,cap) w:=by
  intro b len cap l hh h1 h2 h3 h4 h5 h6
  cases lo<;>cases hi<;>simp only [Et] at h1 h2<;>unfold Instr.sliceBounds
  ·subst h1;subst h2;simp
  ·subst h1;simp [oA (P:=P) h2 (by omega) (by omega:hh≤(cap:Int)) w]
  ·subst h2;simp [oA (P:=P) h1 h3 (by omega:l≤(len:Int)) w]
  ·simp [oA (P:=P) h2 (by omega) (by omega:hh≤(cap:Int)) w,oA (P:=P) h1 h3 (by omega:l≤((hh.toNat:Nat):Int)) w]
 split at h
 ·rename_i s
  replace h:=a8 h;obtain ⟨hT,h⟩:=h
  have hu:P.underlying T=some .string:=hE.tK T _ (tL hT)
  replace h:=I.fu h;obtain ⟨l,h,hl⟩:=h
  replace h:=I.fu h;obtain ⟨hh,h,Yj⟩:=h
  replace h:=a8 h;obtain ⟨hb,h⟩:=h
  simp only [Bool.and_eq_true,decide_eq_true_eq] at hb
  refine I.gf hd hK ?_ h rfl rfl
  have hx:=hc.2;simp only [lQ] at hx
  simp only [execOp,cc,hx,Instr.sliceAt,Instr.slice,Sem.run_bind,run_underlying hu,Result.andThen_ok,Option.map_none,Option.isSome_none,Bool.false_eq_true,if_false,
   bounds false s.size s.size l hh hl Yj hb.1 hb.2.1 hb.2.2 (Nat.le_refl _),Sem.run_pure]
 ·rename_i t xs
  replace h:=aQ h;obtain ⟨e,he,h⟩:=h
  have hT:=fN he
  obtain ⟨el,hu,q7⟩:=hE.slice hT
  replace h:=a8 h;obtain ⟨ff,h⟩:=h
  have ff:=gX ff
  replace h:=I.fu h;obtain ⟨l,h,hl⟩:=h
  replace h:=I.fu h;obtain ⟨hh,h,Yj⟩:=h
  replace h:=a8 h;obtain ⟨hb,h⟩:=h
  simp only [Bool.and_eq_true,decide_eq_true_eq] at hb
  obtain ⟨av,h0,fw⟩:=hc.2
  obtain ⟨ad,cap,e1,hle,_⟩:=fw [] ⟨t,xs⟩ rfl
  simp only at e1 hle
  have xb:=fw.cut (lo:=l.toNat) (hi:=hh.toNat) (by omega) (by omega)
  rw [h0] at e1
  rw [h0,e1] at xb
  refine I.gf hd hK (v:=lr (aD t) (.slice ad xs.length cap) l.toNat hh.toNat) ?_ h rfl xb
  simp only [execOp,cc,e1,Instr.sliceAt,Instr.slice,Sem.run_bind,run_underlying hu,Result.andThen_ok,Option.map_none,
   bounds true xs.length cap l hh hl Yj hb.1 hb.2.1 hb.2.2 hle,Sem.run_pure,hE.size q7,ff,lr]
 ·rename_i id ver iv
  replace h:=aQ h;obtain ⟨e,he,h⟩:=h
  have hT:=fN he
  obtain ⟨el,hu,q7⟩:=hE.slice hT
  replace h:=de h;obtain ⟨ro,hv,fM,h⟩:=h
  replace h:=a8 h;obtain ⟨ff,h⟩:=h
  have ff:=gX ff
  replace h:=I.fu h;obtain ⟨l,h,hl⟩:=h
  replace h:=I.fu h;obtain ⟨hh,h,Yj⟩:=h
  replace h:=a8 h;obtain ⟨hb,h⟩:=h
  simp only [Bool.and_eq_true,decide_eq_true_eq] at hb
  obtain ⟨hx,_⟩:=hc.2.2 ro ⟨.inl hv,fM,gC _ _⟩
  obtain ⟨ad,cap,e1,hle,_⟩:=I.nC hv (p:=[]) (s:=⟨ro.t,ro.xs⟩) (by cases ro.md<;>rfl) rfl
  simp only at e1 hle
  refine I.gf hd hK (v:=lr (aD ro.t) (g.rv id []) l.toNat hh.toNat) ?_ h ?_ ⟨?_,fun ro' CV=> ?_⟩
  ·rw [e1] at hx ⊢
   simp only [execOp,cc,hx,Instr.sliceAt,Instr.slice,Sem.run_bind,run_underlying hu,Result.andThen_ok,Option.map_none,
    bounds true ro.xs.length cap l hh hl Yj hb.1 hb.2.1 hb.2.2 hle,Sem.run_pure,hE.size q7,ff,lr]
  ·rw [e1];rfl
  ·unfold cJ;simp only [hv];exact .inr ⟨fM.symm,Nat.zero_le _⟩
  ·have:ro'=ro:=CV.is hv
   subst this
   exact ⟨by omega,by omega,rfl⟩
 ·cases h
theorem Form.of {t:Ty} {cs:List Sc} {c:Cm} (h:AA t cs=some c) {us:Array Value} (hc:cH w g st cs us):∃u,Form t u us∧ix w g st c u:=by
 unfold AA at h
 split at h
 ·rename_i ht
  simp only [Option.some.injEq] at h;subst h
  exact ⟨.agg us,by simp [Form,ht],us,rfl,hc⟩
 ·rename_i c' ht
  simp only [Option.some.injEq] at h;subst h
  obtain ⟨z,hz,hr⟩:=hc.2 0 c' rfl
  have hs:=hc.1
  simp only [List.length_singleton] at hs
  have r8:us = #[z]:=by
   apply Array.ext
   ·simpa using hs
   ·intro i h1 h2
    have:i=0:=by simp at h2;omega
    subst this
    have:=Array.getElem?_eq_getElem (xs:=us) (i:=0) (by omega)
    rw [this] at hz;simpa using hz
  exact ⟨z,by simp [Form,ht,r8,hr.1],hr⟩
 ·cases h
theorem Iz (hE:E.Ok P) {T:Nat} {t:Ty} (hT:E.code T=some t) (cs:Array Value) (off:Nat) (hl:off+aD t≤cs.size) (hf:∀(i:Nat) v,cs[i]? =some v→cR v=true) (w:World):
    ∃u,(part T cs off).run P w = .ok u w∧Form t u (cs.extract off (off+aD t)):=by
 cases hs:ik t
 ·have h1:=Ep t hs
  have ct:off<cs.size:=by omega
  refine ⟨cs[off],by simp [part,hE.agg hT,hs,ct],?_⟩
  simp only [Form,hs,Bool.false_eq_true,if_false]
  refine ⟨?_,hf off _ (by simp [ct])⟩
  apply Array.ext
  ·simp;omega
  ·intro i h2 h3
   have:i=0:=by simp at h3;omega
   subst this;simp
 ·exact ⟨.agg (cs.extract off (off+aD t)),by simp [part,hE.agg hT,hs,hE.size hT],by simp [Form,hs]⟩
theorem PI (hE:E.Ok P) (I:Inv w0 Mf g st a w) (hd:∀d,o.dst=some d→d<g.n.sz) (hK:Then w0 Mf g st k r K) {T f:Nat} {x:Operand} (cc:o.op = .field T x f)
 (h:eE E o st k=some r):o.wp P a w K Q:=by
 simp only [eE,cc] at h
 replace h:=aQ h;obtain ⟨⟨off,ft⟩,Iy,h⟩:=h
 obtain ⟨fs,fd,t,hu,UK,rfl,rfl,tM⟩:=hE.wx T f _ _ Iy
 simp only at h
 replace h:=aQ h;obtain ⟨t',ht',h⟩:=h
 rw [tM] at ht';cases ht'
 replace h:=I.dk h;obtain ⟨s,h,hs⟩:=h
 split at h
 ·rename_i cs
  replace h:=a8 h;obtain ⟨hl,h⟩:=h
  replace h:=aQ h;obtain ⟨c,hc,h⟩:=h
  have hl:=gw hl
  obtain ⟨us,wz,fe⟩:=hs
  have oV:∀(i:Nat) v,us[i]? =some v→cR v=true:=by
   intro i v hv
   have hi:i<cs.length:=by
    rw [← fe.1]
    rcases Nat.lt_or_ge i us.size with h' | h'
    ·exact h'
    ·simp [Array.getElem?_eq_none h'] at hv
   obtain ⟨z,hz,hr⟩:=fe.2 i _ (List.getElem?_eq_getElem hi)
   rw [hv] at hz;cases hz;exact hr.1
  obtain ⟨u,er,eA⟩:=Iz hE tM us fd.offset (by rw [fe.1];exact hl) oV w
  have xb:cH w g st ((cs.drop fd.offset).take (aD t)) (us.extract fd.offset (fd.offset+aD t)):=by
   have ff:=fe.1
   refine ⟨by simp [fe.1];omega,fun j c' hj=> ?_⟩
   rw [List.getElem?_take] at hj
   split at hj
   ·rw [List.getElem?_drop] at hj
    obtain ⟨z,hz,hr⟩:=fe.2 _ _ hj
    refine ⟨z,?_,hr⟩
    rw [Array.getElem?_extract,if_pos (by omega)];exact hz
   ·cases hj
  obtain ⟨u',et,yT⟩:=Form.of hc xb
  have:u=u':=by
   unfold Form at eA et
   split at eA
   ·rename_i lW;simp only [lW,if_true] at et;rw [eA,et]
   ·rename_i lW;simp only [lW,if_false] at et;have:=eA.1.symm.trans et.1;simpa using this
  subst this
  refine I.val hd hK ?_ h yT
  simp [execOp,cc,Instr.field,run_underlying hu,UK,wz,asAgg,er]
 ·cases h
theorem PJ {w:World} {b:Nat} {us:Array Value} {el:Nat} {fz:Nat×Nat} (hb:w.heap[b]? =some (.cells us el fz)) (o:Nat):w.cell? ⟨b,o,none⟩=us[o]? :=by
 simp [World.cell?,hb]
theorem GD (hE:E.Ok P) (I:Inv w0 Mf g st a w) (hd:∀d,o.dst=some d→d<g.n.sz) (hK:Then w0 Mf g st k r K) {S T:Nat} {x:Operand} (cc:o.op = .convert S T x)
 (h:eE E o st k=some r):o.wp P a w K Q:=by
 simp only [eE,cc] at h
 split at h
 ·rename_i ks kd hS hT
  have h1:P.underlying S=some (.int ks):=hE.tK S _ hS
  have h2:P.underlying T=some (.int kd):=hE.tK T _ hT
  replace h:=I.jn h;obtain ⟨h,_⟩:=h
  split at h
  ·rename_i kk n hx
   exact I.gf hd hK (by simp [execOp,cc,hx,convert,run_underlying h1,run_underlying h2,Conv.intToInt]) h rfl rfl
  ·cases h
 ·rename_i ks hS hT
  have h1:P.underlying S=some (.int ks):=hE.tK S _ hS
  have h2:P.underlying T=some .string:=hE.tK T _ hT
  replace h:=I.jn h;obtain ⟨h,_⟩:=h
  split at h
  ·rename_i kk n hx
   exact I.gf hd hK (by simp [execOp,cc,hx,convert,run_underlying h1,run_underlying h2,Conv.intToString]) h rfl rfl
  ·cases h
 ·rename_i hS hT
  have h1:P.underlying S=some .string:=hE.tK S _ hS
  have h2:P.underlying T=some .string:=hE.tK T _ hT
  replace h:=I.jn h;obtain ⟨h,_⟩:=h
  split at h
  ·rename_i s hx
   exact I.gf hd hK (by simp [execOp,cc,hx,convert,run_underlying h1,run_underlying h2]) h rfl rfl
  ·cases h
 ·rename_i hS hT
  obtain ⟨el,h1,q7⟩:=hE.slice hS
  have Au:P.underlying el=some (.int .u8):=hE.tK el _ q7
  have h2:P.underlying T=some .string:=hE.tK T _ hT
  replace h:=I.fr h;obtain ⟨c,h,hc⟩:=h
  replace h:=I.oU h hc;obtain ⟨cv,h,pZ⟩:=h
  replace h:=aQ h;obtain ⟨xs,wy,h⟩:=h
  have:=Cv.iq wy;subst this
  obtain ⟨av,h0,fw⟩:=pZ
  obtain ⟨ad,cap,e1,hle,hh⟩:=fw [] ⟨.i .u8,xs⟩ rfl
  simp only at e1 hh
  rw [h0] at e1
  refine I.gf hd hK ?_ h rfl rfl
  have hc:(convert S T (.slice ad xs.length cap)).run P w = .ok (.string (bytesOf xs)) w:=by
   rw [run_convert_bytes_string w S T el ad xs.length cap h1 Au h2]
   cases ad with
   | none=>
    have hn:xs=[]:=Classical.byContradiction fun hn=>by
     obtain ⟨b,o',cs,p3,fz,h3,_⟩:=hh hn
     cases h3
    subst hn
    simp [Conv.bytesToString,bytesOf,ByteArray.empty,ByteArray.emptyWithCapacity];rfl
   | some adr=>
    have hl:(loadCells adr xs.length).run P w = .ok (xs.map (Value.int .u8)).toArray w:=by
     by_cases hn:xs=[]
     ·subst hn;rfl
     ·obtain ⟨b,o',cs,p3,fz,h3,_,h4,h5⟩:=hh hn
      cases h3
      have:=run_loadCells_list (P:=P) w ⟨b,o',none⟩ (xs.map (Value.int .u8)) (fun j v hj=>by
       obtain ⟨x,hx,rfl⟩:∃x,xs[j]? =some x∧Value.int .u8 x=v:=by simpa using hj
       obtain ⟨u,hu,kE⟩:=h5 j x 0 (.v (.int .u8 x)) hx rfl
       have kE:u = .int .u8 x:=kE
       subst kE
       have e1:aD (.i .u8)=1:=rfl
       simp only [e1,Nat.mul_one,Nat.add_zero] at hu
       rw [show (⟨b,o',none⟩:Addr).add j=⟨b,o'+j,none⟩ by unfold Addr.add;split<;>simp_all,PJ h4]
       exact hu)
      simpa using this
    rw [run_bytesToString w adr xs.length cap xs hl,foldl_push_bytes]
    simp [bytesOf,ByteArray.empty,ByteArray.emptyWithCapacity];rfl
  simp only [execOp,cc,e1,Sem.run_bind,hc,Result.andThen_ok]
  rfl
 ·cases h
theorem Yk (hE:E.Ok P) (I:Inv w0 Mf g st a w) (hd:∀d,o.dst=some d→d<g.n.sz) (hK:Then w0 Mf g st k r K) {c:Call} (cc:o.op = .call c) (hc:c.callee = .builtin .len)
 (h:eE E o st k=some r):o.wp P a w K Q:=by
 simp only [eE,cc,hc,eD] at h
 split at h
 case h_2=>cases h
 rename_i x T gD IA
 have iV:c.args = #[x]:=by apply Array.ext';simpa using gD
 have AP:c.argTypes = #[T]:=by apply Array.ext';simpa using IA
 have key:∀v:Value,(Builtin.len_ #[T] o.type #[a.eval x]).run P w = .ok v w→(execOp a.eval o).run P w = .ok (.value v) w:=by
  intro v hv
  simp [execOp,cc,resolve,hc,invoke,builtin,iV,AP,hv]
 replace h:=I.fr h;obtain ⟨c',h,lR⟩:=h
 have sl:∀ {e:Ty},iw (E.code T)=some e→∃el,P.underlying T=some (.slice el):=fun he=>let ⟨el,h,_⟩:=hE.slice (fN he);⟨el,h⟩
 split at h
 ·replace h:=a8 h;obtain ⟨hT,h⟩:=h
  have hu:P.underlying T=some .string:=hE.tK T _ (tL hT)
  have hx:=lR.2;simp only [lQ] at hx
  exact I.gf hd hK (key _ (by simp [Builtin.len_,run_underlying hu,hx,goInt])) h rfl rfl
 ·replace h:=aQ h;obtain ⟨e,he,h⟩:=h
  obtain ⟨el,hu⟩:=sl he
  have hx:=lR.2;simp only [lQ] at hx
  exact I.gf hd hK (key _ (by simp [Builtin.len_,run_underlying hu,hx,goInt])) h rfl rfl
 ·replace h:=aQ h;obtain ⟨e,he,h⟩:=h
  obtain ⟨el,hu⟩:=sl he
  obtain ⟨av,h0,fw⟩:=lR.2
  obtain ⟨ad,cap,e1,_⟩:=fw [] _ rfl
  rw [h0] at e1
  exact I.gf hd hK (key _ (by simp [Builtin.len_,run_underlying hu,e1,goInt])) h rfl rfl
 ·replace h:=aQ h;obtain ⟨e,he,h⟩:=h
  obtain ⟨el,hu⟩:=sl he
  replace h:=da h;obtain ⟨ro,cZ,h⟩:=h
  replace h:=a8 h;obtain ⟨AO,h⟩:=h
  replace h:=aQ h;obtain ⟨s,hs,h⟩:=h
  obtain ⟨hx,ke⟩:=lR.2.2 ro cZ.x
  obtain ⟨s',fv⟩:=Option.isSome_iff_exists.1 ke
  have:=cX fv;rw [hs] at this;cases this
  obtain ⟨ad,cap,e1,_⟩:=I.nC cZ.1 AO fv
  exact I.gf hd hK (key _ (by simp [Builtin.len_,run_underlying hu,hx.trans e1,goInt])) h rfl rfl
 ·replace h:=aQ h;obtain ⟨e,he,h⟩:=h
  obtain ⟨el,hu⟩:=sl he
  replace h:=de h;obtain ⟨ro,hv,fM,h⟩:=h
  obtain ⟨h1,h2,hx⟩:=lR.2.2 ro ⟨.inl hv,fM,gC _ _⟩
  obtain ⟨ad,cap,e1,_⟩:=(I.nC hv (p:=[]) (s:=⟨ro.t,ro.xs⟩) (by cases ro.md<;>rfl) rfl).ab2 h1 h2
  rw [← hx] at e1
  exact I.gf hd hK (key _ (by simp only [Builtin.len_];simp [run_underlying hu,e1,goInt])) h rfl rfl
 ·cases h
theorem Yl (I:Inv w0 Mf g st a w) (hd:∀d,o.dst=some d→d<g.n.sz) (hK:Then w0 Mf g st k r K) {c:Call} (cc:o.op = .call c) (hc:c.callee = .builtin .min)
 (h:eE E o st k=some r):o.wp P a w K Q:=by
 simp only [eE,cc,hc,eD] at h
 split at h
 case h_2=>cases h
 rename_i x y gD
 have iV:c.args = #[x,y]:=by apply Array.ext';simpa using gD
 replace h:=I.jn h;obtain ⟨h,_⟩:=h
 replace h:=I.jn h;obtain ⟨h,_⟩:=h
 replace h:=aQ h;obtain ⟨z,hz,h⟩:=h
 unfold yN at hz
 split at hz
 ·rename_i k1 n1 k2 n2 hx hy
  simp only [cond_false,Option.some.injEq] at hz;subst hz
  refine I.gf hd hK ?_ h rfl rfl
  simp [execOp,cc,resolve,hc,invoke,builtin,iV,Builtin.min_,hx,hy,Builtin.min2]
 ·cases hz
theorem Ym (I:Inv w0 Mf g st a w) (hd:∀d,o.dst=some d→d<g.n.sz) (hK:Then w0 Mf g st k r K) {c:Call} (cc:o.op = .call c) (hc:c.callee = .builtin .max)
 (h:eE E o st k=some r):o.wp P a w K Q:=by
 simp only [eE,cc,hc,eD] at h
 split at h
 case h_2=>cases h
 rename_i x y gD
 have iV:c.args = #[x,y]:=by apply Array.ext';simpa using gD
 replace h:=I.jn h;obtain ⟨h,_⟩:=h
 replace h:=I.jn h;obtain ⟨h,_⟩:=h
 replace h:=aQ h;obtain ⟨z,hz,h⟩:=h
 unfold yN at hz
 split at hz
 ·rename_i k1 n1 k2 n2 hx hy
  simp only [cond_true,Option.some.injEq] at hz;subst hz
  refine I.gf hd hK ?_ h rfl rfl
  simp [execOp,cc,resolve,hc,invoke,builtin,iV,Builtin.max_,hx,hy,Builtin.max2]
 ·cases hz
theorem yU {w:World} {b:Nat} {us:Array Value} {el:Nat} {fz:Nat×Nat} (hb:w.heap[b]? =some (.cells us el fz)) (o:Nat):w.cell? ⟨b,o,none⟩=us[o]? :=by
 simp [World.cell?,hb]
theorem r9 (hE:E.Ok P) {T:Nat} {t:Ty} (hT:E.code T=some t) {b off:Nat} {us:Array Value} {el:Nat} {fz:Nat×Nat} (hb:w.heap[b]? =some (.cells us el fz)) (hl:off+aD t≤us.size)
 (hf:∀(j:Nat) v,(us.extract off (off+aD t))[j]? =some v→cR v=true):∃u,(loadVar T ⟨b,off,none⟩).run P w = .ok u w∧Form t u (us.extract off (off+aD t)):=by
 cases hs:ik t
 ·have h1:=Ep t hs
  have ct:off<us.size:=by omega
  have hc:=yU hb off
  rw [Array.getElem?_eq_getElem ct] at hc
  refine ⟨us[off],by simp [loadVar,hE.agg hT,hs,hc],?_⟩
  simp only [Form,hs,Bool.false_eq_true,if_false]
  refine ⟨?_,hf 0 _ (by rw [Array.getElem?_extract,if_pos (by omega)];simp [ct])⟩
  apply Array.ext
  ·simp;omega
  ·intro i h2 h3
   have:i=0:=by simp at h3;omega
   subst this;simp
 ·have hlen:(us.extract off (off+aD t)).toList.length=aD t:=by simp;omega
  have:=run_loadCells_list (P:=P) w ⟨b,off,none⟩ (us.extract off (off+aD t)).toList (fun j v hj=>by
   rw [jk,yU hb]
   rw [Array.getElem?_toList,Array.getElem?_extract] at hj
   split at hj
   ·exact hj
   ·cases hj)
  rw [hlen,Array.toArray_toList] at this
  exact ⟨.agg (us.extract off (off+aD t)),by simp [loadVar,hE.agg hT,hs,hE.size hT,this],by simp [Form,hs]⟩
theorem cH.flat {cs:List Sc} {us:Array Value} (h:cH w g st cs us):∀(j:Nat) v,us[j]? =some v→cR v=true:=by
 intro j v hv
 have hi:j<cs.length:=by
  rw [← h.1]
  rcases Nat.lt_or_ge j us.size with h' | h'
  ·exact h'
  ·simp [Array.getElem?_eq_none h'] at hv
 obtain ⟨z,hz,hr⟩:=h.2 j _ (List.getElem?_eq_getElem hi)
 rw [hv] at hz;cases hz;exact hr.1
theorem cH.cut {cs:List Sc} {us:Array Value} (h:cH w g st cs us) (off n:Nat) (hl:off+n≤cs.length):cH w g st ((cs.drop off).take n) (us.extract off (off+n)):=by
 have ff:=h.1
 refine ⟨by simp;omega,fun j c' hj=> ?_⟩
 rw [List.getElem?_take] at hj
 split at hj
 ·rw [List.getElem?_drop] at hj
  obtain ⟨z,hz,hr⟩:=h.2 _ _ hj
  exact ⟨z,by rw [Array.getElem?_extract,if_pos (by omega)];exact hz,hr⟩
 ·cases hj
theorem iB {P':Nat→Prop} {t:Ty} {x:El t} {j:Nat} {c:Cv} (hc:(enc t x)[j]? =some c) {u:Value} (h:pF w P' c u):cR u=true:=by
 cases c with
 | v y=>
  have:=tw t x
  rw [List.all_eq_true] at this
  have:=this _ (List.mem_of_getElem? hc)
  simp only [pF] at h;subst h;exact this
 | l t' ys=>
  obtain ⟨av,h0,fw⟩:=h
  obtain ⟨ad,cap,e,_⟩:=fw [] _ rfl
  rw [h0] at e;subst e;rfl
theorem Inv.GF (I:Inv w0 Mf g st a w) {id ver iv:Nat} {p:Path} {ro:cB} (cZ:Vd st id ver iv p ro) (AO:ro.md.nodeAt p=true) {s:Sl} (hs:aR ro.t ro.xs p=some s) {i:Nat} (hi:i<s.xs.length):
    ∃b oo us el fz,g.rv id p = .slice (some ⟨b,oo,none⟩) s.xs.length (match g.rv id p with | .slice _ _ c=>c | _=>0)∧w.heap[b]? =some (.cells us el fz)∧oo+i*aD s.t+aD s.t≤us.size∧
      cH w g st ((enc s.t (ar s.xs i)).zipIdx.map fun (c,j)=>match c with | .v x=> .v x | .l t ys=>cond ro.md.xA (.ro t ys) (.h id ver ro.log.length (p++[(i,j)])))
 (us.extract (oo+i*aD s.t) (oo+i*aD s.t+aD s.t)):=by
 obtain ⟨ad,cap,e1,hle,hh⟩:=I.nC cZ.1 AO hs
 obtain ⟨b,oo,us,el,fz,rfl,hP,hb,eP⟩:=hh (fun ri=>by rw [ri] at hi;simp at hi)
 have hx:=c9 hi
 have hlen:=br s.t (ar s.xs i)
 have xc:=gK s.t
 -- each cell
 have lX:∀(j:Nat) (c:Cv),(enc s.t (ar s.xs i))[j]? =some c→∃u,us[oo+i*aD s.t+j]? =some u∧eF c u (g.rv id (p++[(i,j)])):=fun j c hc=>eP i _ j c hx hc
 have gq:oo+i*aD s.t+aD s.t≤us.size:=by
  have:∃c,(enc s.t (ar s.xs i))[aD s.t-1]? =some c:=⟨_,List.getElem?_eq_getElem (by omega)⟩
  obtain ⟨c,hc⟩:=this
  obtain ⟨u,hu,_⟩:=lX _ c hc
  rcases Nat.lt_or_ge (oo+i*aD s.t+(aD s.t-1)) us.size with h' | h'
  ·omega
  ·simp [Array.getElem?_eq_none h'] at hu
 refine ⟨b,oo,us,el,fz,by rw [e1],hb,gq,?_⟩
 refine ⟨by simp [hlen];omega,fun j c' hj=> ?_⟩
 rw [List.getElem?_map,List.getElem?_zipIdx] at hj
 cases hc:(enc s.t (ar s.xs i))[j]? with
 | none=>simp [hc] at hj
 | some c=>
  simp only [hc,Option.map_some,Option.some.injEq,Nat.zero_add] at hj
  have GG:j<aD s.t:=by
   rw [← hlen]
   rcases Nat.lt_or_ge j (enc s.t (ar s.xs i)).length with h' | h'
   ·exact h'
   ·simp [List.getElem?_eq_none h'] at hc
  obtain ⟨u,hu,kE⟩:=lX j c hc
  refine ⟨u,by rw [Array.getElem?_extract,if_pos (by omega)];exact hu,?_⟩
  cases c with
  | v y=>
   simp only at hj;subst hj
   simp only [eF] at kE;subst kE
   exact ⟨iB (P':=fun _=>True) (w:=w) hc rfl,rfl⟩
  | l t ys=>
   simp only at hj
   simp only [eF] at kE
   have dy:aR ro.t ro.xs (p++[(i,j)])=some ⟨t,ys⟩:=by
    rw [ch _ hs];simp only [aR,hx,hc]
   have oV:cR u=true:=by
    rw [kE];exact I.AH cZ.1 dy
   cases hd:ro.md.xA
   rotate_left
   ·simp only [hd,cond_true] at hj;subst hj
    refine ⟨oV,fun q=>g.rv id ((p++[(i,j)])++q),by simp [kE],?_⟩
    have hr:=I.roots id ro cZ.1
    unfold aS at hr
    have hts:dR w (fun k=>g.ro k) t ys fun q=>g.rv id ((p++[(i,j)])++q):=by
     intro q s' fv
     have Ti:aR ro.t ro.xs ((p++[(i,j)])++q)=some s':=by rw [ch _ dy];exact fv
     split at hr
     ·rename_i hm;simp [hm,Md.xA] at hd
     ·have:=hr.2 _ s' (by simp) Ti
      simpa [List.append_assoc] using this
     ·have:=hr _ s' Ti
      simpa [List.append_assoc] using this
     ·rename_i hm;simp [hm,Md.xA] at hd
    exact hts
   ·simp only [hd,cond_false] at hj;subst hj
    refine ⟨oV,?_,fun r' kF=> ?_⟩
    ·unfold cJ;simp only [cZ.1];exact .inr ⟨cZ.2.1.symm,Nat.le_refl _⟩
    ·have:r'=ro:=kF.is cZ.1
     subst this
     exact ⟨kE,by rw [dy];rfl⟩
theorem UM (hE:E.Ok P) (I:Inv w0 Mf g st a w) (hd:∀d,o.dst=some d→d<g.n.sz) (hK:Then w0 Mf g st k r K) {T:Nat} {x:Operand} (cc:o.op = .load T x)
 (h:eE E o st k=some r):o.wp P a w K Q:=by
 simp only [eE,cc] at h
 replace h:=aQ h;obtain ⟨t,hT,h⟩:=h
 replace h:=I.fr h;obtain ⟨c,h,hc⟩:=h
 -- where it lies, and what is there
 have fin:∀(b off:Nat) (us:Array Value) (el:Nat) (fz:Nat×Nat) (cs:List Sc),a.eval x = .pointer (some ⟨b,off,none⟩)→w.heap[b]? =some (.cells us el fz)→off+aD t≤us.size→
   cH w g st cs (us.extract off (off+aD t))→((AA t cs).bind fun c=>k (put o (.c c)))=some r→o.wp P a w K Q:=by
  intro b off us el fz cs hx hb hl fe h
  replace h:=aQ h;obtain ⟨cm,yT,h⟩:=h
  obtain ⟨u,er,eA⟩:=r9 hE hT hb hl fe.flat
  obtain ⟨u',et,yV⟩:=Form.of yT fe
  have:u=u':=by
   unfold Form at eA et
   split at eA
   ·rename_i lW;simp only [lW,if_true] at et;rw [eA,et]
   ·rename_i lW;simp only [lW] at et;have:=eA.1.symm.trans et.1;simpa using this
  subst this
  exact I.val hd hK (by simp [execOp,cc,Instr.loadAt,hx,Instr.sureAddr,er]) h yV
 unfold loadAt at h
 split at h
 ·rename_i b off
  replace h:=aQ h;obtain ⟨bx,yS,h⟩:=h
  replace h:=a8 h;obtain ⟨hl,h⟩:=h
  have hl:=gw hl
  obtain ⟨us,el,hb,fe⟩:=I.boxes b bx yS
  have:=fe.1
  exact fin _ _ us el _ _ hc.2.1 hb (by omega) (fe.cut off (aD t) hl) h
 ·rename_i id ver iv p i off
  replace h:=da h;obtain ⟨ro,cZ,h⟩:=h
  replace h:=a8 h;obtain ⟨AO,h⟩:=h
  replace h:=aQ h;obtain ⟨s,hs,h⟩:=h
  replace h:=a8 h;obtain ⟨hl,h⟩:=h
  have hl:=gw hl
  obtain ⟨s',b,oo,n,cap,h1,h2,h3,hu⟩:=hc.2.2 ro cZ.x
  have:=cX h1;rw [hs] at this;cases this
  obtain ⟨b',UL,us,el,fz,e1,hb,gq,fe⟩:=I.GF cZ AO h1 h2
  rw [h3] at e1
  simp only [Value.slice.injEq,Option.some.injEq,Addr.mk.injEq,and_true] at e1
  obtain ⟨⟨rfl,rfl⟩,_⟩:=e1
  have hlen:((enc s.t (ar s.xs i)).zipIdx.map fun (c,j)=>(match c with | .v x=>Sc.v x | .l t ys=>cond ro.md.xA (.ro t ys) (.h id ver ro.log.length (p++[(i,j)])))).length=aD s.t:=by simp [br]
  have xb:=fe.cut off (aD t) (by rw [hlen];omega)
  have hex:(us.extract (oo+i*aD s.t) (oo+i*aD s.t+aD s.t)).extract off (off+aD t)=us.extract (oo+i*aD s.t+off) (oo+i*aD s.t+off+aD t):=by
   apply Array.ext
   ·simp;omega
   ·intro i' h1 h2;simp [Nat.add_assoc]
  rw [hex] at xb
  refine fin _ _ us el fz _ hu hb (by omega) xb ?_
  rw [List.map_take,List.map_drop] at h
  exact h
 ·rename_i t' y off
  replace h:=a8 h;obtain ⟨hl,h⟩:=h
  have hl:=gw hl
  obtain ⟨b,oo,us,el,fz,hu,hP,hb,nE⟩:=hc.2
  have hlen:=br t' y
  have xc:=gK t'
  have gq:oo+aD t'≤us.size:=by
   have:∃c,(enc t' y)[aD t'-1]? =some c:=⟨_,List.getElem?_eq_getElem (by omega)⟩
   obtain ⟨c,hc⟩:=this
   obtain ⟨u,hu,_⟩:=nE _ c hc
   rcases Nat.lt_or_ge (oo+(aD t'-1)) us.size with h' | h'
   ·omega
   ·simp [Array.getElem?_eq_none h'] at hu
  have eO:cH w g st ((enc t' y).map fun | .v x=>Sc.v x | .l t ys=> .ro t ys) (us.extract oo (oo+aD t')):=by
   refine ⟨by simp [hlen];omega,fun j c' hj=> ?_⟩
   rw [List.getElem?_map] at hj
   cases Po:(enc t' y)[j]? with
   | none=>simp [Po] at hj
   | some cv=>
    simp only [Po,Option.map_some,Option.some.injEq] at hj
    obtain ⟨z,hz,p4⟩:=nE j cv Po
    have GG:j<aD t':=by
     rw [← hlen]
     rcases Nat.lt_or_ge j (enc t' y).length with h' | h'
     ·exact h'
     ·simp [List.getElem?_eq_none h'] at Po
    refine ⟨z,by rw [Array.getElem?_extract,if_pos (by omega)];exact hz,iB Po p4,?_⟩
    cases cv with
    | v q=>simp only at hj;subst hj;exact p4
    | l t1 ys=>simp only at hj;subst hj;exact p4
  have xb:=eO.cut off (aD t) (by simp [hlen];omega)
  have hex:(us.extract oo (oo+aD t')).extract off (off+aD t)=us.extract (oo+off) (oo+off+aD t):=by
   apply Array.ext
   ·simp;omega
   ·intro i' h1 h2;simp [Nat.add_assoc]
  rw [hex] at xb
  refine fin _ _ us el fz _ hu hb (by omega) xb ?_
  rw [List.map_take,List.map_drop] at h
  exact h
 ·cases h
def gE (w:World) (o:Obj):World:={ w with heap:=w.heap.push o }
theorem AQ (w:World) (o:Obj):(gE w o).heap[w.heap.size]? =some o:=by show (w.heap.push o)[w.heap.size]? =_;rw [Array.getElem?_push,if_pos rfl]
theorem lY (w:World) (o:Obj):bH (fun _=>False) w (gE w o):=
 ⟨by simp [gE],fun b hb _=>by simp only [gE];rw [Array.getElem?_push,if_neg (by omega)]⟩
theorem Kept.step {w1 w2:World} {X:Nat→Prop} (h:Kept w0 w1 Mf) (ho:w2.os=w1.os) (ht:w2.tape=w1.tape) (hp:w2.output=w1.output) (hs:bH X w1 w2)
 (hX:∀k,X k→w0.heap.size≤k∨Mf k):Kept w0 w2 Mf:=
 ⟨ho.trans h.os,ht.trans h.tape,hp.trans h.output,⟨Nat.le_trans h.same.1 hs.1,fun b hb hm=>
 (hs.2 b (Nat.lt_of_lt_of_le hb h.same.1) fun hx=>(hX b hx).elim (fun h=>by omega) hm).trans (h.same.2 b hb hm)⟩⟩
theorem Kept.push (h:Kept w0 w Mf) (o:Obj):Kept w0 (gE w o) Mf:=h.step rfl rfl rfl (lY w o) (fun _ h=>h.elim)
theorem Inv.push (I:Inv w0 Mf g st a w) (o:Obj):Inv w0 Mf g st a (gE w o):=
  I.world (lY w o) (fun _ _=>id) (fun _ _ _ _=>id) (fun _ _=>id) (I.kept.push o)
def Gh.dB (g:Gh) (d nb:Nat):Gh:={ g with bx:=fun i=>if i=d then nb else g.bx i }
theorem lQ.dB {d nb:Nat} {x:Bx} (hn:ax st.boxes d=none) {c:Sc} {u:Value} (h:lQ w g st c u):lQ w (g.dB d nb) { st with boxes:=aX st.boxes d x } c u:=by
 have hb:∀b,(ax st.boxes b).isSome→b≠d∧(ax (aX st.boxes d x) b).isSome:=fun b hb=>by
  have:b≠d:=fun e=>by subst e;simp [hn] at hb
  exact ⟨this,by rw [bX _ _ this];exact hb⟩
 cases c with
 | pt b off=>obtain ⟨h1,h2⟩:=hb b h.2;exact ⟨by simp only [Gh.dB,h1,if_false];exact h.1,h2⟩
 | fH fn bs=>
  refine ⟨?_,fun b hm=>(hb b (h.2 b hm)).2⟩
  have:bs.map (fun b=>Value.pointer (some ⟨(g.dB d nb).bx b,0,none⟩))=bs.map (fun b=>Value.pointer (some ⟨g.bx b,0,none⟩)):=
   List.map_congr_left fun b hm=>by simp [Gh.dB,(hb b (h.2 b hm)).1]
  rw [this];exact h.1
 | _=>exact h
theorem Inv.CW (I:Inv w0 Mf g st a w) {d nb:Nat} (hn:ax st.boxes d=none) {t:Ty} {cs:List Sc} {us:Array Value} {el:Nat} (hb:w.heap[nb]? =some (.cells us el (0,0)))
 (fe:cH w g st cs us) (hr:∀id,aP st id→ ¬g.rf id nb) (cZ : ¬g.ro nb) (yS:∀b,bA st b→g.bx b≠nb) (hm:w0.heap.size≤nb∨Mf nb):
    Inv w0 Mf (g.dB d nb) { st with boxes:=aX st.boxes d ⟨t,cs⟩ } a w:=by
 have Ig:∀c u,aZ w g st c u→aZ w (g.dB d nb) { st with boxes:=aX st.boxes d ⟨t,cs⟩ } c u:=fun _ _ hc=>⟨hc.1,hc.2.dB hn⟩
 have cU:∀b,bA { st with boxes:=aX st.boxes d ⟨t,cs⟩ } b→b=d∨(b≠d∧bA st b):=fun b h=>by
  by_cases e:b=d
  ·exact .inl e
  ·exact .inr ⟨e,by simpa [bA,aF,e] using h⟩
 exact {
  aA:=fun s sv h=>let ⟨u,hu,hr⟩:=I.aA s sv h;⟨u,hu,hr.map Ig⟩
  boxes:=fun b x h=>by
   simp only [aF] at h
   by_cases e:b=d
   ·subst e
    simp only [if_true,Option.some.injEq] at h;subst h
    exact ⟨us,el,by simpa [Gh.dB] using hb,fe.map Ig⟩
   ·simp only [e,if_false] at h
    obtain ⟨us',p3,h1,h2⟩:=I.boxes b x h
    exact ⟨us',p3,by simpa [Gh.dB,e] using h1,h2.map Ig⟩
  roots:=I.roots
  apart:={
   rr:=I.apart.rr
   rb:=fun id b h1 h2=>by
    rcases cU b h2 with rfl | ⟨e,h⟩
    ·simpa [Gh.dB] using hr id h1
    ·simpa [Gh.dB,e] using I.apart.rb id b h1 h
   bb:=fun b b' h1 h2 h3=>by
    rcases cU b h1 with rfl | ⟨e,h⟩<;>rcases cU b' h2 with rfl | ⟨e',h'⟩
    ·rfl
    ·simp only [Gh.dB,if_true,e',if_false] at h3;exact (yS b' h' h3.symm).elim
    ·simp only [Gh.dB,if_true,e,if_false] at h3;exact (yS b h h3).elim
    ·simp only [Gh.dB,e,e',if_false] at h3;exact I.apart.bb b b' h h' h3
   dZ:=I.apart.dZ
   fL:=fun b h=>by
    rcases cU b h with rfl | ⟨e,h⟩
    ·simpa [Gh.dB] using cZ
    ·simpa [Gh.dB,e] using I.apart.fL b h
   ck:=I.apart.ck
   dA:=fun b h=>by
    rcases cU b h with rfl | ⟨e,h⟩
    ·simpa [Gh.dB] using hm
    ·simpa [Gh.dB,e] using I.apart.dA b h
   eb:=I.apart.eb
   c7:=I.apart.c7
   bU:=I.apart.bU }
  kept:=I.kept
  defers:=I.defers
  size:=I.size
  base:=⟨I.base.wl,I.base.ap,I.base.ro⟩ }
theorem cH.push {cs:List Sc} {us:Array Value} (h:cH w g st cs us) (o:Obj):cH (gE w o) g st cs us:=
  h.map fun c u hc=>⟨hc.1,hc.2.world (lY w o) (fun _ _=>id)⟩
theorem Inv.alloc (I:Inv w0 Mf g st a w) {d:Nat} (hn:ax st.boxes d=none) {t:Ty} {cs:List Sc} {us:Array Value} (el:Nat) (fe:cH w g st cs us):
    Inv w0 Mf (g.dB d w.heap.size) { st with boxes:=aX st.boxes d ⟨t,cs⟩ } a (gE w (.cells us el)):=
 (I.push _).CW hn (AQ _ _) (fe.push _) (fun id h1 h2=>by have:=I.apart.eb id _ h1 h2;omega) (fun h=>by have:=I.apart.c7 _ h;omega)
 (fun b h e=>by
      obtain ⟨x,hx⟩:=Option.isSome_iff_exists.1 h
      obtain ⟨us',p3,h1,_⟩:=I.boxes b x hx
      have:=(Array.getElem?_eq_some_iff.1 h1).1
      omega) (.inl I.kept.same.1)
theorem Ev (t:Ty):cH w g st (p8 t) (ef t).toArray:=by
 refine ⟨by simp [p8,ef],fun j c hj=> ?_⟩
 simp only [p8,List.getElem?_map] at hj
 cases hc:(enc t (zero t))[j]? with
 | none=>simp [hc] at hj
 | some cv=>
  simp only [hc,Option.map_some,Option.some.injEq] at hj
  cases cv with
  | v x=>simp only at hj;subst hj;exact ⟨x,by simp [ef,hc],iB (P':=fun _=>True) (w:=w) hc rfl,rfl⟩
  | l t' ys=>simp only at hj;subst hj;exact ⟨.slice none 0 0,by simp [ef,hc],rfl,rfl⟩
theorem tN {T:Nat} {v:Value} (w:World):(newVar T v).run P w = .ok ⟨w.heap.size,0,none⟩ (gE w (.cells v.cells T)):=by
 simp [newVar,newRow,gE]
theorem PK (hE:E.Ok P) (I:Inv w0 Mf g st a w) (hd:∀d,o.dst=some d→d<g.n.sz) (hK:Then w0 Mf g st k r K) {T:Nat} (cc:o.op = .alloc T)
 (h:eE E o st k=some r):o.wp P a w K Q:=by
 simp only [eE,cc] at h
 replace h:=aQ h;obtain ⟨t,hT,h⟩:=h
 replace h:=aQ h;obtain ⟨d,kf,h⟩:=h
 split at h
 case h_2=>cases h
 rename_i hn
 obtain ⟨zv,hz,AR⟩:=hE.zero hT w
 have I':=I.alloc hn T (Ev (w:=w) (g:=g) (st:=st) t) (t:=t)
 have UN:=I'.CR (dst:=some d) (fun d' e=>by simp only [Option.some.injEq] at e;subst e;exact hd d kf) (s:= .c (.one (.pt d 0))) (v:= .pointer (some ⟨w.heap.size,0,none⟩))
  ⟨rfl,by simp [lQ,Gh.dB,bd]⟩
 refine nD (v:= .pointer (some ⟨w.heap.size,0,none⟩)) (w':=gE w (.cells (ef t).toArray T)) ?_ ?_
 ·simp [execOp,cc,Instr.alloc,hz,tN,AR]
 ·rw [kf]
  exact hK _ (g.dB d w.heap.size) _ _ h rfl UN
theorem Yn (hE:E.Ok P) (I:Inv w0 Mf g st a w) (hd:∀d,o.dst=some d→d<g.n.sz) (hK:Then w0 Mf g st k r K) {T:Nat} {x:Operand} (cc:o.op = .box T x)
 (h:eE E o st k=some r):o.wp P a w K Q:=by
 simp only [eE,cc] at h
 replace h:=aQ h;obtain ⟨t,hT,h⟩:=h
 replace h:=aQ h;obtain ⟨d,kf,h⟩:=h
 split at h
 case h_2=>cases h
 rename_i hn
 replace h:=I.dk h;obtain ⟨s,h,hs⟩:=h
 replace h:=aQ h;obtain ⟨cs,fe,h⟩:=h
 replace h:=a8 h;obtain ⟨hl,h⟩:=h
 obtain ⟨us,eA,sT⟩:=dm fe hs
 have I':=I.alloc hn T sT (t:=t)
 have UN:=I'.CR (dst:=some d) (fun d' e=>by simp only [Option.some.injEq] at e;subst e;exact hd d kf) (s:= .c (.one (.pt d 0))) (v:= .pointer (some ⟨w.heap.size,0,none⟩))
  ⟨rfl,by simp [lQ,Gh.dB,bd]⟩
 refine nD (v:= .pointer (some ⟨w.heap.size,0,none⟩)) (w':=gE w (.cells us T)) ?_ ?_
 ·simp [execOp,cc,Instr.box,tN,eA.cells]
 ·rw [kf]
  exact hK _ (g.dB d w.heap.size) _ _ h rfl UN
theorem Inv.qf (I:Inv w0 Mf g st a w) {b:Nat} (cU:bA st b) {w':World} (hs:bH (fun k=>k=g.bx b) w w') (hk:Kept w0 w' Mf) {t:Ty} {cs:List Sc} {us:Array Value} {el:Nat}
    (hb:w'.heap[g.bx b]? =some (.cells us el (0,0))) (fe:cH w g st cs us):Inv w0 Mf g { st with boxes:=aX st.boxes b ⟨t,cs⟩ } a w':=by
 have cZ:∀k,g.ro k→ ¬k=g.bx b:=fun k h1 h2=>I.apart.fL b cU (h2▸h1)
 have hm:∀c u,aZ w g st c u→aZ w' g { st with boxes:=aX st.boxes b ⟨t,cs⟩ } c u:=fun c u hc=>
  ⟨hc.1,lQ.roots (st:=st) (fun b' gB=>by
    simp only [aF];split
    ·rfl
    ·exact gB) (fun _ _ _ h=>h) (fun _ _ _ _ _ _ h=>h) (hc.2.world hs cZ)⟩
 have qg:∀b',bA { st with boxes:=aX st.boxes b ⟨t,cs⟩ } b'→bA st b':=fun b' h=>by
  by_cases e:b'=b
  ·subst e;exact cU
  ·simpa [bA,aF,e] using h
 exact {
  aA:=fun s sv h=>let ⟨u,hu,hr⟩:=I.aA s sv h;⟨u,hu,hr.map hm⟩
  boxes:=fun b' x h=>by
   simp only [aF] at h
   by_cases e:b'=b
   ·subst e
    simp only [if_true,Option.some.injEq] at h;subst h
    exact ⟨us,el,hb,fe.map hm⟩
   ·simp only [e,if_false] at h
    obtain ⟨us',p3,h1,h2⟩:=I.boxes b' x h
    refine ⟨us',p3,hs.get h1 (fun e'=>e (I.apart.bb b' b (by simp [bA,h]) cU e')),h2.map hm⟩
  roots:=fun id r h=>by
   have hr:=I.roots id r h
   have hx:r.md.cr=false→∀k,g.rf id k→ ¬k=g.bx b:=fun hm k h1 h2=>I.apart.rb id b ⟨r,h,hm⟩ cU (h2▸h1)
   unfold aS at hr ⊢
   split at hr
   ·rename_i cI;exact hr.same hs (hx (by rw [cI];rfl))
   ·rename_i cI;exact hr.same hs (hx (by rw [cI];rfl)) cZ
   ·exact hr.same hs cZ
   ·rename_i cI;exact hr.same hs (hx (by rw [cI];rfl))
  apart:={
   rr:=I.apart.rr
   rb:=fun id b' h1 h2=>I.apart.rb id b' h1 (qg _ h2)
   bb:=fun b1 b2 h1 h2=>I.apart.bb b1 b2 (qg _ h1) (qg _ h2)
   dZ:=I.apart.dZ
   fL:=fun b' h=>I.apart.fL b' (qg _ h)
   ck:=I.apart.ck
   dA:=fun b' h=>I.apart.dA b' (qg _ h)
   eb:=fun id k h1 h2=>Nat.lt_of_lt_of_le (I.apart.eb id k h1 h2) hs.1
   c7:=fun k h=>Nat.lt_of_lt_of_le (I.apart.c7 k h) hs.1
   bU:=I.apart.bU }
  kept:=hk
  defers:=I.defers
  size:=I.size
  base:=⟨I.base.wl,I.base.ap,I.base.ro⟩ }
theorem eQ (w:World) (b:Nat) (us:Array Value):bH (fun k=>k=b) w (w.setRow b us):=
 ⟨by simp,fun k _ h=>setRow_other w b k us h⟩
theorem cH.set {cs ys:List Sc} {us vs:Array Value} (h:cH w g st cs us) (hy:cH w g st ys vs) (off:Nat) (hl:off+ys.length≤cs.length):
    cH w g st (dY cs off ys) (us.toList.take off++vs.toList++us.toList.drop (off+vs.toList.length)).toArray:=by
 have h1:=h.l
 have h2:=hy.l
 have hlen:=h.1
 have Yo:=hy.1
 refine lV.arr ?_
 refine lV.of (by simp [dY];omega) fun j c hj=> ?_
 simp only [dY] at hj
 by_cases hj1:j<off
 ·rw [List.append_assoc,List.getElem?_append_left (by simp;omega),List.getElem?_take,if_pos hj1] at hj
  obtain ⟨z,hz,hr⟩:=h1.get j c hj
  exact ⟨z,by simp only;rw [List.append_assoc,List.getElem?_append_left (by simp;omega),List.getElem?_take,if_pos hj1];exact hz,hr⟩
 ·by_cases hj2:j<off+ys.length
  ·rw [List.getElem?_append_left (by simp;omega),List.getElem?_append_right (by simp;omega)] at hj
   have e:min off cs.length=off:=by omega
   simp only [List.length_take,e] at hj
   obtain ⟨z,hz,hr⟩:=h2.get _ c hj
   refine ⟨z,?_,hr⟩
   simp only
   rw [List.getElem?_append_left (by simp;omega),List.getElem?_append_right (by simp;omega)]
   have e':min off us.size=off:=by omega
   simpa [e'] using hz
  ·rw [List.getElem?_append_right (by simp;omega)] at hj
   have e:min off cs.length=off:=by omega
   simp only [List.length_append,List.length_take,e,List.getElem?_drop] at hj
   obtain ⟨z,hz,hr⟩:=h1.get _ c hj
   refine ⟨z,?_,hr⟩
   simp only
   rw [List.getElem?_append_right (by simp;omega)]
   have e':min off us.size=off:=by omega
   simp only [List.length_append,List.length_take,Array.length_toList,e',List.getElem?_drop,Yo]
   exact hz
theorem tO {v:Value} (h:cR v=true):v.oneCell'=true:=by cases v<;>first | rfl | simp [cR] at h
theorem qh (hE:E.Ok P) {T:Nat} {t:Ty} (hT:E.code T=some t) {b off:Nat} {us:Array Value} {el:Nat} (hb:w.heap[b]? =some (.cells us el (0,0))) {v:Value} {vs:Array Value} (hf:Form t v vs)
 (hs:vs.size=aD t) (hl:off+aD t≤us.size) (oV:∀(j:Nat) z,vs[j]? =some z→cR z=true):
 (storeVar T ⟨b,off,none⟩ v).run P w = .ok () (w.setRow b (us.toList.take off++vs.toList++us.toList.drop (off+vs.toList.length)).toArray):=by
 have:=run_storeCells_at (P:=P) b off el vs.toList 0 us w hb (by simp;omega) (fun z hz=>by
  obtain ⟨j,hj⟩:=List.getElem?_of_mem hz
  exact tO (oV j z (by simpa using hj)))
 simp only [Nat.add_zero] at this
 simp [storeVar,hf.cells,hE.size hT,hs,this]
end Go.Gm
namespace Go.Gm
open Go
variable {w : World}
structure dI (w:World) (ro:Nat→Prop) (deep:Bool) (t:Ty) (xs:List (El t)) (cs:Array Value) (o:Nat) (G:Nat→Nat→Nat→Prop):Prop where
 rows:∀i x j c,xs[i]? =some x→(enc t x)[j]? =some c→∃u,cs[o+i*aD t+j]? =some u∧pF w (fun k=>G i j k∨ro k) c u∧(deep=true→iO w (G i j) c u)
 Tj:∀i j i' j' k,G i j k→G i' j' k→i=i'∧j=j'
theorem bB.nt {F:Nat→Prop} {t:Ty} {ys:List (El t)} {v:Value} {eW:Nat→Nat→Value} (h:bB w F t ys v eW) {k:Nat} (hk:q6 v=some k):F k:=by
 rcases h with ⟨_,rfl⟩ | ⟨b,o,cap,cs,el,rfl,hF,_⟩
 ·simp [q6] at hk
 ·simp only [q6,Option.some.injEq] at hk;subst hk;exact hF
theorem bB.XN {F G:Nat→Prop} {t:Ty} {ys:List (El t)} {v:Value} {eW:Nat→Nat→Value} (h:bB w F t ys v eW) (hG:∀k,q6 v=some k→G k):bB w G t ys v eW:=by
 rcases h with h | ⟨b,o,cap,cs,el,rfl,hF,h⟩
 ·exact .inl h
 ·exact .inr ⟨b,o,cap,cs,el,rfl,hG b rfl,h⟩
theorem bB.eW {F:Nat→Prop} {t:Ty} {ys:List (El t)} {v:Value} {eW CX:Nat→Nat→Value} (h:bB w F t ys v eW) (hk:∀i y (j:Nat) t' zs,ys[i]? =some y→(enc t y)[j]? =some (.l t' zs)→CX i j=eW i j):
    bB w F t ys v CX:=by
 rcases h with h | ⟨b,o,cap,cs,el,h1,h2,h3,h4,h5,h6⟩
 ·exact .inl h
 ·refine .inr ⟨b,o,cap,cs,el,h1,h2,h3,h4,h5,fun i y j c hy hc=> ?_⟩
  obtain ⟨u,hu,kE⟩:=h6 i y j c hy hc
  refine ⟨u,hu,?_⟩
  cases c with
  | v x=>exact kE
  | l t' zs=>simp only [eF] at kE ⊢;rw [hk i y j t' zs hy hc];exact kE
theorem ep.eW {F:Nat→Prop} {t:Ty} {ys:List (El t)} {v:Value} {eW CX:Nat→Nat→Value} (h:ep w F t ys v eW) (hk:∀i y (j:Nat) t' zs,ys[i]? =some y→(enc t y)[j]? =some (.l t' zs)→CX i j=eW i j):
    ep w F t ys v CX:=by
 obtain ⟨a,cap,h1,h2,h3⟩:=h
 refine ⟨a,cap,h1,h2,fun hn=> ?_⟩
 obtain ⟨b,o,cs,el,fz,h4,h5,h6,h7⟩:=h3 hn
 refine ⟨b,o,cs,el,fz,h4,h5,h6,fun i y j c hy hc=> ?_⟩
 obtain ⟨u,hu,kE⟩:=h7 i y j c hy hc
 refine ⟨u,hu,?_⟩
 cases c with
 | v x=>exact kE
 | l t' zs=>simp only [eF] at kE ⊢;rw [hk i y j t' zs hy hc];exact kE
theorem bB.here {w':World} {F:Nat→Prop} {X:Nat→Prop} (hs:bH X w w') {t:Ty} {ys:List (El t)} {v:Value} {eW:Nat→Nat→Value} (h:bB w F t ys v eW)
 (hx:∀k,q6 v=some k→ ¬X k):bB w' F t ys v eW:=by
 rcases h with h | ⟨b,o,cap,cs,el,rfl,h2,h3,h4⟩
 ·exact .inl h
 ·exact .inr ⟨b,o,cap,cs,el,rfl,h2,hs.get h3 (hx b rfl),h4⟩
def gF (t:Ty) (xs:List (El t)) (av:Path→Value) (p:Path) (k:Nat):Prop:=∃q s,aR t xs (p++q)=some s∧q6 (av (p++q))=some k
theorem bo.at {F:Nat→Prop} {t:Ty} {xs:List (El t)} {av:Path→Value} (h:bo w F t xs av) {p:Path} {s:Sl} (hs:aR t xs p=some s):
    bo w (gF t xs av p) s.t s.xs fun q=>av (p++q):=by
 refine ⟨fun q s' fv=> ?_,fun q q' s1 s2 b h1 h2 h3 h4=> ?_⟩
 ·have hp:aR t xs (p++q)=some s':=by rw [ch q hs];exact fv
  have:=(h.1 (p++q) s' hp).XN (G:=gF t xs av p) fun k hk=>⟨q,s',hp,hk⟩
  simpa [List.append_assoc] using this
 ·have e1:aR t xs (p++q)=some s1:=by rw [ch q hs];exact h1
  have e2:aR t xs (p++q')=some s2:=by rw [ch q' hs];exact h2
  exact List.append_cancel_left (h.2 _ _ _ _ b e1 e2 h3 h4)
theorem kg {t:Ty} {xs:List (El t)} {i j:Nat} {x:El t} {t':Ty} {ys:List (El t')} (hx:xs[i]? =some x) (hc:(enc t x)[j]? =some (.l t' ys)):aR t xs [(i,j)]=some ⟨t',ys⟩:=by
 simp only [aR,hx,hc]
theorem bo.pieces {F ro:Nat→Prop} {t:Ty} {xs:List (El t)} {av:Path→Value} (h:bo w F t xs av) {cs:Array Value} {o:Nat} (hr:RowsIn t xs cs o fun i j=>av [(i,j)]):
    dI w ro true t xs cs o (fun i j=>gF t xs av [(i,j)]):=by
 refine ⟨fun i x j c hx hc=> ?_,fun i j i' j' k ⟨q,s,h1,h2⟩ ⟨q',s',h3,h4⟩=> ?_⟩
 ·obtain ⟨u,hu,kE⟩:=hr i x j c hx hc
  refine ⟨u,hu,?_,fun _=> ?_⟩
  ·cases c with
   | v y=>exact kE
   | l t' ys=>
    have hs:=kg hx hc
    exact ⟨fun q=>av ([(i,j)]++q),by simpa [eF] using kE.symm,(h.at hs).rd.mono fun k=> .inl⟩
  ·cases c with
   | v y=>exact kE
   | l t' ys=>exact ⟨fun q=>av ([(i,j)]++q),by simpa [eF] using kE.symm,h.at (kg hx hc)⟩
 ·have:=h.2 _ _ _ _ k h1 h3 h2 h4
  simp only [List.singleton_append,List.cons.injEq,Prod.mk.injEq] at this
  exact this.1
theorem mz.pieces {F ro:Nat→Prop} {t:Ty} {xs:List (El t)} {av:Path→Value} (h:mz w F ro t xs av) {cs:Array Value} {o:Nat} (hr:RowsIn t xs cs o fun i j=>av [(i,j)]):
    dI w ro false t xs cs o (fun _ _ _=>False):=by
 refine ⟨fun i x j c hx hc=> ?_,fun i j i' j' k h=>h.elim⟩
 obtain ⟨u,hu,kE⟩:=hr i x j c hx hc
 refine ⟨u,hu,?_,fun h=>by cases h⟩
 cases c with
 | v y=>exact kE
 | l t' ys=>
  have hs:=kg hx hc
  refine ⟨fun q=>av ([(i,j)]++q),by simpa [eF] using kE.symm,fun q s' fv=> ?_⟩
  have hp:aR t xs ([(i,j)]++q)=some s':=by rw [ch q hs];exact fv
  have:=(h.2 ([(i,j)]++q) s' (by simp) hp).mono (Q:=fun k=>False∨ro k) fun k=> .inr
  simpa [List.append_assoc] using this
open Classical in
theorem dI.own {ro:Nat→Prop} {t:Ty} {xs:List (El t)} {cs:Array Value} {o b cap el:Nat} {G:Nat→Nat→Nat→Prop} (h:dI w ro true t xs cs o G)
 (hb:w.heap[b]? =some (.cells cs el (0,0))) (gx:xs.length≤cap) (ff:o+cap*aD t≤cs.size) (hG:∀i j,¬G i j b):
    ∃av,av [] = .slice (some ⟨b,o,none⟩) xs.length cap∧bo w (fun k=>k=b∨∃i j,G i j k) t xs av:=by
 have hw:∀ij:Nat×Nat,∃f:Path→Value,∀x t' ys,xs[ij.1]? =some x→(enc t x)[ij.2]? =some (.l t' ys)→cs[o+ij.1*aD t+ij.2]? =some (f [])∧bo w (G ij.1 ij.2) t' ys f:=by
  intro ⟨i,j⟩
  by_cases hex:∃x t' ys,xs[i]? =some x∧(enc t x)[j]? =some (.l t' ys)
  ·obtain ⟨x,t',ys,hx,hc⟩:=hex
   obtain ⟨u,hu,_,ho⟩:=h.rows i x j _ hx hc
   obtain ⟨f,h0,h1⟩:=ho rfl
   refine ⟨f,fun x2 t2 ys2 o7 CY=> ?_⟩
   simp only at o7 CY
   rw [hx] at o7;cases o7
   rw [hc] at CY;cases CY
   exact ⟨by rw [h0];exact hu,h1⟩
  ·exact ⟨fun _=>undef,fun x t' ys hx hc=>(hex ⟨x,t',ys,hx,hc⟩).elim⟩
 obtain ⟨f,hf⟩:=Classical.axiomOfChoice hw
 refine ⟨fun q=>match q with | []=> .slice (some ⟨b,o,none⟩) xs.length cap | ij::q=>f ij q,rfl,?_,?_⟩
 ·intro p s hs
  cases p with
  | nil=>
   simp only [aR,Option.some.injEq] at hs;subst hs
   refine .inr ⟨b,o,cap,cs,el,rfl,.inl rfl,hb,gx,ff,fun i y j c hy hc=> ?_⟩
   obtain ⟨u,hu,hr,_⟩:=h.rows i y j c hy hc
   refine ⟨u,hu,?_⟩
   cases c with
   | v x=>exact hr
   | l t' ys=>
    obtain ⟨h1,_⟩:=hf (i,j) y t' ys hy hc
    simp only at h1
    rw [hu] at h1
    simpa [eF] using h1
  | cons ij p=>
   obtain ⟨i,j⟩:=ij
   simp only [aR] at hs
   split at hs
   case h_2=>cases hs
   rename_i x hx
   split at hs
   case h_2=>cases hs
   rename_i t' ys hc
   obtain ⟨_,h2⟩:=hf (i,j) x t' ys hx hc
   have:=(h2.1 p s hs).mono (Q:=fun k=>k=b∨∃i j,G i j k) fun k hk=> .inr ⟨i,j,hk⟩
   exact this
 ·intro p q s s' k h1 h2 h3 h4
  have na:∀i j p s,aR t xs ((i,j)::p)=some s→∃x t' ys,xs[i]? =some x∧(enc t x)[j]? =some (.l t' ys)∧aR t' ys p=some s:=by
   intro i j p s hs
   simp only [aR] at hs
   split at hs
   case h_2=>cases hs
   rename_i x hx
   split at hs
   case h_2=>cases hs
   rename_i t' ys hc
   exact ⟨x,t',ys,hx,hc,hs⟩
  have yW:∀i j p s,aR t xs ((i,j)::p)=some s→q6 (f (i,j) p)=some k→G i j k:=by
   intro i j p s hs hk
   obtain ⟨x,t',ys,hx,hc,hs⟩:=na i j p s hs
   exact ((hf (i,j) x t' ys hx hc).2.1 p s hs).nt hk
  cases p with
  | nil=>
   cases q with
   | nil=>rfl
   | cons ij q=>
    simp only [q6,Option.some.injEq] at h3;subst h3
    exact (hG _ _ (yW ij.1 ij.2 q s' h2 h4)).elim
  | cons ij p=>
   cases q with
   | nil=>
    simp only [q6,Option.some.injEq] at h4;subst h4
    exact (hG _ _ (yW ij.1 ij.2 p s h1 h3)).elim
   | cons ij' q=>
    obtain ⟨i,j⟩:=ij
    obtain ⟨i',j'⟩:=ij'
    obtain ⟨rfl,rfl⟩:=h.Tj _ _ _ _ k (yW i j p s h1 h3) (yW i' j' q s' h2 h4)
    obtain ⟨x,t',ys,hx,hc,hs⟩:=na i j p s h1
    obtain ⟨x2,t2,ys2,o7,CY,sR⟩:=na i j q s' h2
    rw [hx] at o7;cases o7
    rw [hc] at CY;cases CY
    rw [(hf (i,j) x t' ys hx hc).2.2 p q s s' k hs sR h3 h4]
open Classical in
theorem dI.nq {ro:Nat→Prop} {d:Bool} {t:Ty} {xs:List (El t)} {cs:Array Value} {o b cap el:Nat} {G:Nat→Nat→Nat→Prop} (h:dI w ro d t xs cs o G)
 (hb:w.heap[b]? =some (.cells cs el (0,0))) (gx:xs.length≤cap) (ff:o+cap*aD t≤cs.size) {ro':Nat→Prop} (cZ:∀k,ro k→ro' k) (hG:∀i j k,G i j k→ro' k):
    ∃av,av [] = .slice (some ⟨b,o,none⟩) xs.length cap∧mz w (fun k=>k=b) ro' t xs av:=by
 have hw:∀ij:Nat×Nat,∃f:Path→Value,∀x t' ys,xs[ij.1]? =some x→(enc t x)[ij.2]? =some (.l t' ys)→cs[o+ij.1*aD t+ij.2]? =some (f [])∧dR w ro' t' ys f:=by
  intro ⟨i,j⟩
  by_cases hex:∃x t' ys,xs[i]? =some x∧(enc t x)[j]? =some (.l t' ys)
  ·obtain ⟨x,t',ys,hx,hc⟩:=hex
   obtain ⟨u,hu,hr,_⟩:=h.rows i x j _ hx hc
   obtain ⟨f,h0,h1⟩:=hr
   refine ⟨f,fun x2 t2 ys2 o7 CY=> ?_⟩
   simp only at o7 CY
   rw [hx] at o7;cases o7
   rw [hc] at CY;cases CY
   exact ⟨by rw [h0];exact hu,h1.mono fun k hk=>hk.elim (hG i j k) (cZ k)⟩
  ·exact ⟨fun _=>undef,fun x t' ys hx hc=>(hex ⟨x,t',ys,hx,hc⟩).elim⟩
 obtain ⟨f,hf⟩:=Classical.axiomOfChoice hw
 refine ⟨fun q=>match q with | []=> .slice (some ⟨b,o,none⟩) xs.length cap | ij::q=>f ij q,rfl,?_,?_⟩
 ·refine .inr ⟨b,o,cap,cs,el,rfl,rfl,hb,gx,ff,fun i y j c hy hc=> ?_⟩
  obtain ⟨u,hu,hr,_⟩:=h.rows i y j c hy hc
  refine ⟨u,hu,?_⟩
  cases c with
  | v x=>exact hr
  | l t' ys=>
   obtain ⟨h1,_⟩:=hf (i,j) y t' ys hy hc
   simp only at h1
   rw [hu] at h1
   simpa [eF] using h1
 ·intro p s hp hs
  cases p with
  | nil=>exact (hp rfl).elim
  | cons ij p=>
   obtain ⟨i,j⟩:=ij
   simp only [aR] at hs
   split at hs
   case h_2=>cases hs
   rename_i x hx
   split at hs
   case h_2=>cases hs
   rename_i t' ys hc
   obtain ⟨_,h2⟩:=hf (i,j) x t' ys hx hc
   exact h2 p s hs
end Go.Gm
namespace Go.Gm
open Go
variable {P : Program} {E : Env} {w : World}
def xd (w:World) (ad:Option Addr) (vs:List Value):Prop:=vs=[]∨∃b o cs el fz,ad=some ⟨b,o,none⟩∧w.heap[b]? =some (.cells cs el fz)∧∀(j:Nat) v,vs[j]? =some v→cs[o+j]? =some v
theorem xd.cells {ad:Addr} {vs:List Value} (h:xd w (some ad) vs):∀(j:Nat) v,vs[j]? =some v→w.cell? (ad.add j)=some v:=by
 intro j v hj
 rcases h with rfl | ⟨b,o,cs,el,fz,e,hb,hc⟩
 ·simp at hj
 ·cases e
  rw [jk,yU hb];exact hc j v hj
theorem oB {sz n:Nat} {ad:Option Addr} {cap:Nat} {vs:List Value} (hl:vs.length=n*sz) (h:xd w ad vs):(Builtin.firstCells sz n (.slice ad n cap)).run P w = .ok vs.toArray w:=by
 cases ad with
 | none=>
  rcases h with rfl | ⟨b,o,cs,el,fz,e,_⟩
  ·exact run_firstCells_none w sz n n cap
  ·cases e
 | some a=>exact run_firstCells_some w sz n a n cap vs hl h.cells
theorem CZ (hE:E.Ok P) {T T' ty:Nat} {e e':Ty} (hT:E.code T=some (.sl e)) (Ih:E.code T'=some (.sl e')) {sa:Option Addr} {n cap:Nat} {xa:Option Addr} {m c:Nat} {iW news:List Value}
 (ho:iW.length=n*aD e) (Ic:xd w sa iW) (hn:news.length=m*aD e) (hln:xd w xa news) (hf:∀v∈news,v.oneCell'=true)
 (gx:n≤cap) (na:∀b o,sa=some ⟨b,o,none⟩→∃cs el,w.heap[b]? =some (.cells cs el (0,0))∧o+cap*aD e≤cs.size) (hsa:sa=none→cap=0)
 (IB:∀a,sa=some a→a.spot=none) (kG:n+m≤bT):
    ∃v' w',(Builtin.append_ #[T,T'] ty #[.slice sa n cap,.slice xa m c]).run P w = .ok v' w'∧w'.os=w.os∧w'.tape=w.tape∧w'.output=w.output∧
 ((v' = .slice none 0 0∧sa=none∧n=0∧m=0∧w'=w)∨
       ∃b o rh cs el,v' = .slice (some ⟨b,o,none⟩) (n+m) rh∧w'.heap[b]? =some (.cells cs el (0,0))∧n+m≤rh∧o+rh*aD e≤cs.size∧
 (∀ (j:Nat) v,(iW++news)[j]? =some v→cs[o+j]? =some v)∧bH (fun k=>k=b) w w'∧((∃ o',sa=some ⟨b,o',none⟩)∨b=w.heap.size)):=by
 obtain ⟨el,hu,q7⟩:=hE.slice hT
 obtain ⟨p3,wz,_⟩:=hE.slice Ih
 obtain ⟨i,zv,hi,ff,hby,hz,AR⟩:=hE.info el e q7
 have xc:=gK e
 have Yp:(ef e).length=aD e:=by simp [ef,br]
 by_cases Ew:n+m≤cap
 ·-- in place
  by_cases hm:m=0
  ·subst hm
   have ri:news=[]:=List.eq_nil_of_length_eq_zero (by simpa using hn)
   subst ri
   have XO:=oB (P:=P) (sz:=aD e) (n:=0) (ad:=xa) (cap:=c) (vs:=[]) (w:=w) (by simp) (.inl rfl)
   cases sa with
   | none=>
    have Tk:=hsa rfl
    have IC:n=0:=by omega
    subst Tk;subst IC
    refine ⟨.slice none 0 0,w,?_,rfl,rfl,rfl,.inl ⟨rfl,rfl,rfl,rfl,rfl⟩⟩
    simp [Builtin.append_,run_underlying hu,run_underlying wz,sizeOf,typeInfo,hi,ff,Builtin.lenOf,XO]
   | some a=>
    obtain ⟨b,o,sp⟩:=a
    have:=IB _ rfl
    simp only at this;subst this
    obtain ⟨cs,UO,hb,gq⟩:=na b o rfl
    refine ⟨.slice (some ⟨b,o,none⟩) (n+0) cap,w,?_,rfl,rfl,rfl,.inr ⟨b,o,cap,cs,UO,rfl,hb,by simpa using gx,gq,?_,⟨Nat.le_refl _,fun _ _ _=>rfl⟩,.inl ⟨o,rfl⟩⟩⟩
    ·simp [Builtin.append_,run_underlying hu,run_underlying wz,sizeOf,typeInfo,hi,ff,Builtin.lenOf,gx,XO,storeCells]
    ·intro j v hj
     rw [List.append_nil] at hj
     rcases Ic with rfl | ⟨b',o',Gz,p3,fz',e1,gB,r6⟩
     ·simp at hj
     ·simp only [Option.some.injEq,Addr.mk.injEq,and_true] at e1
      obtain ⟨rfl,rfl⟩:=e1
      rw [hb] at gB;cases gB
      exact r6 j v hj
  ·cases sa with
   | none=>have:=hsa rfl;omega
   | some a=>
    obtain ⟨b,o,sp⟩:=a
    have:=IB _ rfl
    simp only at this;subst this
    obtain ⟨cs,UO,hb,gq⟩:=na b o rfl
    have XO:=oB (P:=P) (sz:=aD e) (n:=m) (ad:=xa) (cap:=c) (vs:=news) (w:=w) hn hln
    have eY:o+n*aD e+news.length≤cs.size:=by
     rw [hn,Nat.add_assoc,←Nat.add_mul]
     exact Nat.le_trans (Nat.add_le_add_left (Nat.mul_le_mul_right _ Ew) _) gq
    have lW:=run_storeCells_at P b (o+n*aD e) UO news 0 cs w hb (by simpa using eY) hf
    simp only [Nat.add_zero] at lW
    refine ⟨.slice (some ⟨b,o,none⟩) (n+m) cap,w.setRow b (cs.toList.take (o+n*aD e)++news++cs.toList.drop (o+n*aD e+news.length)).toArray,?_,rfl,rfl,rfl,.inr ⟨b,o,cap,_,UO,rfl,setRow_heap w b cs _ UO _ hb,Ew,?_,?_,eQ w b _,.inl ⟨o,rfl⟩⟩⟩
    ·simp [Builtin.append_,run_underlying hu,run_underlying wz,sizeOf,typeInfo,hi,ff,Builtin.lenOf,Ew,XO,jk,lW]
    ·simp only [List.size_toArray,List.length_append,List.length_take,List.length_drop,Array.length_toList];omega
    ·intro j v hj
     have hlen:o+n*aD e≤cs.size:=by omega
     simp only [List.getElem?_toArray]
     by_cases hjn:j<n*aD e
     ·rw [List.getElem?_append_left (by omega)] at hj
      rw [List.append_assoc,List.getElem?_append_left (by simp;omega),List.getElem?_take,if_pos (by omega)]
      rcases Ic with rfl | ⟨b',o',Gz,p3,fz',e1,gB,r6⟩
      ·simp at hj
      ·simp only [Option.some.injEq,Addr.mk.injEq,and_true] at e1
       obtain ⟨rfl,rfl⟩:=e1
       rw [hb] at gB;cases gB
       simpa using r6 j v hj
     ·rw [List.getElem?_append_right (by omega)] at hj
      have GG:j-iW.length<news.length:=by
       rcases Nat.lt_or_ge (j-iW.length) news.length with h' | h'
       ·exact h'
       ·simp [List.getElem?_eq_none h'] at hj
      rw [List.getElem?_append_left (by simp;omega),List.getElem?_append_right (by simp;omega)]
      have:o+j-min (o+n*aD e) cs.size=j-iW.length:=by omega
      simpa [this] using hj
 ·-- elsewhere
  have ct:n+m>cap:=by omega
  have yX:(n+m)*i.bytes≤140737488355328:=by
   have:(n+m)*i.bytes≤bT*1024:=Nat.mul_le_mul kG hby
   unfold bT at this;omega
  have aex:=growslice_fits (need:=n+m) (old:=cap) (by omega) yX
  have aca : ¬(9223372036854775807<((n:Int)+(m:Int))):=by unfold bT at kG;omega
  have acb : ¬(281474976710656<Builtin.nextslicecap (n+m) cap*i.bytes):=by omega
  have ID : ¬(n+m≤cap):=Ew
  have hdr:xd w.drew sa iW:=by rcases Ic with h | ⟨b,o,cs,el,fz,h1,h2,h3⟩;exact .inl h;exact .inr ⟨b,o,cs,el,fz,h1,h2,h3⟩
  have acd:xd w.drew xa news:=by rcases hln with h | ⟨b,o,cs,el,fz,h1,h2,h3⟩;exact .inl h;exact .inr ⟨b,o,cs,el,fz,h1,h2,h3⟩
  have hf1:=oB (P:=P) (sz:=aD e) (n:=n) (ad:=sa) (cap:=cap) (vs:=iW) (w:=w.drew) ho hdr
  have XO:=oB (P:=P) (sz:=aD e) (n:=m) (ad:=xa) (cap:=c) (vs:=news) (w:=w.drew) hn acd
  have Ey:=grownCap_ge w (n+m) cap el
  have Tl:zv.cells.size=aD e:=by rw [AR];simp [Yp]
  refine ⟨.slice (some ⟨w.heap.size,0,none⟩) (n+m) (grownCap w (n+m) cap el),w.drew.alloc (.cells (iW.toArray++news.toArray++Builtin.zeroCells zv.cells (grownCap w (n+m) cap el-(n+m))) el),?_,rfl,rfl,rfl,
   .inr ⟨w.heap.size,0,_,_,el,rfl,heap_alloc_new w.drew _,Ey,?_,?_,?_,.inr rfl⟩⟩
  ·simp [Builtin.append_,run_underlying hu,run_underlying wz,sizeOf,typeInfo,zeroValue,hi,hz,ff,Builtin.lenOf,ID,aca,acb,Question.forced,newRow,grownCap,XO,hf1]
   congr 2
   apply Array.ext'
   simp [List.append_assoc]
  ·simp only [Array.size_append,List.size_toArray,size_zeroCells,Tl,ho,hn,Nat.zero_add,←Nat.add_mul]
   refine Nat.le_of_eq ?_
   congr 1;omega
  ·intro j v hj
   have GG:j<(iW++news).length:=by
    rcases Nat.lt_or_ge j (iW++news).length with h' | h'
    ·exact h'
    ·simp [List.getElem?_eq_none h'] at hj
   rw [Nat.zero_add,Array.getElem?_append_left (by simpa using GG)]
   simpa using hj
  ·refine ⟨by simp,fun k hk _=>heap_alloc_old w.drew _ k hk⟩
end Go.Gm
namespace Go.Gm
open Go
variable {R : Type} {w0 w : World} {Mf : Nat → Prop} {g : Gh} {st : St} {a : Act}
abbrev Gh.sU (g:Gh) (rf:Nat→Nat→Prop):Gh:={ g with rf:=rf }
structure fg (w:World) (g:Gh) (rf:Nat→Nat→Prop) (st aE:St) (eX:List (Nat×Rt)) (Fs:List (Nat→Prop)):Prop where
 eq:aE={ st with roots:=cg st.roots eX }
 own:∀id,aP aE id→aP st id
 less:∀id k,rf id k→g.rf id k
 map:∀c u,aZ w g st c u→aZ w g aE c u
 apart:bR Fs
 src:∀F∈Fs,∀k,F k→∃id,aP st id∧g.rf id k
 off:∀F∈Fs,∀k,F k→∀id,aP aE id→ ¬rf id k
 live:∀id r,ax aE.roots id=some (.live r)→∃r0,ax st.roots id=some (.live r0)∧r0.ver=r.ver
theorem aZ.rf (rf:Nat→Nat→Prop) {c:Sc} {u:Value} (h:aZ w g st c u):aZ w (g.sU rf) st c u:=by
 cases c<;>exact h
theorem aZ.XP {rf:Nat→Nat→Prop} {c:Sc} {u:Value} (h:aZ w (g.sU rf) st c u):aZ w g st c u:=by
 cases c<;>exact h
theorem lV.rf (rf:Nat→Nat→Prop):∀ {cs:List Sc} {us:List Value},lV w g st cs us→lV w (g.sU rf) st cs us
 | [],[],_=>trivial
 | [],_::_,h=>h.elim
 | _::_,[],h=>h.elim
 | _::_,_::_,h=>⟨h.1.rf rf,lV.rf rf h.2⟩
theorem fg.refl (w:World) (g:Gh) (st:St):fg w g g.rf st st [] []:=
 ⟨rfl,fun _ h=>h,fun _ _ h=>h,fun _ _ h=>h,List.Pairwise.nil,by simp,by simp,fun _ r h=>⟨r,h,rfl⟩⟩
theorem fg.trans {rf rf2:Nat→Nat→Prop} {s1 s2 s3:St} {u v:List (Nat×Rt)} {Fs Gs:List (Nat→Prop)} (h:fg w g rf s1 s2 u Fs) (k:fg w (g.sU rf) rf2 s2 s3 v Gs):fg w g rf2 s1 s3 (u++v) (Fs++Gs):=by
 refine ⟨?_,fun id hi=>h.own id (k.own id hi),fun id n hn=>h.less id n (k.less id n hn),fun c u hc=>(k.map c u ((h.map c u hc).rf rf)).XP,?_,?_,?_,fun id r hr=> ?_⟩
 ·rw [k.eq,h.eq,bc]
 ·refine List.pairwise_append.2 ⟨h.apart,k.apart,fun F hF G hG n hn Pn=> ?_⟩
  obtain ⟨id,hid,nr⟩:=k.src G hG n Pn
  exact h.off F hF n hn id hid nr
 ·intro F hF n hn
  rcases List.mem_append.1 hF with hF | hF
  ·exact h.src F hF n hn
  ·obtain ⟨id,hid,nr⟩:=k.src F hF n hn
   exact ⟨id,h.own id hid,h.less id n nr⟩
 ·intro F hF n hn id hid hr
  rcases List.mem_append.1 hF with hF | hF
  ·exact h.off F hF n hn id (k.own id hid) (k.less id n hr)
  ·exact k.off F hF n hn id hid hr
 ·obtain ⟨r1,h1,e1⟩:=k.live id r hr
  obtain ⟨r0,h0,e0⟩:=h.live id r1 h1
  exact ⟨r0,h0,e0.trans e1⟩
theorem jW.P {aE:St} {eX:List (Nat×Rt)} {Fs:List (Nat→Prop)} (T:jW w g st aE eX Fs):fg w g g.rf st aE eX Fs:=
 ⟨T.eq,T.own,fun _ _ h=>h,T.map,T.apart,T.src,T.off,fun id r h=>⟨r,T.live id r h,rfl⟩⟩
theorem Inv.yY (I:Inv w0 Mf g st a w) {id:Nat} {r:cB} (h:ax st.roots id=some (.live r)) (hm:r.md.cr=false) {md:Md} (cI:md.cr=false) {F:Nat→Prop} (hF:∀k,F k→g.rf id k)
 (hr:aS w (g.sU fun i k=>if i=id then F k else g.rf i k) id ⟨r.t,md,r.ver,r.log,r.xs⟩):
    Inv w0 Mf (g.sU fun i k=>if i=id then F k else g.rf i k) { st with roots:=aX st.roots id (.live ⟨r.t,md,r.ver,r.log,r.xs⟩) } a w∧
    ∀c u,aZ w g st c u→aZ w g { st with roots:=aX st.roots id (.live ⟨r.t,md,r.ver,r.log,r.xs⟩) } c u:=by
 have cU:aP st id:=⟨r,h,hm⟩
 have ho:∀aH,aP { st with roots:=aX st.roots id (.live ⟨r.t,md,r.ver,r.log,r.xs⟩) } aH→aP st aH:=fun aH ⟨r',h1,h2⟩=>by
  simp only [aF] at h1
  by_cases e:aH=id
  ·rw [e];exact cU
  ·exact ⟨r',by simpa [e] using h1,h2⟩
 have hl:∀aH k,(if aH=id then F k else g.rf aH k)→g.rf aH k:=by
  intro aH k hk
  by_cases e:aH=id
  ·rw [if_pos e] at hk;rw [e];exact hF k hk
  ·rw [if_neg e] at hk;exact hk
 have oW:∀c u,aZ w g st c u→aZ w g { st with roots:=aX st.roots id (.live ⟨r.t,md,r.ver,r.log,r.xs⟩) } c u:=by
  intro c u hc
  have hv:∀aH ver iv,cJ st aH ver iv→cJ { st with roots:=aX st.roots id (.live ⟨r.t,md,r.ver,r.log,r.xs⟩) } aH ver iv:=by
   intro aH ver iv hv
   unfold cJ at hv ⊢
   simp only [aF]
   by_cases e:aH=id
   ·subst e;simp only [h] at hv;simp only [if_true];exact hv
   ·simpa [e] using hv
  have hx:∀aH ver iv p r',Vx { st with roots:=aX st.roots id (.live ⟨r.t,md,r.ver,r.log,r.xs⟩) } aH ver iv p r'→∃r0,Vx st aH ver iv p r0∧r0.t=r'.t∧HEq r0.xs r'.xs:=by
   intro aH ver iv p r' ⟨h1,h2,h3⟩
   simp only [aF] at h1
   by_cases e:aH=id
   ·subst e
    simp only [if_true,Option.some.injEq,Rt.live.injEq,reduceCtorEq,or_false] at h1
    subst h1
    exact ⟨r,⟨.inl h,h2,h3⟩,rfl,.rfl⟩
   ·exact ⟨r',⟨by simpa [e] using h1,h2,h3⟩,rfl,.rfl⟩
  refine ⟨hc.1,?_⟩
  have h2:=hc.2
  cases c with
  | h aH ver iv p=>
   refine ⟨hv _ _ _ h2.1,fun r' kF=> ?_⟩
   obtain ⟨⟨t0,XQ,v0,l0,x0⟩,h3,e1,e2⟩:=hx _ _ _ _ _ kF
   obtain ⟨t1,md1,v1,l1,x1⟩:=r'
   simp only at e1;subst e1
   have e2:=eq_of_heq e2
   simp only at e2;subst e2
   have h4:=h2.2 ⟨t0,XQ,v0,l0,x0⟩ h3
   exact h4
  | vw aH ver lo hi=>
   refine ⟨hv _ _ _ h2.1,fun r' kF=> ?_⟩
   obtain ⟨⟨t0,XQ,v0,l0,x0⟩,h3,e1,e2⟩:=hx _ _ _ _ _ kF
   obtain ⟨t1,md1,v1,l1,x1⟩:=r'
   simp only at e1;subst e1
   have e2:=eq_of_heq e2
   simp only at e2;subst e2
   have h4:=h2.2 ⟨t0,XQ,v0,l0,x0⟩ h3
   exact h4
  | pe aH ver iv p i off=>
   refine ⟨hv _ _ _ h2.1,fun r' kF=> ?_⟩
   obtain ⟨⟨t0,XQ,v0,l0,x0⟩,h3,e1,e2⟩:=hx _ _ _ _ _ kF
   obtain ⟨t1,md1,v1,l1,x1⟩:=r'
   simp only at e1;subst e1
   have e2:=eq_of_heq e2
   simp only at e2;subst e2
   have h4:=h2.2 ⟨t0,XQ,v0,l0,x0⟩ h3
   exact h4
  | _=>exact h2
 refine ⟨?_,oW⟩
 exact {
  aA:=fun s sv h'=>let ⟨u,hu,hr⟩:=I.aA s sv h';⟨u,hu,hr.map fun c u hc=>(oW c u hc).rf _⟩
  boxes:=fun b x h'=>let ⟨us,el,h1,h2⟩:=I.boxes b x h';⟨us,el,h1,h2.map fun c u hc=>(oW c u hc).rf _⟩
  roots:=fun aH r' h'=>by
   simp only [aF] at h'
   by_cases e:aH=id
   ·subst e;simp only [if_true,Option.some.injEq,Rt.live.injEq] at h';subst h';exact hr
   ·have:=I.roots aH r' (by simpa [e] using h')
    unfold aS at this ⊢
    simpa [e] using this
  apart:={
   rr:=fun i i' k h1 h2 h3 h4=>I.apart.rr i i' k (ho _ h1) (ho _ h2) (hl _ _ h3) (hl _ _ h4)
   rb:=fun i b h1 h2 h3=>I.apart.rb i b (ho _ h1) h2 (hl _ _ h3)
   bb:=I.apart.bb
   dZ:=fun i k h1 h3=>I.apart.dZ i k (ho _ h1) (hl _ _ h3)
   fL:=I.apart.fL
   ck:=fun i k h1 h3=>I.apart.ck i k (ho _ h1) (hl _ _ h3)
   dA:=I.apart.dA
   eb:=fun i k h1 h3=>I.apart.eb i k (ho _ h1) (hl _ _ h3)
   c7:=I.apart.c7
   bU:=I.apart.bU }
  kept:=I.kept
  defers:=I.defers
  size:=I.size
  base:=⟨I.base.wl,I.base.ap,I.base.ro⟩ }
theorem tP {m:Md} {i j:Nat} (h:m.rZ i j=true):m.cr=false∧(m = .deep∨∃a b,m = .part (.cur a b)∧rY a b i j=true):=by
 cases m with
 | deep=>exact ⟨rfl,.inl rfl⟩
 | part k=>
  cases k with
  | cur a b=>exact ⟨rfl,.inr ⟨a,b,rfl,h⟩⟩
  | hole p=>cases h
 | nq=>cases h
 | Er=>cases h
theorem Inv.C0 (I:Inv w0 Mf g st a w) {id:Nat} {r:cB} (h:ax st.roots id=some (.live r)) {i j:Nat} (ht:r.md.rZ i j=true):cY w (g.rf id) (.cur i j) r.t r.xs (g.rv id):=by
 have hr:=I.roots id r h
 unfold aS at hr
 obtain ⟨_,hm | ⟨a',b',hm,hl⟩⟩:=tP ht
 ·rw [hm] at hr;exact hr.part _
 ·rw [hm] at hr;exact hr.on hl
theorem Inv.take (I:Inv w0 Mf g st a w) {id:Nat} {r:cB} (h:ax st.roots id=some (.live r)) {i j i' j':Nat} (ht:r.md.rZ i j=true) (hl:rY i j i' j'=true) {Fs:Nat→Prop}
 (hF:∀k,Fs k↔∃p s,(Pt.cur i j).nodeAt p=true∧(Pt.cur i' j').nodeAt p=false∧aR r.t r.xs p=some s∧q6 (g.rv id p)=some k):
    ∃rf,Inv w0 Mf (g.sU rf) (st.taken id r i' j') a w∧fg w g rf st (st.taken id r i' j') [(id,.live ⟨r.t,.part (.cur i' j'),r.ver,r.log,r.xs⟩)] [Fs]:=by
 have hp:=I.C0 h ht
 have w3:=(tP ht).1
 have cU:aP st id:=⟨r,h,w3⟩
 have PL:∀k,Fs k→g.rf id k:=fun k hk=>by
  obtain ⟨p,s,h1,_,h3,h4⟩:=(hF k).1 hk
  exact bB.nt (hp.1 p s h1 h3) h4
 have iP:cY w (fun k=>g.rf id k∧ ¬Fs k) (.cur i' j') r.t r.xs (g.rv id):=by
  have ho:=hp.on hl
  refine ⟨fun p s h1 hs=>bB.XN (ho.1 p s h1 hs) fun k hk=>⟨bB.nt (ho.1 p s h1 hs) hk,fun pH=> ?_⟩,ho.2⟩
  obtain ⟨q,s',h2,h3,h4,h5⟩:=(hF k).1 pH
  have:=hp.2.1 p q s s' k (kK hl h1) h2 hs h4 hk h5
  subst this
  rw [h1] at h3;cases h3
 obtain ⟨I1,oW⟩:=I.yY h w3 (md:= .part (.cur i' j')) rfl (F:=fun k=>g.rf id k∧ ¬Fs k) (fun k hk=>hk.1) (by unfold aS;simpa using iP)
 refine ⟨_,I1,rfl,fun aH ⟨r',h1,h2⟩=> ?_,fun aH k hk=> ?_,oW,List.pairwise_singleton _ _,fun F UP k hk=> ?_,fun F UP k hk aH hid nr=> ?_,fun aH r' h'=> ?_⟩
 ·simp only [St.taken,aF] at h1
  by_cases e:aH=id
  ·rw [e];exact cU
  ·exact ⟨r',by simpa [e] using h1,h2⟩
 ·by_cases e:aH=id
  ·rw [if_pos e] at hk;rw [e];exact hk.1
  ·rw [if_neg e] at hk;exact hk
 ·simp only [List.mem_singleton] at UP;subst UP
  exact ⟨id,cU,PL k hk⟩
 ·simp only [List.mem_singleton] at UP;subst UP
  by_cases e:aH=id
  ·rw [if_pos e] at nr;exact nr.2 hk
  ·rw [if_neg e] at nr
   obtain ⟨r',h1,h2⟩:=hid
   simp only [St.taken,aF,e,if_false] at h1
   exact e (I.apart.rr aH id k ⟨r',h1,h2⟩ cU nr (PL k hk))
 ·simp only [St.taken,aF] at h'
  by_cases e:aH=id
  ·subst e
   simp only [if_true,Option.some.injEq,Rt.live.injEq] at h'
   subst h';exact ⟨r,h,rfl⟩
  ·exact ⟨r',by simpa [e] using h',rfl⟩
theorem cY.at {F:Nat→Prop} {a b:Nat} {t:Ty} {xs:List (El t)} {av:Path→Value} (hp:cY w F (.cur a b) t xs av) {i j:Nat} (hl:rY a b i j=true) {s:Sl} (fv:aR t xs [(i,j)]=some s):
    bo w (gF t xs av [(i,j)]) s.t s.xs fun q=>av ([(i,j)]++q):=by
 have AO:∀q,(Pt.cur a b).nodeAt ([(i,j)]++q)=true:=fun q=>hl
 refine ⟨fun q s2 hq=> ?_,fun q q' s1 s2 b h1 h2 h3 h4=> ?_⟩
 ·have h1:aR t xs ([(i,j)]++q)=some s2:=by rw [ch q fv];exact hq
  have:=bB.XN (G:=gF t xs av [(i,j)]) (hp.1 _ s2 (AO q) h1) fun k hk=>⟨q,s2,h1,hk⟩
  simpa [List.append_assoc] using this
 ·have e1:aR t xs ([(i,j)]++q)=some s1:=by rw [ch q fv];exact h1
  have e2:aR t xs ([(i,j)]++q')=some s2:=by rw [ch q' fv];exact h2
  have:=hp.2.1 _ _ _ _ b (AO q) (AO q') e1 e2 h3 h4
  simpa using this
theorem Inv.ll (I:Inv w0 Mf g st a w) {c:Sc} {q:Option Ty} {k:Cv→Bool→St→List (Nat×Rt)→Option R} {r:R} {u:Value} (h:ll st c q k=some r) (hc:aZ w g st c u):
    ∃cv d aE eX F rf,k cv d aE eX=some r∧Inv w0 Mf (g.sU rf) aE a w∧fg w g rf st aE eX [F]∧pF w (fun k=>F k∨g.ro k) cv u∧(d=true→iO w F cv u):=by
 unfold Gm.ll at h
 split at h
 ·rename_i id ver iv i j t
  obtain ⟨ro,cZ,h⟩:=da h
  obtain ⟨ht,h⟩:=a8 h
  obtain ⟨s,hs,h⟩:=aQ h
  obtain ⟨hu,ke⟩:=hc.2.2 ro cZ.x
  obtain ⟨s',fv⟩:=Option.isSome_iff_exists.1 ke
  have:=cX fv
  rw [hs] at this;cases this
  have hp:=I.C0 cZ.1 ht
  have hl:rY i j i (j+1)=true:=gb.2 (.inr ⟨rfl,Nat.le_succ _⟩)
  have AO:∀q,(Pt.cur i j).nodeAt ([(i,j)]++q)=true:=fun q=>gb.2 (.inr ⟨rfl,Nat.le_refl _⟩)
  let F:Nat→Prop:=gF ro.t ro.xs (g.rv id) [(i,j)]
  obtain ⟨rf,I1,T1⟩:=I.take cZ.1 ht hl (Fs:=F) (fun k=>by
   constructor
   ·rintro ⟨q,s2,h1,h2⟩
    refine ⟨[(i,j)]++q,s2,AO q,?_,h1,h2⟩
    show rY i (j+1) i j=false
    cases hh:rY i (j+1) i j with
    | false=>rfl
    | true=>rw [gb] at hh;omega
   ·rintro ⟨p,s2,h1,h2,h3,h4⟩
    cases p with
    | nil=>cases h2
    | cons ij p=>
     obtain ⟨i2,j2⟩:=ij
     have h1:rY i j i2 j2=true:=h1
     have h2:rY i (j+1) i2 j2=false:=h2
     have:i2=i∧j2=j:=by
      rw [gb] at h1
      have Ie : ¬(i<i2∨(i=i2∧j+1≤j2)):=fun hh=>by rw [gb.2 hh] at h2;cases h2
      omega
     obtain ⟨rfl,rfl⟩:=this
     exact ⟨p,s2,h3,h4⟩)
  have eG:bo w F s.t s.xs fun q=>g.rv id ([(i,j)]++q):=hp.at (gb.2 (.inr ⟨rfl,Nat.le_refl _⟩)) fv
  exact ⟨_,_,_,_,F,rf,h,I1,T1,⟨_,by simpa using hu.symm,eG.rd.mono fun k=> .inl⟩,fun _=>⟨_,by simpa using hu.symm,eG⟩⟩
 ·obtain ⟨cv,d,aE,eX,F,h1,I1,T1,h2,h3⟩:=I.jO h hc
  exact ⟨cv,d,aE,eX,F,g.rf,h1,I1,T1.P,h2,h3⟩
theorem Inv.r3:∀ {cs:List Sc} {g:Gh} {st:St} {qs:List (Option Ty)} {k:List Cv→Bool→St→List (Nat×Rt)→Option R} {r:R} {us:List Value},Inv w0 Mf g st a w→
    r3 st cs qs k=some r→lV w g st cs us→
    ∃cv d aE eX Fs rf,k cv d aE eX=some r∧Inv w0 Mf (g.sU rf) aE a w∧fg w g rf st aE eX Fs∧mB w g.ro cv us Fs d
 | [],g,st,[],k,r,us,I,h,hc=>by
  cases us with
  | nil=>exact ⟨[],true,st,[],[],g.rf,h,I,fg.refl _ _ _,.nil⟩
  | cons u us=>exact hc.elim
 | c::cs,g,st,q::qs,k,r,us,I,h,hc=>by
  cases us with
  | nil=>exact hc.elim
  | cons u us=>
   obtain ⟨cv,d,s1,u1,F,rf,h1,I1,T1,hr,ho⟩:=I.ll h hc.1
   obtain ⟨AI,d2,s2,u2,Fs,rf2,h2,I2,T2,hA⟩:=Inv.r3 I1 h1 ((hc.2.map T1.map).rf rf)
   exact ⟨_,_,_,_,_,rf2,h2,I2,T1.trans T2,.cons hr ho hA⟩
 | [],g,_,_::_,k,r,us,I,h,hc=>by cases h
 | _::_,g,_,[],k,r,us,I,h,hc=>by cases h
theorem Inv.UQ (I:Inv w0 Mf g st a w) {id:Nat} {r:cB} (h:ax st.roots id=some (.live r)) (hm:r.md = .deep) {p:Path} (Tm:p≠[]) {s:Sl} (hs:aR r.t r.xs p=some s) {aH ver:Nat} (dP:aH≠id)
 (eY:dv st aH ⟨s.t,.deep,ver,[],s.xs⟩):
    ∃g',g'.n=g.n∧g'.ro=g.ro∧(∀ b,g'.bx b=g.bx b)∧g'.rv aH []=g.rv id p∧
      Inv w0 Mf g' { st with roots:=aX (aX st.roots id (.live ⟨r.t,.part (.hole p),r.ver,r.log,r.xs⟩)) aH (.live ⟨s.t,.deep,ver,[],s.xs⟩) } a w∧
      ∀i k,aP { st with roots:=aX (aX st.roots id (.live ⟨r.t,.part (.hole p),r.ver,r.log,r.xs⟩)) aH (.live ⟨s.t,.deep,ver,[],s.xs⟩) } i→g'.rf i k→∃i0,aP st i0∧g.rf i0 k:=by
 have hr:=I.roots id r h
 unfold aS at hr
 rw [hm] at hr
 have hr:bo w (g.rf id) r.t r.xs (g.rv id):=hr
 have w3:r.md.cr=false:=by rw [hm];rfl
 have cU:aP st id:=⟨r,h,w3⟩
 let F:Nat→Prop:=gF r.t r.xs (g.rv id) p
 have PL:∀k,F k→g.rf id k:=fun k ⟨q,s2,h1,h2⟩=>bB.nt (hr.1 _ s2 h1) h2
 have Yq:=hr.part (.hole p)
 have iP:cY w (fun k=>g.rf id k∧ ¬F k) (.hole p) r.t r.xs (g.rv id):=by
  refine ⟨fun q s2 h1 h2=>bB.XN (hr.1 q s2 h2) fun k hk=>⟨bB.nt (hr.1 q s2 h2) hk,fun ⟨q',s3,h3,h4⟩=> ?_⟩,Yq.2⟩
  have:=hr.2 _ _ _ _ k h2 h3 hk h4
  subst this
  exact (iy Tm).1 h1 (List.prefix_append _ _)
 obtain ⟨I1,_⟩:=I.yY h w3 (md:= .part (.hole p)) rfl (F:=fun k=>g.rf id k∧ ¬F k) (fun k hk=>hk.1) (by unfold aS;simpa using iP)
 have Yr:dv { st with roots:=aX st.roots id (.live ⟨r.t,.part (.hole p),r.ver,r.log,r.xs⟩) } aH ⟨s.t,.deep,ver,[],s.xs⟩:=by
  unfold dv at eY ⊢
  simpa only [bX _ _ dP] using eY
 have dy:bo w F s.t s.xs fun q=>g.rv id (p++q):=hr.at hs
 have I2:=I1.b8 (id:=aH) (r:=⟨s.t,.deep,ver,[],s.xs⟩) Yr (av:=fun q=>g.rv id (p++q)) (F:=F) (by unfold aS;simp only [Gh.b8,if_true];exact dy)
  (fun k hk=>⟨fun i ⟨r',h1,h2⟩ hi nr=>by
   simp only [aF] at h1
   by_cases e:i=id
   ·subst e
    simp only [if_true] at nr
    exact nr.2 hk
   ·simp only [e,if_false] at h1 nr
    exact e (I.apart.rr i id k ⟨r',h1,h2⟩ cU nr (PL k hk)),I.apart.dZ id k cU (PL k hk),fun b hb e=>I.apart.rb id b cU hb (e▸PL k hk),I.apart.ck id k cU (PL k hk),I.apart.eb id k cU (PL k hk)⟩)
 refine ⟨(g.sU fun i k=>if i=id then g.rf id k∧ ¬F k else g.rf i k).b8 aH (fun q=>g.rv id (p++q)) F,rfl,rfl,fun _=>rfl,?_,I2,fun i k ⟨r',h1,h2⟩ nr=> ?_⟩
 ·simp [Gh.b8]
 ·by_cases e:i=aH
  ·subst e
   simp only [Gh.b8,if_true] at nr
   exact ⟨id,cU,PL k nr⟩
  ·simp only [Gh.b8,e,if_false] at nr
   by_cases e2:i=id
   ·subst e2
    simp only [if_true] at nr
    exact ⟨i,cU,nr.1⟩
   ·simp only [e2,if_false] at nr
    simp only [aF,e,e2,if_false] at h1
    exact ⟨i,⟨r',h1,h2⟩,nr⟩
end Go.Gm
