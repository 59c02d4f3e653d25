/- What the functions compute, part 1. No conditions. -/
import Derived.Test.YtglijihijmkpaaaDoorGm4
import Derived.Test.YtglijihijmkpaaaDoorRows
import Derived.Lib.Strings
import Derived.Lib.Slices
import Derived.Lib.SliceRun
import Derived.Lib.Walk
import Derived.WalkKit
namespace Go.Proofs.YtglijihijmkpaaaDoor
open Go Go.Gm
def b9:CL:={ code:=[(2,(.i .i64)),(3,(.i .i64)),(4,.bool),(5,(.i .u8)),(6,(.i .u8)),(9,.str),(10,.str),(11,.str),(12,(.i .u64)),(21,(.i .i32)),(22,(.sl .str)),(23,(.sl .node)),(25,.node),(26,(.sl .aq)),(27,(.sl .bool)),(29,.aq),(33,(.sl .node)),(35,.node),(37,(.sl .aq)),(39,.aq),(48,(.sl (.i .u8))),(92,.cur),(106,(.sl (.sl .str))),(112,(.sl (.i .i64))),(120,(.i .u64)),(144,(.i .u32)),(153,(.i .u8)),(154,(.i .u8)),(156,(.i .i32)),(157,(.i .i32))],eqs:=[],wx:=[(25,[(0,3),(1,3),(2,9),(3,22),(4,23)]),(29,[(0,3),(1,22),(2,26),(3,27),(4,3),(5,3)]),(35,[(0,3),(1,3),(2,9),(3,22),(4,33)]),(39,[(0,3),(1,22),(2,37),(3,27),(4,3),(5,3)]),(92,[(0,48),(1,3),(2,3)])] }
theorem adj:dg (b9.env []) Tryd.prog 2 (.i .i64):=(by kernel_rfl:Tryd.prog.underlying 2=some (.int .i64))
theorem adk:dg (b9.env []) Tryd.prog 3 (.i .i64):=(by kernel_rfl:Tryd.prog.underlying 3=some (.int .i64))
theorem adl:dg (b9.env []) Tryd.prog 4 .bool:=(by kernel_rfl:Tryd.prog.underlying 4=some .bool)
theorem adn:dg (b9.env []) Tryd.prog 5 (.i .u8):=(by kernel_rfl:Tryd.prog.underlying 5=some (.int .u8))
theorem ado:dg (b9.env []) Tryd.prog 6 (.i .u8):=(by kernel_rfl:Tryd.prog.underlying 6=some (.int .u8))
theorem adp:dg (b9.env []) Tryd.prog 9 .str:=(by kernel_rfl:Tryd.prog.underlying 9=some .string)
theorem Zx:dg (b9.env []) Tryd.prog 10 .str:=(by kernel_rfl:Tryd.prog.underlying 10=some .string)
theorem Zy:dg (b9.env []) Tryd.prog 11 .str:=(by kernel_rfl:Tryd.prog.underlying 11=some .string)
theorem Zz:dg (b9.env []) Tryd.prog 12 (.i .u64):=(by kernel_rfl:Tryd.prog.underlying 12=some (.int .u64))
theorem ZA:dg (b9.env []) Tryd.prog 21 (.i .i32):=(by kernel_rfl:Tryd.prog.underlying 21=some (.int .i32))
theorem ZB:dg (b9.env []) Tryd.prog 22 (.sl .str):=⟨9,by kernel_rfl,by kernel_rfl⟩
theorem ZC:dg (b9.env []) Tryd.prog 23 (.sl .node):=⟨25,by kernel_rfl,by kernel_rfl⟩
theorem ZD:dg (b9.env []) Tryd.prog 25 .node:=⟨_,Tryd.underlying25⟩
theorem ZE:dg (b9.env []) Tryd.prog 26 (.sl .aq):=⟨29,by kernel_rfl,by kernel_rfl⟩
theorem ZF:dg (b9.env []) Tryd.prog 27 (.sl .bool):=⟨4,by kernel_rfl,by kernel_rfl⟩
theorem ZG:dg (b9.env []) Tryd.prog 29 .aq:=⟨_,Tryd.underlying29⟩
theorem ZH:dg (b9.env []) Tryd.prog 33 (.sl .node):=⟨35,by kernel_rfl,by kernel_rfl⟩
theorem ZI:dg (b9.env []) Tryd.prog 35 .node:=⟨_,Tryd.underlying35⟩
theorem ZJ:dg (b9.env []) Tryd.prog 37 (.sl .aq):=⟨39,by kernel_rfl,by kernel_rfl⟩
theorem ZK:dg (b9.env []) Tryd.prog 39 .aq:=⟨_,Tryd.underlying39⟩
theorem ZL:dg (b9.env []) Tryd.prog 48 (.sl (.i .u8)):=⟨5,by kernel_rfl,by kernel_rfl⟩
theorem ZM:dg (b9.env []) Tryd.prog 92 .cur:=⟨_,Tryd.underlying92⟩
theorem VQ:dg (b9.env []) Tryd.prog 106 (.sl (.sl .str)):=⟨22,by kernel_rfl,by kernel_rfl⟩
theorem VR:dg (b9.env []) Tryd.prog 112 (.sl (.i .i64)):=⟨3,by kernel_rfl,by kernel_rfl⟩
theorem VS:dg (b9.env []) Tryd.prog 120 (.i .u64):=(by kernel_rfl:Tryd.prog.underlying 120=some (.int .u64))
theorem VT:dg (b9.env []) Tryd.prog 144 (.i .u32):=(by kernel_rfl:Tryd.prog.underlying 144=some (.int .u32))
theorem VU:dg (b9.env []) Tryd.prog 153 (.i .u8):=(by kernel_rfl:Tryd.prog.underlying 153=some (.int .u8))
theorem VV:dg (b9.env []) Tryd.prog 154 (.i .u8):=(by kernel_rfl:Tryd.prog.underlying 154=some (.int .u8))
theorem VW:dg (b9.env []) Tryd.prog 156 (.i .i32):=(by kernel_rfl:Tryd.prog.underlying 156=some (.int .i32))
theorem VX:dg (b9.env []) Tryd.prog 157 (.i .i32):=(by kernel_rfl:Tryd.prog.underlying 157=some (.int .i32))
theorem ZN:∃fs:Array Field,Tryd.prog.underlying 25=some (.struct fs)∧[(0,3),(1,3),(2,9),(3,22),(4,23)]=fs.toList.map (fun f=>(f.offset,f.type))∧(∀ y∈([(0,3),(1,3),(2,9),(3,22),(4,23)]:List (Nat×Nat)),(ax b9.code y.2).isSome)∧(fs.toList.mapM (fun f=>(Tryd.prog.info? f.type).map fun i=>(f.offset,i.size))).isSome:=
 ⟨_,Tryd.underlying25,by kernel_rfl,List.all_eq_true.1 (by kernel_rfl),by kernel_rfl⟩
theorem ZO:∃fs:Array Field,Tryd.prog.underlying 29=some (.struct fs)∧[(0,3),(1,22),(2,26),(3,27),(4,3),(5,3)]=fs.toList.map (fun f=>(f.offset,f.type))∧(∀ y∈([(0,3),(1,22),(2,26),(3,27),(4,3),(5,3)]:List (Nat×Nat)),(ax b9.code y.2).isSome)∧(fs.toList.mapM (fun f=>(Tryd.prog.info? f.type).map fun i=>(f.offset,i.size))).isSome:=
 ⟨_,Tryd.underlying29,by kernel_rfl,List.all_eq_true.1 (by kernel_rfl),by kernel_rfl⟩
theorem ZP:∃fs:Array Field,Tryd.prog.underlying 35=some (.struct fs)∧[(0,3),(1,3),(2,9),(3,22),(4,33)]=fs.toList.map (fun f=>(f.offset,f.type))∧(∀ y∈([(0,3),(1,3),(2,9),(3,22),(4,33)]:List (Nat×Nat)),(ax b9.code y.2).isSome)∧(fs.toList.mapM (fun f=>(Tryd.prog.info? f.type).map fun i=>(f.offset,i.size))).isSome:=
 ⟨_,Tryd.underlying35,by kernel_rfl,List.all_eq_true.1 (by kernel_rfl),by kernel_rfl⟩
theorem ZQ:∃fs:Array Field,Tryd.prog.underlying 39=some (.struct fs)∧[(0,3),(1,22),(2,37),(3,27),(4,3),(5,3)]=fs.toList.map (fun f=>(f.offset,f.type))∧(∀ y∈([(0,3),(1,22),(2,37),(3,27),(4,3),(5,3)]:List (Nat×Nat)),(ax b9.code y.2).isSome)∧(fs.toList.mapM (fun f=>(Tryd.prog.info? f.type).map fun i=>(f.offset,i.size))).isSome:=
 ⟨_,Tryd.underlying39,by kernel_rfl,List.all_eq_true.1 (by kernel_rfl),by kernel_rfl⟩
theorem ZR:∃fs:Array Field,Tryd.prog.underlying 92=some (.struct fs)∧[(0,48),(1,3),(2,3)]=fs.toList.map (fun f=>(f.offset,f.type))∧(∀ y∈([(0,48),(1,3),(2,3)]:List (Nat×Nat)),(ax b9.code y.2).isSome)∧(fs.toList.mapM (fun f=>(Tryd.prog.info? f.type).map fun i=>(f.offset,i.size))).isSome:=
 ⟨_,Tryd.underlying92,by kernel_rfl,List.all_eq_true.1 (by kernel_rfl),by kernel_rfl⟩
theorem aV:b9.Ok Tryd.prog:={
 info:=Dx (by kernel_rfl)
 tK:=bJ.2 ⟨adj,bJ.2 ⟨adk,bJ.2 ⟨adl,bJ.2 ⟨adn,bJ.2 ⟨ado,bJ.2 ⟨adp,bJ.2 ⟨Zx,bJ.2 ⟨Zy,bJ.2 ⟨Zz,bJ.2 ⟨ZA,bJ.2 ⟨ZB,bJ.2 ⟨ZC,bJ.2 ⟨ZD,bJ.2 ⟨ZE,bJ.2 ⟨ZF,bJ.2 ⟨ZG,bJ.2 ⟨ZH,bJ.2 ⟨ZI,bJ.2 ⟨ZJ,bJ.2 ⟨ZK,bJ.2 ⟨ZL,bJ.2 ⟨ZM,bJ.2 ⟨VQ,bJ.2 ⟨VR,bJ.2 ⟨VS,bJ.2 ⟨VT,bJ.2 ⟨VU,bJ.2 ⟨VV,bJ.2 ⟨VW,bJ.2 ⟨VX,im⟩⟩⟩⟩⟩⟩⟩⟩⟩⟩⟩⟩⟩⟩⟩⟩⟩⟩⟩⟩⟩⟩⟩⟩⟩⟩⟩⟩⟩⟩
 wx:=bJ.2 ⟨ZN,bJ.2 ⟨ZO,bJ.2 ⟨ZP,bJ.2 ⟨ZQ,bJ.2 ⟨ZR,im⟩⟩⟩⟩⟩
 Yi:=bJ.2 ⟨fun h=>by first | (cases h;done) | (simp;done),bJ.2 ⟨fun h=>by first | (cases h;done) | (simp;done),bJ.2 ⟨fun h=>by first | (cases h;done) | (simp;done),bJ.2 ⟨fun h=>by first | (cases h;done) | (simp;done),bJ.2 ⟨fun h=>by first | (cases h;done) | (simp;done),bJ.2 ⟨fun h=>by first | (cases h;done) | (simp;done),bJ.2 ⟨fun h=>by first | (cases h;done) | (simp;done),bJ.2 ⟨fun h=>by first | (cases h;done) | (simp;done),bJ.2 ⟨fun h=>by first | (cases h;done) | (simp;done),bJ.2 ⟨fun h=>by first | (cases h;done) | (simp;done),bJ.2 ⟨fun h=>by first | (cases h;done) | (simp;done),bJ.2 ⟨fun h=>by first | (cases h;done) | (simp;done),bJ.2 ⟨fun _=>by simp [b9],bJ.2 ⟨fun h=>by first | (cases h;done) | (simp;done),bJ.2 ⟨fun h=>by first | (cases h;done) | (simp;done),bJ.2 ⟨fun _=>by simp [b9],bJ.2 ⟨fun h=>by first | (cases h;done) | (simp;done),bJ.2 ⟨fun _=>by simp [b9],bJ.2 ⟨fun h=>by first | (cases h;done) | (simp;done),bJ.2 ⟨fun _=>by simp [b9],bJ.2 ⟨fun h=>by first | (cases h;done) | (simp;done),bJ.2 ⟨fun _=>by simp [b9],bJ.2 ⟨fun h=>by first | (cases h;done) | (simp;done),bJ.2 ⟨fun h=>by first | (cases h;done) | (simp;done),bJ.2 ⟨fun h=>by first | (cases h;done) | (simp;done),bJ.2 ⟨fun h=>by first | (cases h;done) | (simp;done),bJ.2 ⟨fun h=>by first | (cases h;done) | (simp;done),bJ.2 ⟨fun h=>by first | (cases h;done) | (simp;done),bJ.2 ⟨fun h=>by first | (cases h;done) | (simp;done),bJ.2 ⟨fun h=>by first | (cases h;done) | (simp;done),im⟩⟩⟩⟩⟩⟩⟩⟩⟩⟩⟩⟩⟩⟩⟩⟩⟩⟩⟩⟩⟩⟩⟩⟩⟩⟩⟩⟩⟩⟩
 eqs:=im
 ord:=by kernel_rfl }
noncomputable def Fw (y0:List Int) (y1:Int) (y2:Int):St:=⟨[(0,.c (.one (.rk (.i .u8) y0))),(3,.c (.one (.v (.int .i64 y1)))),(4,.c (.one (.v (.int .i64 y2))))],[],[]⟩
noncomputable def yu (y0:List Int) (y1:Int) (y2:Int) (y3:Bool):St:=⟨[(0,.c (.one (.rk (.i .u8) y0))),(3,.c (.one (.v (.int .i64 y1)))),(4,.c (.one (.v (.int .i64 y2)))),(15,.c (.one (.v (.bool y3))))],[],[]⟩
noncomputable def zS:Code:=(Tryd.f49.body).getD .skip
def B6:Nat→Kp:=fT [⟨[0],[],[],[]⟩,⟨[0,3],[],[],[]⟩,⟨[0,3,4],[],[],[]⟩,⟨[0,3,4,15],[],[],[]⟩,⟨[0,3,4],[],[],[]⟩,⟨[0,3,4],[],[],[]⟩,⟨[2],[],[],[]⟩]
noncomputable def vN:Env:=b9.env []
noncomputable def sJ {R:Type} (n:Nat) (x0:Int→Int→Bool→Option R) (x1:Int→Int→Option R) (wB:List Int):Nat→Int→Int→Option R
  | 0,_,_=>none
  | m+1,wD,wA=>
    (cond (decide (wA<(wB.length:Int)))
   (cond (decide (wA<(4000:Int)))
    (cond ((decide ((0:Int)≤wA))&&(decide (wA<(wB.length:Int))))
     (sJ n x0 x1 wB m (IntKind.wrap .i64 ((BitVec.toNat (BitVec.ofInt (IntKind.bits .i64) (IntKind.wrap .i64 ((IntKind.wrap .i64 ((IntKind.wrap .i64 (wD*(131:Int)))+(IntKind.wrap .i64 (ar (t:=(.i .u8)) wB (Int.toNat wA)))))+(7:Int))) &&& BitVec.ofInt (IntKind.bits .i64) (1073741823:Int)):Nat):Int)) (IntKind.wrap .i64 (wA+(1:Int))))
     none)
    (x0 wD wA (decide (wA<(4000:Int)))))
   (x1 wD wA))
theorem QI {R:Type} (n:Nat) (k':Kx R) (wB:List Int) (wD:Int) (wA:Int):ev vN B6 n (bl [1,1,0,1,0,0] zS) (Fw wB wD wA) k'=
 (cond (decide (wA<(wB.length:Int)))
 (cond (decide (wA<(4000:Int)))
 (cond ((decide ((0:Int)≤wA))&&(decide (wA<(wB.length:Int))))
 (k' .normal (Fw wB (IntKind.wrap .i64 ((BitVec.toNat (BitVec.ofInt (IntKind.bits .i64) (IntKind.wrap .i64 ((IntKind.wrap .i64 ((IntKind.wrap .i64 (wD*(131:Int)))+(IntKind.wrap .i64 (ar (t:=(.i .u8)) wB (Int.toNat wA)))))+(7:Int))) &&& BitVec.ofInt (IntKind.bits .i64) (1073741823:Int)):Nat):Int)) (IntKind.wrap .i64 (wA+(1:Int)))))
 none)
 (k' (.exit 0) (yu wB wD wA (decide (wA<(4000:Int))))))
 (k' (.exit 0) (yu wB wD wA false))):=by kernel_rfl
theorem Kn {R:Type} (n:Nat) (k':Kx R) (wB:List Int):∀(m:Nat) (wD:Int) (wA:Int),iter (fun st k=>ev vN B6 n (bl [1,1,0,1,0,0] zS) st k) m (Fw wB wD wA) k'=sJ n (fun (wC:Int) (wE:Int) (wF:Bool)=>k' (.exit 0) (yu wB wC wE wF)) (fun (wC:Int) (wE:Int)=>k' (.exit 0) (yu wB wC wE false)) wB m wD wA:=by
 intro m;induction m with
 | zero=>intros;rfl
 | succ m ih=>
  intro wD wA
  simp only [iter]
  rw [QI]
  simp only [ih,sJ]
noncomputable def Ko {R:Type} (n:Nat) (k':Kx R):Kx R:=(bZ 0 (dS vN B6 n (bl [1,1,1] zS) k'))
theorem Kq {R:Type} (n:Nat) (k:Kt R) (a0:List Int) (wB:List Int) (wC:Int) (wE:Int) (wF:Bool):Ko n (aC vN [.kp] [true] true [.tmp 2] [72] [.d (.sl (.i .u8)) a0] k) (.exit 0) (yu wB wC wE wF)=
 (k [.d .cur (⟨wB,(0:Int),wC⟩:ai)]):=by kernel_rfl
theorem Kr {R:Type} (n:Nat) (k:Kt R) (a0:List Int) (wB:List Int) (wC:Int) (wE:Int):Ko n (aC vN [.kp] [true] true [.tmp 2] [72] [.d (.sl (.i .u8)) a0] k) (.exit 0) (yu wB wC wE false)=
 (k [.d .cur (⟨wB,(0:Int),wC⟩:ai)]):=by kernel_rfl
theorem QJ {R:Type} (n:Nat) (k:Kt R) (a0:List Int):aM vN B6 n zS [.kp] [true] true [.tmp 2] [72] [.d (.sl (.i .u8)) a0] k=
 (sJ n (fun (wC:Int) (wE:Int) (wF:Bool)=>
 (k [.d .cur (⟨a0,(0:Int),wC⟩:ai)])) (fun (wC:Int) (wE:Int)=>
 (k [.d .cur (⟨a0,(0:Int),wC⟩:ai)])) a0 n (IntKind.wrap .i64 ((27212:Int)+(a0.length:Int))) (0:Int)):=by
 refine Eq.trans (b:=(iter (fun st k=>ev vN B6 n (bl [1,1,0,1,0,0] zS) st k) n (Fw a0 (IntKind.wrap .i64 ((27212:Int)+(a0.length:Int))) (0:Int)) (Ko n (aC vN [.kp] [true] true [.tmp 2] [72] [.d (.sl (.i .u8)) a0] k)))) (by kernel_rfl) ?_
 simp only [Kn,Kq,Kr]
def TY (a0:List Int) (o:ai):Prop:=(fun _ o=>ay o=true) a0 o∧∃n:Nat,∀ {R:Type} (k:Kt R),aM vN B6 n zS [.kp] [true] true [.tmp 2] [72] [.d (.sl (.i .u8)) a0] k=k [.d .cur o]
theorem VY (a0:List Int) (hg:iJ a0=true):∃o:ai,(fun _ o=>ay o=true) a0 o∧∃n:Nat,∀ {R:Type} (k:Kt R),aM vN B6 n zS [.kp] [true] true [.tmp 2] [72] [.d (.sl (.i .u8)) a0] k=k [.d .cur o]:=by
 have hl:a0.length≤1048576:=gw hg
 have key:∀(d:Nat) (m:Nat) (h:Int) (i:Nat),i+d=4000→d<m→∃h':Int,∀ {R:Type} (X:Int→Int→Bool→Option R) (Y:Int→Int→Option R) (Z:Int→Option R),(∀ x y z,X x y z=Z x)→(∀ x y,Y x y=Z x)→sJ 4001 X Y a0 m h (i:Int)=Z h':=by
  intro d
  induction d with
  | zero=>
   intro m h i hi hm
   obtain ⟨m,rfl⟩:∃m',m=m'+1:=⟨m-1,by omega⟩
   refine ⟨h,fun {R} X Y Z hX hY=> ?_⟩
   simp only [sJ,decide_eq_false (show ¬((i:Int)<4000) by omega),cond_false]
   cases decide ((i:Int)<(a0.length:Int))<;>simp only [cond_true,cond_false,hX,hY]
  | succ d ih=>
   intro m h i hi hm
   obtain ⟨m,rfl⟩:∃m',m=m'+1:=⟨m-1,by omega⟩
   cases hd:decide ((i:Int)<(a0.length:Int))
   ·refine ⟨h,fun {R} X Y Z hX hY=> ?_⟩
    simp only [sJ,hd,cond_false,hY]
   ·obtain ⟨h',hh⟩:=ih m _ (i+1) (by omega) (by omega)
    refine ⟨h',fun {R} X Y Z hX hY=> ?_⟩
    simp only [sJ,hd,decide_eq_true (show (i:Int)<4000 by omega),decide_eq_true (show (0:Int)≤(i:Int) by omega),Bool.and_self,cond_true,cu (x:=(i:Int)+1) (by omega) (by omega)]
    exact hh X Y Z hX hY
 obtain ⟨h',hh⟩:=key 4000 4001 (IntKind.wrap .i64 ((27212:Int)+(a0.length:Int))) 0 rfl (by omega)
 refine ⟨⟨a0,0,h'⟩,qz.2 ⟨Int.le_refl _,hl⟩,4001,fun {R} k=> ?_⟩
 rw [QJ]
 exact hh _ _ (fun x=>k [.d .cur ⟨a0,0,x⟩]) (fun _ _ _=>rfl) (fun _ _=>rfl)
theorem Ks (a0:List Int):Nonempty {o:ai // iJ a0=true→TY a0 o}:=by
 by_cases hg:iJ a0=true
 ·obtain ⟨o,ho⟩:=VY a0 hg
  exact ⟨⟨o,fun _=>ho⟩⟩
 ·exact ⟨⟨((zero .cur)),fun h=>absurd h hg⟩⟩
noncomputable def lH (a0:List Int):ai:=(Classical.choice (Ks a0)).val
theorem Ku (a0:List Int) (hg:iJ a0=true):TY a0 (lH a0):=(Classical.choice (Ks a0)).property hg
theorem yv (a0:List Int) (hg:iJ a0=true):(fun _ o=>ay o=true) a0 (lH a0):=(Ku a0 hg).1
theorem fj (a0:List Int) (hg:iJ a0=true):ay (lH a0)=true:=by
  have h:=yv a0 hg
  first | exact h | exact h.2 | exact h.2.2 | exact h.2.2.2
theorem Kv (a0:List Int) (hg:iJ a0=true):∃aJ rounds,∀ {R:Type} (k:Kt R),aM vN aJ rounds zS [.kp] [true] true [.tmp 2] [72] [.d (.sl (.i .u8)) a0] k=k [.d .cur (lH a0)]:=by
 obtain ⟨n,hn⟩:=(Ku a0 hg).2
 exact ⟨B6,n,hn⟩
noncomputable def q49:Qt
 | [.d (.sl (.i .u8)) a0]=>some ((iJ a0),[.d .cur (lH a0)])
 | _=>none
noncomputable def s49:Gm.Spec:=Gm.Spec.of [.kp] [true] true q49
theorem VZ:Gm.Good Tryd.prog (49,s49):=by
 have hl:∀x∈([]:List (Nat×Gm.Spec)),Gm.Good Tryd.prog x:=fun _ h=>by cases h
 refine ⟨⟨aK (aV.env hl) (b9.cF hl) Tryd.func49 (by kernel_rfl:Tryd.f49.body=some zS) [72] (by kernel_rfl) ?_,_,Tryd.func49,by kernel_rfl,of_decide_eq_true (by kernel_rfl)⟩,Gm.Spec.aB _ _ _ _⟩
 intro ds outs h
 unfold q49 at h
 split at h
 ·simp only [Option.some.injEq,Prod.mk.injEq] at h;obtain ⟨hg,h⟩:=h;cases h;exact Kv _ hg
 ·cases h
noncomputable def B7:Code:=(Tryd.f106.body).getD .skip
def Fy:Nat→Kp:=fT [⟨[0],[],[],[]⟩,⟨[0],[],[],[]⟩,⟨[0,3],[],[],[]⟩,⟨[0,3,34],[],[],[]⟩,⟨[0,3],[],[],[]⟩,⟨[0,3],[],[],[]⟩,⟨[0,2],[],[],[]⟩]
noncomputable def Fz:Env:=b9.env []
theorem B8 {R:Type} (n:Nat) (k:Kt R) (a0:ai):aM Fz Fy n B7 [.bj] [false] true [.tmp 2] [3] [.d .cur a0] k=
 (cond (decide ((ai.i a0)<((ai.b a0).length:Int)))
 (cond ((decide ((0:Int)≤(ai.i a0)))&&(decide ((ai.i a0)<((ai.b a0).length:Int))))
 (k [.d (.i .i64) (IntKind.wrap .i64 ((BitVec.toNat (BitVec.ofInt (IntKind.bits .i64) (IntKind.wrap .i64 ((IntKind.wrap .i64 ((BitVec.toNat (BitVec.ofInt (IntKind.bits .i64) (IntKind.wrap .i64 ((BitVec.toNat (BitVec.ofInt (IntKind.bits .i64) (Int.fdiv (IntKind.wrap .i64 ((IntKind.wrap .i64 ((ai.h a0)*(6364136223846793005:Int)))+(1442695040888963407:Int))) (2^(min (Int.toNat (33:Int)) (IntKind.bits .i64)))) ^^^ BitVec.ofInt (IntKind.bits .i64) (Int.fdiv (IntKind.wrap .i64 ((IntKind.wrap .i64 ((ai.h a0)*(6364136223846793005:Int)))+(1442695040888963407:Int))) (2^(min (Int.toNat (45:Int)) (IntKind.bits .i64))))):Nat):Int)) &&& BitVec.ofInt (IntKind.bits .i64) (255:Int)):Nat):Int))+(IntKind.wrap .i64 (ar (t:=(.i .u8)) (ai.b a0) (Int.toNat (ai.i a0)))))) &&& BitVec.ofInt (IntKind.bits .i64) (255:Int)):Nat):Int)),.d .cur (⟨(ai.b a0),(IntKind.wrap .i64 ((ai.i a0)+(1:Int))),(IntKind.wrap .i64 ((IntKind.wrap .i64 ((ai.h a0)*(6364136223846793005:Int)))+(1442695040888963407:Int)))⟩:ai)])
 none)
 (k [.d (.i .i64) (IntKind.wrap .i64 ((BitVec.toNat (BitVec.ofInt (IntKind.bits .i64) (IntKind.wrap .i64 ((BitVec.toNat (BitVec.ofInt (IntKind.bits .i64) (Int.fdiv (IntKind.wrap .i64 ((IntKind.wrap .i64 ((ai.h a0)*(6364136223846793005:Int)))+(1442695040888963407:Int))) (2^(min (Int.toNat (33:Int)) (IntKind.bits .i64)))) ^^^ BitVec.ofInt (IntKind.bits .i64) (Int.fdiv (IntKind.wrap .i64 ((IntKind.wrap .i64 ((ai.h a0)*(6364136223846793005:Int)))+(1442695040888963407:Int))) (2^(min (Int.toNat (45:Int)) (IntKind.bits .i64))))):Nat):Int)) &&& BitVec.ofInt (IntKind.bits .i64) (255:Int)):Nat):Int)),.d .cur (⟨(ai.b a0),(ai.i a0),(IntKind.wrap .i64 ((IntKind.wrap .i64 ((ai.h a0)*(6364136223846793005:Int)))+(1442695040888963407:Int)))⟩:ai)])):=by kernel_rfl
def Kw (a0:ai) (o:Int×ai):Prop:=(fun _ o=>(0≤o.1∧o.1≤255)∧ay o.2=true) a0 o∧∃n:Nat,∀ {R:Type} (k:Kt R),aM Fz Fy n B7 [.bj] [false] true [.tmp 2] [3] [.d .cur a0] k=k [.d (.i .i64) o.1,.d .cur o.2]
theorem QK (a0:ai) (hg:ay a0=true):∃o:Int×ai,(fun _ o=>(0≤o.1∧o.1≤255)∧ay o.2=true) a0 o∧∃n:Nat,∀ {R:Type} (k:Kt R),aM Fz Fy n B7 [.bj] [false] true [.tmp 2] [3] [.d .cur a0] k=k [.d (.i .i64) o.1,.d .cur o.2]:=by
 obtain ⟨h0,hl⟩:=qz.1 hg
 cases hd:decide (ai.i a0<((ai.b a0).length:Int))
 ·refine ⟨(?ZS,?ZT),?DO,0,?DP⟩
  case DP=>
   intro R k
   rw [B8]
   simp only [hd,Bool.and_self,cond_true,cond_false]
   exact rfl
  case DO=>exact ⟨Fe _,qz.2 ⟨h0,hl⟩⟩
 ·have ct:=of_decide_eq_true hd
  refine ⟨(?az1,?bz1),?ZU,0,?ZV⟩
  case ZV=>
   intro R k
   rw [B8]
   simp only [hd,decide_eq_true h0,Bool.and_self,cond_true,cond_false]
   exact rfl
  case ZU=>
   refine ⟨Fe _,qz.2 ⟨?_,hl⟩⟩
   show 0≤IntKind.wrap .i64 (ai.i a0+1)
   rw [cu (by omega) (by omega)];omega
theorem FA (a0:ai):Nonempty {o:Int×ai // ay a0=true→Kw a0 o}:=by
 by_cases hg:ay a0=true
 ·obtain ⟨o,ho⟩:=QK a0 hg
  exact ⟨⟨o,fun _=>ho⟩⟩
 ·exact ⟨⟨((zero (.i .i64)),(zero .cur)),fun h=>absurd h hg⟩⟩
noncomputable def cA (a0:ai):Int×ai:=(Classical.choice (FA a0)).val
theorem FB (a0:ai) (hg:ay a0=true):Kw a0 (cA a0):=(Classical.choice (FA a0)).property hg
theorem kA (a0:ai) (hg:ay a0=true):(fun _ o=>(0≤o.1∧o.1≤255)∧ay o.2=true) a0 (cA a0):=(FB a0 hg).1
theorem dX (a0:ai) (hg:ay a0=true):ay (cA a0).2=true:=by
  have h:=kA a0 hg
  first | exact h | exact h.2 | exact h.2.2 | exact h.2.2.2
theorem Hr (a0:ai) (hg:ay a0=true):∃aJ rounds,∀ {R:Type} (k:Kt R),aM Fz aJ rounds B7 [.bj] [false] true [.tmp 2] [3] [.d .cur a0] k=k [.d (.i .i64) ((cA a0).1),.d .cur ((cA a0).2)]:=by
 obtain ⟨n,hn⟩:=(FB a0 hg).2
 exact ⟨Fy,n,hn⟩
noncomputable def ZW:Qt
 | [.d .cur a0]=>some ((ay a0),[.d (.i .i64) ((cA a0).1),.d .cur ((cA a0).2)])
 | _=>none
noncomputable def V0:Gm.Spec:=Gm.Spec.of [.bj] [false] true ZW
theorem QL:Gm.Good Tryd.prog (106,V0):=by
 have hl:∀x∈([]:List (Nat×Gm.Spec)),Gm.Good Tryd.prog x:=fun _ h=>by cases h
 refine ⟨⟨aK (aV.env hl) (b9.cF hl) Tryd.func106 (by kernel_rfl:Tryd.f106.body=some B7) [3] (by kernel_rfl) ?_,_,Tryd.func106,by kernel_rfl,of_decide_eq_true (by kernel_rfl)⟩,Gm.Spec.aB _ _ _ _⟩
 intro ds outs h
 unfold ZW at h
 split at h
 ·simp only [Option.some.injEq,Prod.mk.injEq] at h;obtain ⟨hg,h⟩:=h;cases h;exact Hr _ hg
 ·cases h
noncomputable def Ky:Code:=(Tryd.f86.body).getD .skip
def QM:Nat→Kp:=fT [⟨[0,1],[],[],[]⟩,⟨[0,1,10],[],[],[]⟩,⟨[0,4],[],[],[]⟩,⟨[0,1,12],[],[],[]⟩,⟨[0,4],[],[],[]⟩,⟨[0,1,5],[],[],[]⟩,⟨[0,1,5,6],[],[],[]⟩,⟨[0,1,5,6,7],[],[],[]⟩,⟨[0,1,5,6,7,8],[],[],[]⟩,⟨[0,4],[],[],[]⟩]
noncomputable def QN:Env:=b9.env [(106,V0)]
theorem zT {R:Type} (n:Nat) (k:Kt R) (a0:ai) (a1:Int):aM QN QM n Ky [.bj,.ro] [false] true [.tmp 4] [3] [.d .cur a0,.d (.i .i64) a1] k=
 (cond (decide (a1≤(0:Int)))
 (k [.d (.i .i64) (0:Int),.d .cur a0])
 (cond (decide (a1≤(256:Int)))
 (cond (ay a0)
 (cond (decide (a1=0))
 none
 (k [.d (.i .i64) (Int.tmod ((cA a0).1) a1),.d .cur ((cA a0).2)]))
 none)
 (cond (ay a0)
 (cond (ay ((cA a0).2))
 (cond (ay ((cA ((cA a0).2)).2))
 (cond (ay ((cA ((cA ((cA a0).2)).2)).2))
 (cond (decide (a1=0))
 none
 (k [.d (.i .i64) (Int.tmod (IntKind.wrap .i64 ((IntKind.wrap .i64 ((IntKind.wrap .i64 ((IntKind.wrap .i64 (((cA a0).1)*(16777216:Int)))+(IntKind.wrap .i64 (((cA ((cA a0).2)).1)*(65536:Int)))))+(IntKind.wrap .i64 (((cA ((cA ((cA a0).2)).2)).1)*(256:Int)))))+((cA ((cA ((cA ((cA a0).2)).2)).2)).1))) a1),.d .cur ((cA ((cA ((cA ((cA a0).2)).2)).2)).2)]))
 none)
 none)
 none)
 none))):=by kernel_rfl
def T3 (a0:ai) (a1:Int) (o:Int×ai):Prop:=(fun _ n o=>0≤o.1∧(0<n→o.1<n)∧ay o.2=true) a0 a1 o∧∃n:Nat,∀ {R:Type} (k:Kt R),aM QN QM n Ky [.bj,.ro] [false] true [.tmp 4] [3] [.d .cur a0,.d (.i .i64) a1] k=k [.d (.i .i64) o.1,.d .cur o.2]
theorem V1 (a0:ai) (a1:Int) (hg:(fun c _=>ay c) a0 a1=true):∃o:Int×ai,(fun _ n o=>0≤o.1∧(0<n→o.1<n)∧ay o.2=true) a0 a1 o∧∃n:Nat,∀ {R:Type} (k:Kt R),aM QN QM n Ky [.bj,.ro] [false] true [.tmp 4] [3] [.d .cur a0,.d (.i .i64) a1] k=k [.d (.i .i64) o.1,.d .cur o.2]:=by
 have hg:ay a0=true:=hg
 cases h1:decide (a1≤(0:Int))
 ·have hn:=of_decide_eq_false h1
  have hz:decide (a1=0)=false:=decide_eq_false (by omega)
  obtain ⟨b1,g1⟩:=kA a0 hg
  cases h2:decide (a1≤(256:Int))
  ·obtain ⟨b2,g2⟩:=kA _ g1
   obtain ⟨b3,g3⟩:=kA _ g2
   obtain ⟨b4,g4⟩:=kA _ g3
   refine ⟨(?ZS,?ZT),?DO,0,?DP⟩
   case DP=>
    intro R k
    rw [zT]
    simp only [h1,h2,hz,hg,g1,g2,g3,Bool.and_self,cond_true,cond_false]
    exact rfl
   case DO=>
    have:=Ff (VJ b1 b2 b3 b4) (show 0<a1 by omega)
    exact ⟨this.1,fun _=>this.2,g4⟩
  ·refine ⟨(?az1,?bz1),?ZU,0,?ZV⟩
   case ZV=>
    intro R k
    rw [zT]
    simp only [h1,h2,hz,hg,Bool.and_self,cond_true,cond_false]
    exact rfl
   case ZU=>
    have:=Ff b1.1 (show 0<a1 by omega)
    exact ⟨this.1,fun _=>this.2,g1⟩
 ·have hn:=of_decide_eq_true h1
  refine ⟨(?az2,?bz2),?gz2,0,?rz2⟩
  case rz2=>
   intro R k
   rw [zT]
   simp only [h1,Bool.and_self,cond_true,cond_false]
   exact rfl
  case gz2=>exact ⟨Int.le_refl _,fun h=>by omega,hg⟩
theorem Kz (a0:ai) (a1:Int):Nonempty {o:Int×ai // (fun c _=>ay c) a0 a1=true→T3 a0 a1 o}:=by
 by_cases hg:(fun c _=>ay c) a0 a1=true
 ·obtain ⟨o,ho⟩:=V1 a0 a1 hg
  exact ⟨⟨o,fun _=>ho⟩⟩
 ·exact ⟨⟨((zero (.i .i64)),(zero .cur)),fun h=>absurd h hg⟩⟩
noncomputable def ag (a0:ai) (a1:Int):Int×ai:=(Classical.choice (Kz a0 a1)).val
theorem KA (a0:ai) (a1:Int) (hg:(fun c _=>ay c) a0 a1=true):T3 a0 a1 (ag a0 a1):=(Classical.choice (Kz a0 a1)).property hg
theorem cG (a0:ai) (a1:Int) (hg:(fun c _=>ay c) a0 a1=true):(fun _ n o=>0≤o.1∧(0<n→o.1<n)∧ay o.2=true) a0 a1 (ag a0 a1):=(KA a0 a1 hg).1
theorem bh (a0:ai) (a1:Int) (hg:ay a0=true):ay (ag a0 a1).2=true:=by
  have h:=cG a0 a1 hg
  first | exact h | exact h.2 | exact h.2.2 | exact h.2.2.2
theorem KB (a0:ai) (a1:Int) (hg:(fun c _=>ay c) a0 a1=true):∃aJ rounds,∀ {R:Type} (k:Kt R),aM QN aJ rounds Ky [.bj,.ro] [false] true [.tmp 4] [3] [.d .cur a0,.d (.i .i64) a1] k=k [.d (.i .i64) ((ag a0 a1).1),.d .cur ((ag a0 a1).2)]:=by
 obtain ⟨n,hn⟩:=(KA a0 a1 hg).2
 exact ⟨QM,n,hn⟩
noncomputable def q86:Qt
 | [.d .cur a0,.d (.i .i64) a1]=>some (((fun c _=>ay c) a0 a1),[.d (.i .i64) ((ag a0 a1).1),.d .cur ((ag a0 a1).2)])
 | _=>none
noncomputable def Ay:Gm.Spec:=Gm.Spec.of [.bj,.ro] [false] true q86
theorem mS:Gm.Good Tryd.prog (86,Ay):=by
 have hl:∀x∈[(106,V0)],Gm.Good Tryd.prog x:=bJ.2 ⟨QL,im⟩
 refine ⟨⟨aK (aV.env hl) (b9.cF hl) Tryd.func86 (by kernel_rfl:Tryd.f86.body=some Ky) [3] (by kernel_rfl) ?_,_,Tryd.func86,by kernel_rfl,of_decide_eq_true (by kernel_rfl)⟩,Gm.Spec.aB _ _ _ _⟩
 intro ds outs h
 unfold q86 at h
 split at h
 ·simp only [Option.some.injEq,Prod.mk.injEq] at h;obtain ⟨hg,h⟩:=h;cases h;exact KB _ _ hg
 ·cases h
noncomputable def KC:Code:=(Tryd.f72.body).getD .skip
def QO:Nat→Kp:=fT [⟨[0,1],[],[],[]⟩,⟨[0,4],[],[],[]⟩]
noncomputable def QP:Env:=b9.env [(86,Ay)]
theorem QQ {R:Type} (n:Nat) (k:Kt R) (a0:ai) (a1:Int):aM QP QO n KC [.bj,.ro] [false] true [.tmp 4] [4] [.d .cur a0,.d (.i .i64) a1] k=
 (cond ((fun c _=>ay c) a0 a1)
 (k [.d .bool (((ag a0 a1).1)==(0:Int)),.d .cur ((ag a0 a1).2)])
 none):=by kernel_rfl
def T4 (a0:ai) (a1:Int) (o:Bool×ai):Prop:=(fun _ _ o=>ay o.2=true) a0 a1 o∧∃n:Nat,∀ {R:Type} (k:Kt R),aM QP QO n KC [.bj,.ro] [false] true [.tmp 4] [4] [.d .cur a0,.d (.i .i64) a1] k=k [.d .bool o.1,.d .cur o.2]
theorem V2 (a0:ai) (a1:Int) (hg:(fun c _=>ay c) a0 a1=true):∃o:Bool×ai,(fun _ _ o=>ay o.2=true) a0 a1 o∧∃n:Nat,∀ {R:Type} (k:Kt R),aM QP QO n KC [.bj,.ro] [false] true [.tmp 4] [4] [.d .cur a0,.d (.i .i64) a1] k=k [.d .bool o.1,.d .cur o.2]:=by
 have hg:ay a0=true:=hg
 obtain ⟨_,_,g1⟩:=cG a0 a1 hg
 refine ⟨(?ZS,?ZT),?DO,0,?DP⟩
 case DP=>
  intro R k
  rw [QQ]
  simp only [hg,cond_true]
  exact rfl
 case DO=>exact g1
theorem KD (a0:ai) (a1:Int):Nonempty {o:Bool×ai // (fun c _=>ay c) a0 a1=true→T4 a0 a1 o}:=by
 by_cases hg:(fun c _=>ay c) a0 a1=true
 ·obtain ⟨o,ho⟩:=V2 a0 a1 hg
  exact ⟨⟨o,fun _=>ho⟩⟩
 ·exact ⟨⟨((zero .bool),(zero .cur)),fun h=>absurd h hg⟩⟩
noncomputable def aj (a0:ai) (a1:Int):Bool×ai:=(Classical.choice (KD a0 a1)).val
theorem KE (a0:ai) (a1:Int) (hg:(fun c _=>ay c) a0 a1=true):T4 a0 a1 (aj a0 a1):=(Classical.choice (KD a0 a1)).property hg
theorem fb (a0:ai) (a1:Int) (hg:(fun c _=>ay c) a0 a1=true):(fun _ _ o=>ay o.2=true) a0 a1 (aj a0 a1):=(KE a0 a1 hg).1
theorem bw (a0:ai) (a1:Int) (hg:ay a0=true):ay (aj a0 a1).2=true:=by
  have h:=fb a0 a1 hg
  first | exact h | exact h.2 | exact h.2.2 | exact h.2.2.2
theorem KF (a0:ai) (a1:Int) (hg:(fun c _=>ay c) a0 a1=true):∃aJ rounds,∀ {R:Type} (k:Kt R),aM QP aJ rounds KC [.bj,.ro] [false] true [.tmp 4] [4] [.d .cur a0,.d (.i .i64) a1] k=k [.d .bool ((aj a0 a1).1),.d .cur ((aj a0 a1).2)]:=by
 obtain ⟨n,hn⟩:=(KE a0 a1 hg).2
 exact ⟨QO,n,hn⟩
noncomputable def q72:Qt
 | [.d .cur a0,.d (.i .i64) a1]=>some (((fun c _=>ay c) a0 a1),[.d .bool ((aj a0 a1).1),.d .cur ((aj a0 a1).2)])
 | _=>none
noncomputable def Ip:Gm.Spec:=Gm.Spec.of [.bj,.ro] [false] true q72
theorem rQ:Gm.Good Tryd.prog (72,Ip):=by
 have hl:∀x∈[(86,Ay)],Gm.Good Tryd.prog x:=bJ.2 ⟨mS,im⟩
 refine ⟨⟨aK (aV.env hl) (b9.cF hl) Tryd.func72 (by kernel_rfl:Tryd.f72.body=some KC) [4] (by kernel_rfl) ?_,_,Tryd.func72,by kernel_rfl,of_decide_eq_true (by kernel_rfl)⟩,Gm.Spec.aB _ _ _ _⟩
 intro ds outs h
 unfold q72 at h
 split at h
 ·simp only [Option.some.injEq,Prod.mk.injEq] at h;obtain ⟨hg,h⟩:=h;cases h;exact KF _ _ hg
 ·cases h
noncomputable def KG:Code:=(Tryd.f98.body).getD .skip
def QR:Nat→Kp:=fT [⟨[0,1],[],[],[]⟩,⟨[0,4],[],[],[]⟩]
noncomputable def QS:Env:=b9.env [(86,Ay)]
theorem QT {R:Type} (n:Nat) (k:Kt R) (a0:ai) (a1:List BA):aM QS QR n KG [.bj,.ro] [false] true [.tmp 4] [9] [.d .cur a0,.d (.sl .str) a1] k=
 (cond ((fun c _=>ay c) a0 (a1.length:Int))
 (cond ((decide ((0:Int)≤((ag a0 (a1.length:Int)).1)))&&(decide (((ag a0 (a1.length:Int)).1)<(a1.length:Int))))
 (k [.d .str (ar (t:= .str) a1 (Int.toNat ((ag a0 (a1.length:Int)).1))),.d .cur ((ag a0 (a1.length:Int)).2)])
 none)
 none):=by kernel_rfl
def T5 (a0:ai) (a1:List BA) (o:BA×ai):Prop:=(fun _ l o=>o.1∈l∧ay o.2=true) a0 a1 o∧∃n:Nat,∀ {R:Type} (k:Kt R),aM QS QR n KG [.bj,.ro] [false] true [.tmp 4] [9] [.d .cur a0,.d (.sl .str) a1] k=k [.d .str o.1,.d .cur o.2]
theorem V3 (a0:ai) (a1:List BA) (hg:ey a0 a1=true):∃o:BA×ai,(fun _ l o=>o.1∈l∧ay o.2=true) a0 a1 o∧∃n:Nat,∀ {R:Type} (k:Kt R),aM QS QR n KG [.bj,.ro] [false] true [.tmp 4] [9] [.d .cur a0,.d (.sl .str) a1] k=k [.d .str o.1,.d .cur o.2]:=by
 obtain ⟨hg,dP⟩:=Bool.and_eq_true_iff.1 hg
 obtain ⟨dP,hl⟩:=Bool.and_eq_true_iff.1 dP
 obtain ⟨h0,h1,g1⟩:=cG a0 (a1.length:Int) hg
 have h1:=h1 (J6 dP)
 refine ⟨(?ZS,?ZT),?DO,0,?DP⟩
 case DP=>
  intro R k
  rw [QT]
  simp only [hg,J5 h0 h1,cond_true]
  exact rfl
 case DO=>exact ⟨tn (t:= .str) h0 h1,g1⟩
theorem KH (a0:ai) (a1:List BA):Nonempty {o:BA×ai // ey a0 a1=true→T5 a0 a1 o}:=by
 by_cases hg:ey a0 a1=true
 ·obtain ⟨o,ho⟩:=V3 a0 a1 hg
  exact ⟨⟨o,fun _=>ho⟩⟩
 ·exact ⟨⟨((zero .str),(zero .cur)),fun h=>absurd h hg⟩⟩
noncomputable def bE (a0:ai) (a1:List BA):BA×ai:=(Classical.choice (KH a0 a1)).val
theorem KI (a0:ai) (a1:List BA) (hg:ey a0 a1=true):T5 a0 a1 (bE a0 a1):=(Classical.choice (KH a0 a1)).property hg
theorem jh (a0:ai) (a1:List BA) (hg:ey a0 a1=true):(fun _ l o=>o.1∈l∧ay o.2=true) a0 a1 (bE a0 a1):=(KI a0 a1 hg).1
theorem cD (a0:ai) (a1:List BA) (hg:ey a0 a1=true):ay (bE a0 a1).2=true:=by
  have h:=jh a0 a1 hg
  first | exact h | exact h.2 | exact h.2.2 | exact h.2.2.2
theorem KJ (a0:ai) (a1:List BA) (hg:ey a0 a1=true):∃aJ rounds,∀ {R:Type} (k:Kt R),aM QS aJ rounds KG [.bj,.ro] [false] true [.tmp 4] [9] [.d .cur a0,.d (.sl .str) a1] k=k [.d .str ((bE a0 a1).1),.d .cur ((bE a0 a1).2)]:=by
 obtain ⟨n,hn⟩:=(KI a0 a1 hg).2
 exact ⟨QR,n,hn⟩
noncomputable def q98:Qt
 | [.d .cur a0,.d (.sl .str) a1]=>some ((ey a0 a1),[.d .str ((bE a0 a1).1),.d .cur ((bE a0 a1).2)])
 | _=>none
noncomputable def QU:Gm.Spec:=Gm.Spec.of [.bj,.ro] [false] true q98
theorem zU:Gm.Good Tryd.prog (98,QU):=by
 have hl:∀x∈[(86,Ay)],Gm.Good Tryd.prog x:=bJ.2 ⟨mS,im⟩
 refine ⟨⟨aK (aV.env hl) (b9.cF hl) Tryd.func98 (by kernel_rfl:Tryd.f98.body=some KG) [9] (by kernel_rfl) ?_,_,Tryd.func98,by kernel_rfl,of_decide_eq_true (by kernel_rfl)⟩,Gm.Spec.aB _ _ _ _⟩
 intro ds outs h
 unfold q98 at h
 split at h
 ·simp only [Option.some.injEq,Prod.mk.injEq] at h;obtain ⟨hg,h⟩:=h;cases h;exact KJ _ _ hg
 ·cases h
noncomputable def B9:Code:=(Tryd.f101.body).getD .skip
def FC:Nat→Kp:=fT [⟨[0,1],[],[],[]⟩,⟨[0,4],[],[],[]⟩]
noncomputable def FD:Env:=b9.env [(86,Ay)]
theorem KK {R:Type} (n:Nat) (k:Kt R) (a0:ai) (a1:List Int):aM FD FC n B9 [.bj,.ro] [false] true [.tmp 4] [3] [.d .cur a0,.d (.sl (.i .i64)) a1] k=
 (cond ((fun c _=>ay c) a0 (a1.length:Int))
 (cond ((decide ((0:Int)≤((ag a0 (a1.length:Int)).1)))&&(decide (((ag a0 (a1.length:Int)).1)<(a1.length:Int))))
 (k [.d (.i .i64) (ar (t:=(.i .i64)) a1 (Int.toNat ((ag a0 (a1.length:Int)).1))),.d .cur ((ag a0 (a1.length:Int)).2)])
 none)
 none):=by kernel_rfl
def KL (a0:ai) (a1:List Int) (o:Int×ai):Prop:=(fun _ l o=>o.1∈l∧ay o.2=true) a0 a1 o∧∃n:Nat,∀ {R:Type} (k:Kt R),aM FD FC n B9 [.bj,.ro] [false] true [.tmp 4] [3] [.d .cur a0,.d (.sl (.i .i64)) a1] k=k [.d (.i .i64) o.1,.d .cur o.2]
theorem QV (a0:ai) (a1:List Int) (hg:dW a0 a1=true):∃o:Int×ai,(fun _ l o=>o.1∈l∧ay o.2=true) a0 a1 o∧∃n:Nat,∀ {R:Type} (k:Kt R),aM FD FC n B9 [.bj,.ro] [false] true [.tmp 4] [3] [.d .cur a0,.d (.sl (.i .i64)) a1] k=k [.d (.i .i64) o.1,.d .cur o.2]:=by
 obtain ⟨hg,dP⟩:=Bool.and_eq_true_iff.1 hg
 obtain ⟨dP,hl⟩:=Bool.and_eq_true_iff.1 dP
 obtain ⟨h0,h1,g1⟩:=cG a0 (a1.length:Int) hg
 have h1:=h1 (J6 dP)
 refine ⟨(?ZS,?ZT),?DO,0,?DP⟩
 case DP=>
  intro R k
  rw [KK]
  simp only [hg,J5 h0 h1,cond_true]
  exact rfl
 case DO=>exact ⟨tn (t:=(.i .i64)) h0 h1,g1⟩
theorem FE (a0:ai) (a1:List Int):Nonempty {o:Int×ai // dW a0 a1=true→KL a0 a1 o}:=by
 by_cases hg:dW a0 a1=true
 ·obtain ⟨o,ho⟩:=QV a0 a1 hg
  exact ⟨⟨o,fun _=>ho⟩⟩
 ·exact ⟨⟨((zero (.i .i64)),(zero .cur)),fun h=>absurd h hg⟩⟩
noncomputable def bf (a0:ai) (a1:List Int):Int×ai:=(Classical.choice (FE a0 a1)).val
theorem FF (a0:ai) (a1:List Int) (hg:dW a0 a1=true):KL a0 a1 (bf a0 a1):=(Classical.choice (FE a0 a1)).property hg
theorem lf (a0:ai) (a1:List Int) (hg:dW a0 a1=true):(fun _ l o=>o.1∈l∧ay o.2=true) a0 a1 (bf a0 a1):=(FF a0 a1 hg).1
theorem cp (a0:ai) (a1:List Int) (hg:dW a0 a1=true):ay (bf a0 a1).2=true:=by
  have h:=lf a0 a1 hg
  first | exact h | exact h.2 | exact h.2.2 | exact h.2.2.2
theorem Ht (a0:ai) (a1:List Int) (hg:dW a0 a1=true):∃aJ rounds,∀ {R:Type} (k:Kt R),aM FD aJ rounds B9 [.bj,.ro] [false] true [.tmp 4] [3] [.d .cur a0,.d (.sl (.i .i64)) a1] k=k [.d (.i .i64) ((bf a0 a1).1),.d .cur ((bf a0 a1).2)]:=by
 obtain ⟨n,hn⟩:=(FF a0 a1 hg).2
 exact ⟨FC,n,hn⟩
theorem ez {c:ai} {l:List BA} (hg:ay c=true) (hn:(!l.isEmpty&&Nat.ble l.length 1048576)=true) (h:(l.all c8)=true):c8 (bE c l).1=true:=
  J8 (jh c l (ca hg hn)).1 h
theorem fp {c:ai} {l:List Int} (hg:ay c=true) (hn:(!l.isEmpty&&Nat.ble l.length 1048576)=true) (h:(l.all gL)=true):gL (bf c l).1=true:=
  List.all_eq_true.1 h _ (lf c l (cn hg hn)).1
theorem fq {c:ai} {n:Int} (hg:ay c=true) (h:0<n) (h2:n≤9223372036854775807):gL (ag c n).1=true:=by
 obtain ⟨h0,h1,_⟩:=cG c n hg
 have:=h1 h
 exact kt (by omega) (by omega)
noncomputable def ZX:Qt
 | [.d .cur a0,.d (.sl (.i .i64)) a1]=>some ((dW a0 a1),[.d (.i .i64) ((bf a0 a1).1),.d .cur ((bf a0 a1).2)])
 | _=>none
noncomputable def Hu:Gm.Spec:=Gm.Spec.of [.bj,.ro] [false] true ZX
theorem zV:Gm.Good Tryd.prog (101,Hu):=by
 have hl:∀x∈[(86,Ay)],Gm.Good Tryd.prog x:=bJ.2 ⟨mS,im⟩
 refine ⟨⟨aK (aV.env hl) (b9.cF hl) Tryd.func101 (by kernel_rfl:Tryd.f101.body=some B9) [3] (by kernel_rfl) ?_,_,Tryd.func101,by kernel_rfl,of_decide_eq_true (by kernel_rfl)⟩,Gm.Spec.aB _ _ _ _⟩
 intro ds outs h
 unfold ZX at h
 split at h
 ·simp only [Option.some.injEq,Prod.mk.injEq] at h;obtain ⟨hg,h⟩:=h;cases h;exact Ht _ _ hg
 ·cases h
noncomputable def V4:Code:=(Tryd.f63.body).getD .skip
def ZY:Nat→Kp:=fT [⟨[0,1,2],[],[],[]⟩,⟨[6],[],[],[]⟩]
noncomputable def ZZ:Env:=b9.env []
theorem QW {R:Type} (n:Nat) (k:Kt R) (a0:Int) (a1:Int) (a2:Int):aM ZZ ZY n V4 [.ro,.ro,.ro] [false] true [.tmp 6] [4] [.d (.i .i64) a0,.d (.i .i64) a1,.d (.i .i64) a2] k=
 (cond (decide (a0≥a1))
 (k [.d .bool (decide (a0≤a2))])
 (k [.d .bool false])):=by kernel_rfl
theorem KM (a0:Int) (a1:Int) (a2:Int):∃aJ rounds,∀ {R:Type} (k:Kt R),aM ZZ aJ rounds V4 [.ro,.ro,.ro] [false] true [.tmp 6] [4] [.d (.i .i64) a0,.d (.i .i64) a1,.d (.i .i64) a2] k=k [.d .bool (gZ a0 a1 a2)]:=by
 refine ⟨ZY,0,fun k=> ?_⟩
 rw [QW];unfold gZ
 cases decide (a0≥a1)<;>rfl
noncomputable def q63:Qt
 | [.d (.i .i64) a0,.d (.i .i64) a1,.d (.i .i64) a2]=>some (true,[.d .bool (gZ a0 a1 a2)])
 | _=>none
noncomputable def s63:Gm.Spec:=Gm.Spec.of [.ro,.ro,.ro] [false] true q63
theorem V5:Gm.Good Tryd.prog (63,s63):=by
 have hl:∀x∈([]:List (Nat×Gm.Spec)),Gm.Good Tryd.prog x:=fun _ h=>by cases h
 refine ⟨⟨aK (aV.env hl) (b9.cF hl) Tryd.func63 (by kernel_rfl:Tryd.f63.body=some V4) [4] (by kernel_rfl) ?_,_,Tryd.func63,by kernel_rfl,of_decide_eq_true (by kernel_rfl)⟩,Gm.Spec.aB _ _ _ _⟩
 intro ds outs h
 unfold q63 at h
 split at h
 ·cases h;exact KM _ _ _
 ·cases h
noncomputable def V6:Code:=(Tryd.f66.body).getD .skip
def Z0:Nat→Kp:=fT [⟨[0,1,2],[],[],[]⟩,⟨[6],[],[],[]⟩]
noncomputable def Z1:Env:=b9.env []
theorem QX {R:Type} (n:Nat) (k:Kt R) (a0:Int) (a1:Int) (a2:Int):aM Z1 Z0 n V6 [.ro,.ro,.ro] [false] true [.tmp 6] [4] [.d (.i .i64) a0,.d (.i .i64) a1,.d (.i .i64) a2] k=
 (cond (decide (a0≥a1))
 (k [.d .bool (decide (a0≤a2))])
 (k [.d .bool false])):=by kernel_rfl
theorem KN (a0:Int) (a1:Int) (a2:Int):∃aJ rounds,∀ {R:Type} (k:Kt R),aM Z1 aJ rounds V6 [.ro,.ro,.ro] [false] true [.tmp 6] [4] [.d (.i .i64) a0,.d (.i .i64) a1,.d (.i .i64) a2] k=k [.d .bool (gZ a0 a1 a2)]:=by
 refine ⟨Z0,0,fun k=> ?_⟩
 rw [QX];unfold gZ
 cases decide (a0≥a1)<;>rfl
noncomputable def q66:Qt
 | [.d (.i .i64) a0,.d (.i .i64) a1,.d (.i .i64) a2]=>some (true,[.d .bool (gZ a0 a1 a2)])
 | _=>none
noncomputable def QY:Gm.Spec:=Gm.Spec.of [.ro,.ro,.ro] [false] true q66
theorem zW:Gm.Good Tryd.prog (66,QY):=by
 have hl:∀x∈([]:List (Nat×Gm.Spec)),Gm.Good Tryd.prog x:=fun _ h=>by cases h
 refine ⟨⟨aK (aV.env hl) (b9.cF hl) Tryd.func66 (by kernel_rfl:Tryd.f66.body=some V6) [4] (by kernel_rfl) ?_,_,Tryd.func66,by kernel_rfl,of_decide_eq_true (by kernel_rfl)⟩,Gm.Spec.aB _ _ _ _⟩
 intro ds outs h
 unfold q66 at h
 split at h
 ·cases h;exact KN _ _ _
 ·cases h
noncomputable def zX (y0:BA) (y1:Int):St:=⟨[(0,.c (.one (.v (.string y0)))),(3,.c (.one (.v (.int .i64 y1))))],[],[]⟩
noncomputable def zY:St:=⟨[(2,.c (.one (.v (.bool false))))],[],[]⟩
noncomputable def DQ (y0:BA) (y1:Int) (y2:Bool):St:=⟨[(0,.c (.one (.v (.string y0)))),(3,.c (.one (.v (.int .i64 y1)))),(7,.c (.one (.v (.bool y2))))],[],[]⟩
noncomputable def vO:Code:=(Tryd.f107.body).getD .skip
def yw:Nat→Kp:=fT [⟨[0],[],[],[]⟩,⟨[0,3],[],[],[]⟩,⟨[0,3,7],[],[],[]⟩,⟨[0,3],[],[],[]⟩,⟨[0,3,19],[],[],[]⟩,⟨[2],[],[],[]⟩,⟨[2],[],[],[]⟩]
noncomputable def qM:Env:=b9.env []
noncomputable def pU {R:Type} (n:Nat) (x0:Option R) (x1:Int→Bool→Option R) (wA:BA):Nat→Int→Option R
  | 0,_=>none
  | m+1,wB=>
    (cond (decide (wB<(ByteArray.size wA:Int)))
   (cond ((decide ((0:Int)≤wB))&&(decide (wB<(ByteArray.size wA:Int))))
    (cond (decide ((((ByteArray.data wA).getD (Int.toNat wB) 0).toNat:Int)<(32:Int)))
     (x0)
     (cond ((decide ((0:Int)≤wB))&&(decide (wB<(ByteArray.size wA:Int))))
      (cond (decide ((((ByteArray.data wA).getD (Int.toNat wB) 0).toNat:Int)>(126:Int)))
       (x0)
       (pU n x0 x1 wA m (IntKind.wrap .i64 (wB+(1:Int)))))
      none))
    none)
   (x1 wB (decide (wB<(ByteArray.size wA:Int)))))
theorem KO {R:Type} (n:Nat) (k':Kx R) (wA:BA) (wB:Int):ev qM yw n (bl [1,0,1,0,0] vO) (zX wA wB) k'=
 (cond (decide (wB<(ByteArray.size wA:Int)))
 (cond ((decide ((0:Int)≤wB))&&(decide (wB<(ByteArray.size wA:Int))))
 (cond (decide ((((ByteArray.data wA).getD (Int.toNat wB) 0).toNat:Int)<(32:Int)))
 (k' .ret zY)
 (cond ((decide ((0:Int)≤wB))&&(decide (wB<(ByteArray.size wA:Int))))
 (cond (decide ((((ByteArray.data wA).getD (Int.toNat wB) 0).toNat:Int)>(126:Int)))
 (k' .ret zY)
 (k' .normal (zX wA (IntKind.wrap .i64 (wB+(1:Int))))))
 none))
 none)
 (k' (.exit 0) (DQ wA wB (decide (wB<(ByteArray.size wA:Int)))))):=by kernel_rfl
theorem Hv {R:Type} (n:Nat) (k':Kx R) (wA:BA):∀(m:Nat) (wB:Int),iter (fun st k=>ev qM yw n (bl [1,0,1,0,0] vO) st k) m (zX wA wB) k'=pU n (k' .ret zY) (fun (wF:Int) (wE:Bool)=>k' (.exit 0) (DQ wA wF wE)) wA m wB:=by
 intro m;induction m with
 | zero=>intros;rfl
 | succ m ih=>
  intro wB
  simp only [iter]
  rw [KO]
  simp only [ih,pU]
noncomputable def DR {R:Type} (n:Nat) (k':Kx R):Kx R:=(bZ 0 (dS qM yw n (bl [1,1] vO) k'))
theorem Hw {R:Type} (n:Nat) (k:Kt R) (a0:BA):DR n (aC qM [.ro] [false] true [.tmp 2] [4] [.d .str a0] k) .ret zY=
 (k [.d .bool false]):=by kernel_rfl
theorem Hx {R:Type} (n:Nat) (k:Kt R) (a0:BA) (wA:BA) (wF:Int) (wE:Bool):DR n (aC qM [.ro] [false] true [.tmp 2] [4] [.d .str a0] k) (.exit 0) (DQ wA wF wE)=
 (k [.d .bool (decide ((ByteArray.size wA:Int)≤(400:Int)))]):=by kernel_rfl
theorem KP {R:Type} (n:Nat) (k:Kt R) (a0:BA):aM qM yw n vO [.ro] [false] true [.tmp 2] [4] [.d .str a0] k=
 (pU n (k [.d .bool false]) (fun (wF:Int) (wE:Bool)=>
 (k [.d .bool (decide ((ByteArray.size a0:Int)≤(400:Int)))])) a0 n (0:Int)):=by
 refine Eq.trans (b:=(iter (fun st k=>ev qM yw n (bl [1,0,1,0,0] vO) st k) n (zX a0 (0:Int)) (DR n (aC qM [.ro] [false] true [.tmp 2] [4] [.d .str a0] k)))) (by kernel_rfl) ?_
 simp only [Hv,Hw,Hx]
theorem Hy (a0:BA) (hg:iH a0=true):∃aJ rounds,∀ {R:Type} (k:Kt R),aM qM aJ rounds vO [.ro] [false] true [.tmp 2] [4] [.d .str a0] k=k [.d .bool (dU a0)]:=by
 have hl:a0.size≤9223372036854775807:=gw hg
 refine ⟨yw,a0.size+1,fun {R} k=> ?_⟩
 rw [KP]
 refine Eq.trans (iG (n:=a0.size) (F:=fun m i=>pU (a0.size+1) _ _ a0 m i) (p:=fun j=>gZ (ko a0 j) 32 126) (good:=_) (bad:=k [.d .bool false])
  (fun m j hj=> ?_) (fun m=>by simp only [pU,gG,cond_false];rfl) a0.size 0 (a0.size+1) (by omega) (by omega)) ?_
 ·obtain ⟨h1,h0,hw,ht⟩:=idx hj (by omega)
  have hc:0≤ko a0 j∧ko a0 j<256:=by
   unfold ko
   have:=UInt8.toNat_lt (a0.data.getD j 0)
   omega
  simp only [pU,h1,h0,hw,ht,Bool.and_self,cond_true]
  change 0≤(((ByteArray.data a0).getD j 0).toNat:Int)∧(((ByteArray.data a0).getD j 0).toNat:Int)<256 at hc
  show _=cond (gZ (((ByteArray.data a0).getD j 0).toNat:Int) 32 126) _ _
  generalize (((ByteArray.data a0).getD j 0).toNat:Int)=c at *
  unfold gZ
  rw [show decide (c<32) = !(decide (c≥32)) by rw [Bool.eq_iff_iff];simp,show decide (c>126) = !(decide (c≤126)) by rw [Bool.eq_iff_iff];simp]
  cases decide (c≥32)<;>cases decide (c≤126)<;>rfl
 ·unfold dU
  cases oY (fun j=>gZ (ko a0 j) 32 126) 0 a0.size<;>rfl
noncomputable def Z2:Qt
 | [.d .str a0]=>some ((iH a0),[.d .bool (dU a0)])
 | _=>none
noncomputable def V7:Gm.Spec:=Gm.Spec.of [.ro] [false] true Z2
theorem QZ:Gm.Good Tryd.prog (107,V7):=by
 have hl:∀x∈([]:List (Nat×Gm.Spec)),Gm.Good Tryd.prog x:=fun _ h=>by cases h
 refine ⟨⟨aK (aV.env hl) (b9.cF hl) Tryd.func107 (by kernel_rfl:Tryd.f107.body=some vO) [4] (by kernel_rfl) ?_,_,Tryd.func107,by kernel_rfl,of_decide_eq_true (by kernel_rfl)⟩,Gm.Spec.aB _ _ _ _⟩
 intro ds outs h
 unfold Z2 at h
 split at h
 ·simp only [Option.some.injEq,Prod.mk.injEq] at h;obtain ⟨hg,h⟩:=h;cases h;exact Hy _ hg
 ·cases h
noncomputable def FG (y0:BA) (y1:Int) (y2:Int):St:=⟨[(0,.c (.one (.v (.string y0)))),(5,.c (.one (.v (.int .i64 y1)))),(6,.c (.one (.v (.int .i64 y2))))],[],[]⟩
noncomputable def KQ:St:=⟨[(2,.c (.one (.v (.bool false))))],[],[]⟩
noncomputable def KR (y0:BA) (y1:Int) (y2:Int) (y3:Bool):St:=⟨[(0,.c (.one (.v (.string y0)))),(5,.c (.one (.v (.int .i64 y1)))),(6,.c (.one (.v (.int .i64 y2)))),(7,.c (.one (.v (.bool y3))))],[],[]⟩
noncomputable def DS:Code:=(Tryd.f81.body).getD .skip
def Hz:Nat→Kp:=fT [⟨[0],[],[],[]⟩,⟨[0,5,6],[],[],[]⟩,⟨[0,5,6,7],[],[],[]⟩,⟨[0,3,5,6],[],[],[]⟩,⟨[0,5,6,14],[],[],[]⟩,⟨[2],[],[],[]⟩,⟨[0,5,6],[],[],[]⟩,⟨[2],[],[],[]⟩]
noncomputable def zZ:Env:=b9.env [(66,QY)]
noncomputable def vP {R:Type} (n:Nat) (x0:Option R) (x1:Int→Bool→Option R) (wA:BA) (wD:Int):Nat→Int→Option R
  | 0,_=>none
  | m+1,wC=>
    (cond (decide (wC<wD))
   (cond ((decide ((0:Int)≤wC))&&(decide (wC<(ByteArray.size wA:Int))))
    (cond (!(gZ (IntKind.wrap .i64 (((ByteArray.data wA).getD (Int.toNat wC) 0).toNat:Int)) (32:Int) (126:Int)))
     (x0)
     (vP n x0 x1 wA wD m (IntKind.wrap .i64 (wC+(1:Int)))))
    none)
   (x1 wC (decide (wC<wD))))
theorem Q0 {R:Type} (n:Nat) (k':Kx R) (wA:BA) (wD:Int) (wC:Int):ev zZ Hz n (bl [1,0,1,0,0] DS) (FG wA wD wC) k'=
 (cond (decide (wC<wD))
 (cond ((decide ((0:Int)≤wC))&&(decide (wC<(ByteArray.size wA:Int))))
 (cond (!(gZ (IntKind.wrap .i64 (((ByteArray.data wA).getD (Int.toNat wC) 0).toNat:Int)) (32:Int) (126:Int)))
 (k' .ret KQ)
 (k' .normal (FG wA wD (IntKind.wrap .i64 (wC+(1:Int))))))
 none)
 (k' (.exit 0) (KR wA wD wC (decide (wC<wD))))):=by kernel_rfl
theorem KS {R:Type} (n:Nat) (k':Kx R) (wA:BA) (wD:Int):∀(m:Nat) (wC:Int),iter (fun st k=>ev zZ Hz n (bl [1,0,1,0,0] DS) st k) m (FG wA wD wC) k'=vP n (k' .ret KQ) (fun (wG:Int) (wE:Bool)=>k' (.exit 0) (KR wA wD wG wE)) wA wD m wC:=by
 intro m;induction m with
 | zero=>intros;rfl
 | succ m ih=>
  intro wC
  simp only [iter]
  rw [Q0]
  simp only [ih,vP]
noncomputable def KT {R:Type} (n:Nat) (k':Kx R):Kx R:=(bZ 0 (dS zZ Hz n (bl [1,1] DS) k'))
theorem KU {R:Type} (n:Nat) (k:Kt R) (a0:BA):KT n (aC zZ [.ro] [false] true [.tmp 2] [4] [.d .str a0] k) .ret KQ=
 (k [.d .bool false]):=by kernel_rfl
theorem KV {R:Type} (n:Nat) (k:Kt R) (a0:BA) (wA:BA) (wD:Int) (wG:Int) (wE:Bool):KT n (aC zZ [.ro] [false] true [.tmp 2] [4] [.d .str a0] k) (.exit 0) (KR wA wD wG wE)=
 (k [.d .bool (decide ((ByteArray.size wA:Int)≤(400:Int)))]):=by kernel_rfl
theorem Q5 {R:Type} (n:Nat) (k:Kt R) (a0:BA):aM zZ Hz n DS [.ro] [false] true [.tmp 2] [4] [.d .str a0] k=
 (vP n (k [.d .bool false]) (fun (wG:Int) (wE:Bool)=>
 (k [.d .bool (decide ((ByteArray.size a0:Int)≤(400:Int)))])) a0 (ByteArray.size a0:Int) n (0:Int)):=by
 refine Eq.trans (b:=(iter (fun st k=>ev zZ Hz n (bl [1,0,1,0,0] DS) st k) n (FG a0 (ByteArray.size a0:Int) (0:Int)) (KT n (aC zZ [.ro] [false] true [.tmp 2] [4] [.d .str a0] k)))) (by kernel_rfl) ?_
 simp only [KS,KU,KV]
theorem KW (a0:BA) (hg:iH a0=true):∃aJ rounds,∀ {R:Type} (k:Kt R),aM zZ aJ rounds DS [.ro] [false] true [.tmp 2] [4] [.d .str a0] k=k [.d .bool (dU a0)]:=by
 have hl:a0.size≤9223372036854775807:=gw hg
 refine ⟨Hz,a0.size+1,fun {R} k=> ?_⟩
 rw [Q5]
 refine Eq.trans (iG (n:=a0.size) (F:=fun m i=>vP (a0.size+1) _ _ a0 (a0.size:Int) m i) (p:=fun j=>gZ (ko a0 j) 32 126) (good:=_) (bad:=k [.d .bool false])
  (fun m j hj=> ?_) (fun m=>by simp only [vP,gG,cond_false];rfl) a0.size 0 (a0.size+1) (by omega) (by omega)) ?_
 ·obtain ⟨h1,h0,hw,ht⟩:=idx hj (by omega)
  have hc:0≤ko a0 j∧ko a0 j<256:=by
   unfold ko
   have:=UInt8.toNat_lt (a0.data.getD j 0)
   omega
  simp only [vP,h1,h0,hw,ht,Bool.and_self,cond_true]
  change 0≤(((ByteArray.data a0).getD j 0).toNat:Int)∧(((ByteArray.data a0).getD j 0).toNat:Int)<256 at hc
  show _=cond (gZ (((ByteArray.data a0).getD j 0).toNat:Int) 32 126) _ _
  generalize (((ByteArray.data a0).getD j 0).toNat:Int)=c at *
  rw [cu (by omega) (by omega)]
  cases gZ c 32 126<;>rfl
 ·unfold dU
  cases oY (fun j=>gZ (ko a0 j) 32 126) 0 a0.size<;>rfl
noncomputable def q81:Qt
 | [.d .str a0]=>some ((iH a0),[.d .bool (dU a0)])
 | _=>none
noncomputable def Z3:Gm.Spec:=Gm.Spec.of [.ro] [false] true q81
theorem KX:Gm.Good Tryd.prog (81,Z3):=by
 have hl:∀x∈[(66,QY)],Gm.Good Tryd.prog x:=bJ.2 ⟨zW,im⟩
 refine ⟨⟨aK (aV.env hl) (b9.cF hl) Tryd.func81 (by kernel_rfl:Tryd.f81.body=some DS) [4] (by kernel_rfl) ?_,_,Tryd.func81,by kernel_rfl,of_decide_eq_true (by kernel_rfl)⟩,Gm.Spec.aB _ _ _ _⟩
 intro ds outs h
 unfold q81 at h
 split at h
 ·simp only [Option.some.injEq,Prod.mk.injEq] at h;obtain ⟨hg,h⟩:=h;cases h;exact KW _ hg
 ·cases h
noncomputable def V8:Code:=(Tryd.f88.body).getD .skip
def Z4:Nat→Kp:=fT [⟨[0],[],[],[]⟩,⟨[3],[],[],[]⟩,⟨[2],[],[],[]⟩,⟨[2],[],[],[]⟩]
noncomputable def Z5:Env:=b9.env []
theorem Q6 {R:Type} (n:Nat) (k:Kt R) (a0:Bool):aM Z5 Z4 n V8 [.ro] [false] true [.tmp 2] [3] [.d .bool a0] k=
 (cond a0
 (k [.d (.i .i64) (1:Int)])
 (k [.d (.i .i64) (0:Int)])):=by kernel_rfl
theorem KY (a0:Bool):∃aJ rounds,∀ {R:Type} (k:Kt R),aM Z5 aJ rounds V8 [.ro] [false] true [.tmp 2] [3] [.d .bool a0] k=k [.d (.i .i64) (o3 a0)]:=by
 refine ⟨Z4,0,fun k=> ?_⟩
 rw [Q6];unfold o3;cases a0<;>rfl
noncomputable def q88:Qt
 | [.d .bool a0]=>some (true,[.d (.i .i64) (o3 a0)])
 | _=>none
noncomputable def Z6:Gm.Spec:=Gm.Spec.of [.ro] [false] true q88
theorem KZ:Gm.Good Tryd.prog (88,Z6):=by
 have hl:∀x∈([]:List (Nat×Gm.Spec)),Gm.Good Tryd.prog x:=fun _ h=>by cases h
 refine ⟨⟨aK (aV.env hl) (b9.cF hl) Tryd.func88 (by kernel_rfl:Tryd.f88.body=some V8) [3] (by kernel_rfl) ?_,_,Tryd.func88,by kernel_rfl,of_decide_eq_true (by kernel_rfl)⟩,Gm.Spec.aB _ _ _ _⟩
 intro ds outs h
 unfold q88 at h
 split at h
 ·cases h;exact KY _
 ·cases h
noncomputable def Ca (y0:List BA) (y1:Int):St:=⟨[(0,.c (.one (.ro .str y0))),(3,.c (.one (.v (.int .i64 y1))))],[],[]⟩
noncomputable def FH:St:=⟨[(2,.c (.one (.v (.bool false))))],[],[]⟩
noncomputable def K0 (y0:List BA) (y1:Int) (y2:Bool):St:=⟨[(0,.c (.one (.ro .str y0))),(3,.c (.one (.v (.int .i64 y1)))),(7,.c (.one (.v (.bool y2))))],[],[]⟩
noncomputable def DT:Code:=(Tryd.f87.body).getD .skip
def HA:Nat→Kp:=fT [⟨[0],[],[],[]⟩,⟨[0,3],[],[],[]⟩,⟨[0,3,7],[],[],[]⟩,⟨[0,3],[],[],[]⟩,⟨[0,3,31],[],[],[]⟩,⟨[2],[],[],[]⟩,⟨[2],[],[],[]⟩]
noncomputable def z6:Env:=b9.env [(107,V7)]
noncomputable def sK {R:Type} (n:Nat) (x0:Option R) (x1:Int→Bool→Option R) (wA:List BA):Nat→Int→Option R
  | 0,_=>none
  | m+1,wB=>
    (cond (decide (wB<(wA.length:Int)))
   (cond ((decide ((0:Int)≤wB))&&(decide (wB<(wA.length:Int))))
    (cond (iH (ar (t:= .str) wA (Int.toNat wB)))
     (cond (!(dU (ar (t:= .str) wA (Int.toNat wB))))
      (x0)
      (cond (decide (wB>(0:Int)))
       (cond ((decide ((0:Int)≤(IntKind.wrap .i64 (wB-(1:Int)))))&&(decide ((IntKind.wrap .i64 (wB-(1:Int)))<(wA.length:Int))))
        (cond ((decide ((0:Int)≤wB))&&(decide (wB<(wA.length:Int))))
         (cond (!(lq (ar (t:= .str) wA (Int.toNat (IntKind.wrap .i64 (wB-(1:Int))))) (ar (t:= .str) wA (Int.toNat wB))))
          (x0)
          (sK n x0 x1 wA m (IntKind.wrap .i64 (wB+(1:Int)))))
         none)
        none)
       (sK n x0 x1 wA m (IntKind.wrap .i64 (wB+(1:Int))))))
     none)
    none)
   (x1 wB (decide (wB<(wA.length:Int)))))
theorem Q7 {R:Type} (n:Nat) (k':Kx R) (wA:List BA) (wB:Int):ev z6 HA n (bl [1,0,1,0,0] DT) (Ca wA wB) k'=
 (cond (decide (wB<(wA.length:Int)))
 (cond ((decide ((0:Int)≤wB))&&(decide (wB<(wA.length:Int))))
 (cond (iH (ar (t:= .str) wA (Int.toNat wB)))
 (cond (!(dU (ar (t:= .str) wA (Int.toNat wB))))
 (k' .ret FH)
 (cond (decide (wB>(0:Int)))
 (cond ((decide ((0:Int)≤(IntKind.wrap .i64 (wB-(1:Int)))))&&(decide ((IntKind.wrap .i64 (wB-(1:Int)))<(wA.length:Int))))
 (cond ((decide ((0:Int)≤wB))&&(decide (wB<(wA.length:Int))))
 (cond (!(lq (ar (t:= .str) wA (Int.toNat (IntKind.wrap .i64 (wB-(1:Int))))) (ar (t:= .str) wA (Int.toNat wB))))
 (k' .ret FH)
 (k' .normal (Ca wA (IntKind.wrap .i64 (wB+(1:Int))))))
 none)
 none)
 (k' .normal (Ca wA (IntKind.wrap .i64 (wB+(1:Int)))))))
 none)
 none)
 (k' (.exit 0) (K0 wA wB (decide (wB<(wA.length:Int)))))):=by kernel_rfl
theorem K1 {R:Type} (n:Nat) (k':Kx R) (wA:List BA):∀(m:Nat) (wB:Int),iter (fun st k=>ev z6 HA n (bl [1,0,1,0,0] DT) st k) m (Ca wA wB) k'=sK n (k' .ret FH) (fun (wF:Int) (wE:Bool)=>k' (.exit 0) (K0 wA wF wE)) wA m wB:=by
 intro m;induction m with
 | zero=>intros;rfl
 | succ m ih=>
  intro wB
  simp only [iter]
  rw [Q7]
  simp only [ih,sK]
noncomputable def K2 {R:Type} (n:Nat) (k':Kx R):Kx R:=(bZ 0 (dS z6 HA n (bl [1,1] DT) k'))
theorem K3 {R:Type} (n:Nat) (k:Kt R) (a0:List BA):K2 n (aC z6 [.ro] [false] true [.tmp 2] [4] [.d (.sl .str) a0] k) .ret FH=
 (k [.d .bool false]):=by kernel_rfl
theorem K4 {R:Type} (n:Nat) (k:Kt R) (a0:List BA) (wA:List BA) (wF:Int) (wE:Bool):K2 n (aC z6 [.ro] [false] true [.tmp 2] [4] [.d (.sl .str) a0] k) (.exit 0) (K0 wA wF wE)=
 (k [.d .bool true]):=by kernel_rfl
theorem Q8 {R:Type} (n:Nat) (k:Kt R) (a0:List BA):aM z6 HA n DT [.ro] [false] true [.tmp 2] [4] [.d (.sl .str) a0] k=
 (sK n (k [.d .bool false]) (fun (wF:Int) (wE:Bool)=>
 (k [.d .bool true])) a0 n (0:Int)):=by
 refine Eq.trans (b:=(iter (fun st k=>ev z6 HA n (bl [1,0,1,0,0] DT) st k) n (Ca a0 (0:Int)) (K2 n (aC z6 [.ro] [false] true [.tmp 2] [4] [.d (.sl .str) a0] k)))) (by kernel_rfl) ?_
 simp only [K1,K3,K4]
theorem K5 (a0:List BA) (hg:jc a0=true):∃aJ rounds,∀ {R:Type} (k:Kt R),aM z6 aJ rounds DT [.ro] [false] true [.tmp 2] [4] [.d (.sl .str) a0] k=k [.d .bool (dK a0)]:=by
 simp only [jc,VA,Bool.and_eq_true] at hg
 obtain ⟨hl,hs⟩:=hg
 have hl:a0.length≤9223372036854775807:=gw hl
 refine ⟨HA,a0.length+1,fun {R} k=> ?_⟩
 rw [Q8]
 refine Eq.trans (iG (n:=a0.length) (F:=fun m i=>sK (a0.length+1) _ _ a0 m i) (p:=rH a0) (good:=k [.d .bool true]) (bad:=k [.d .bool false])
  (fun m j hj=> ?_) (fun m=>by simp only [sK,gG,cond_false]) a0.length 0 (a0.length+1) (by omega) (by omega)) ?_
 ·obtain ⟨h1,h0,hw,ht⟩:=idx hj (by omega)
  simp only [sK,h1,h0,hw,ht,va hs hj,Bool.and_self,cond_true]
  unfold rH
  cases dU (ar (t:= .str) a0 j)
  ·rfl
  ·by_cases hz:(j:Int)>0
   ·obtain ⟨h2,h3,_,h5⟩:=idx (show j-1<a0.length by omega) (by omega)
    simp only [hz,decide_true,cond_true,VE hj (by omega) (by omega),h2,h3,h5,Bool.and_self]
    cases lq (ar (t:= .str) a0 (j-1)) (ar (t:= .str) a0 j)<;>rfl
   ·simp only [hz,decide_false,cond_false];rfl
 ·unfold dK
  cases oY (rH a0) 0 a0.length<;>rfl
noncomputable def q87:Qt
 | [.d (.sl .str) a0]=>some ((jc a0),[.d .bool (dK a0)])
 | _=>none
noncomputable def s87:Gm.Spec:=Gm.Spec.of [.ro] [false] true q87
theorem V9:Gm.Good Tryd.prog (87,s87):=by
 have hl:∀x∈[(107,V7)],Gm.Good Tryd.prog x:=bJ.2 ⟨QZ,im⟩
 refine ⟨⟨aK (aV.env hl) (b9.cF hl) Tryd.func87 (by kernel_rfl:Tryd.f87.body=some DT) [4] (by kernel_rfl) ?_,_,Tryd.func87,by kernel_rfl,of_decide_eq_true (by kernel_rfl)⟩,Gm.Spec.aB _ _ _ _⟩
 intro ds outs h
 unfold q87 at h
 split at h
 ·simp only [Option.some.injEq,Prod.mk.injEq] at h;obtain ⟨hg,h⟩:=h;cases h;exact K5 _ hg
 ·cases h
noncomputable def FI (y0:List BA) (y1:BA) (y2:Int) (y3:Int):St:=⟨[(0,.c (.one (.ro .str y0))),(1,.c (.one (.v (.string y1)))),(7,.c (.one (.v (.int .i64 y2)))),(8,.c (.one (.v (.int .i64 y3))))],[],[]⟩
noncomputable def K6 (y0:Int):St:=⟨[(4,.c (.one (.v (.int .i64 y0))))],[],[]⟩
noncomputable def K7 (y0:List BA) (y1:BA) (y2:Int) (y3:Int) (y4:Bool):St:=⟨[(0,.c (.one (.ro .str y0))),(1,.c (.one (.v (.string y1)))),(7,.c (.one (.v (.int .i64 y2)))),(8,.c (.one (.v (.int .i64 y3)))),(9,.c (.one (.v (.bool y4))))],[],[]⟩
noncomputable def DU:Code:=(Tryd.f91.body).getD .skip
def HB:Nat→Kp:=fT [⟨[0,1],[],[],[]⟩,⟨[0,1,7,8],[],[],[]⟩,⟨[0,1,7,8,9],[],[],[]⟩,⟨[0,1,5,7,8],[],[],[]⟩,⟨[0,1,5,7,8,16],[],[],[]⟩,⟨[4],[],[],[]⟩,⟨[0,1,7,8],[],[],[]⟩,⟨[4],[],[],[]⟩]
noncomputable def z7:Env:=b9.env []
noncomputable def vQ {R:Type} (n:Nat) (x0:Int→Option R) (x1:Int→Bool→Option R) (wB:List BA) (wA:BA) (wM:Int):Nat→Int→Option R
  | 0,_=>none
  | m+1,wJ=>
    (cond (decide (wJ<wM))
   (cond ((decide ((0:Int)≤wJ))&&(decide (wJ<(wB.length:Int))))
    (cond (eC wA (ar (t:= .str) wB (Int.toNat wJ)))
     (x0 wJ)
     (vQ n x0 x1 wB wA wM m (IntKind.wrap .i64 (wJ+(1:Int)))))
    none)
   (x1 wJ (decide (wJ<wM))))
theorem Q9 {R:Type} (n:Nat) (k':Kx R) (wB:List BA) (wA:BA) (wM:Int) (wJ:Int):ev z7 HB n (bl [1,0,1,0,0] DU) (FI wB wA wM wJ) k'=
 (cond (decide (wJ<wM))
 (cond ((decide ((0:Int)≤wJ))&&(decide (wJ<(wB.length:Int))))
 (cond (eC wA (ar (t:= .str) wB (Int.toNat wJ)))
 (k' .ret (K6 wJ))
 (k' .normal (FI wB wA wM (IntKind.wrap .i64 (wJ+(1:Int))))))
 none)
 (k' (.exit 0) (K7 wB wA wM wJ (decide (wJ<wM))))):=by kernel_rfl
theorem K8 {R:Type} (n:Nat) (k':Kx R) (wB:List BA) (wA:BA) (wM:Int):∀(m:Nat) (wJ:Int),iter (fun st k=>ev z7 HB n (bl [1,0,1,0,0] DU) st k) m (FI wB wA wM wJ) k'=vQ n (fun (wF:Int)=>k' .ret (K6 wF)) (fun (wP:Int) (wQ:Bool)=>k' (.exit 0) (K7 wB wA wM wP wQ)) wB wA wM m wJ:=by
 intro m;induction m with
 | zero=>intros;rfl
 | succ m ih=>
  intro wJ
  simp only [iter]
  rw [Q9]
  simp only [ih,vQ]
noncomputable def K9 {R:Type} (n:Nat) (k':Kx R):Kx R:=(bZ 0 (dS z7 HB n (bl [1,1] DU) k'))
theorem K' {R:Type} (n:Nat) (k:Kt R) (a0:List BA) (a1:BA) (wF:Int):K9 n (aC z7 [.ro,.ro] [false] true [.tmp 4] [3] [.d (.sl .str) a0,.d .str a1] k) .ret (K6 wF)=
 (k [.d (.i .i64) wF]):=by kernel_rfl
theorem La {R:Type} (n:Nat) (k:Kt R) (a0:List BA) (a1:BA) (wB:List BA) (wA:BA) (wM:Int) (wP:Int) (wQ:Bool):K9 n (aC z7 [.ro,.ro] [false] true [.tmp 4] [3] [.d (.sl .str) a0,.d .str a1] k) (.exit 0) (K7 wB wA wM wP wQ)=
 (k [.d (.i .i64) (-1:Int)]):=by kernel_rfl
theorem Q' {R:Type} (n:Nat) (k:Kt R) (a0:List BA) (a1:BA):aM z7 HB n DU [.ro,.ro] [false] true [.tmp 4] [3] [.d (.sl .str) a0,.d .str a1] k=
 (vQ n (fun (wF:Int)=>
 (k [.d (.i .i64) wF])) (fun (wP:Int) (wQ:Bool)=>
 (k [.d (.i .i64) (-1:Int)])) a0 a1 (a0.length:Int) n (0:Int)):=by
 refine Eq.trans (b:=(iter (fun st k=>ev z7 HB n (bl [1,0,1,0,0] DU) st k) n (FI a0 a1 (a0.length:Int) (0:Int)) (K9 n (aC z7 [.ro,.ro] [false] true [.tmp 4] [3] [.d (.sl .str) a0,.d .str a1] k)))) (by kernel_rfl) ?_
 simp only [K8,K',La]
theorem Lb (a0:List BA) (a1:BA) (hg:fW a0=true):∃aJ rounds,∀ {R:Type} (k:Kt R),aM z7 aJ rounds DU [.ro,.ro] [false] true [.tmp 4] [3] [.d (.sl .str) a0,.d .str a1] k=k [.d (.i .i64) (s5 a0 a1)]:=by
 have hl:=vh hg
 refine ⟨HB,a0.length+1,fun k=> ?_⟩
 rw [Q']
 refine Eq.trans (gi (n:=a0.length) (F:=fun m i=>vQ (a0.length+1) _ _ a0 a1 (a0.length:Int) m i) (p:=fun j=>eC a1 (ar (t:= .str) a0 j)) (hit:=fun i=>k [.d (.i .i64) i]) (miss:=k [.d (.i .i64) (-1:Int)])
  (fun m j hj=> ?_) (fun m=>by simp only [vQ,gG,cond_false]) a0.length 0 (a0.length+1) (by omega) (by omega)) ?_
 ·obtain ⟨h1,h0,hw,ht⟩:=idx hj (by omega)
  simp only [vQ,h1,h0,hw,ht,Bool.and_self,cond_true]
 ·show _=k [.d (.i .i64) (zE _)]
  cases cC (fun j=>eC a1 (ar (t:= .str) a0 j)) 0 a0.length<;>rfl
noncomputable def q91:Qt
 | [.d (.sl .str) a0,.d .str a1]=>some (((fun (x:List BA) (_:BA)=>fW x) a0 a1),[.d (.i .i64) (s5 a0 a1)])
 | _=>none
noncomputable def Z7:Gm.Spec:=Gm.Spec.of [.ro,.ro] [false] true q91
theorem Lc:Gm.Good Tryd.prog (91,Z7):=by
 have hl:∀x∈([]:List (Nat×Gm.Spec)),Gm.Good Tryd.prog x:=fun _ h=>by cases h
 refine ⟨⟨aK (aV.env hl) (b9.cF hl) Tryd.func91 (by kernel_rfl:Tryd.f91.body=some DU) [3] (by kernel_rfl) ?_,_,Tryd.func91,by kernel_rfl,of_decide_eq_true (by kernel_rfl)⟩,Gm.Spec.aB _ _ _ _⟩
 intro ds outs h
 unfold q91 at h
 split at h
 ·simp only [Option.some.injEq,Prod.mk.injEq] at h;obtain ⟨hg,h⟩:=h;cases h;exact Lb _ _ hg
 ·cases h
noncomputable def V':Code:=(Tryd.f70.body).getD .skip
def Z8:Nat→Kp:=fT [⟨[0,1],[],[],[]⟩,⟨[4],[],[],[]⟩]
noncomputable def Z9:Env:=b9.env [(91,Z7)]
theorem Ra {R:Type} (n:Nat) (k:Kt R) (a0:List BA) (a1:BA):aM Z9 Z8 n V' [.ro,.ro] [false] true [.tmp 4] [4] [.d (.sl .str) a0,.d .str a1] k=
 (cond ((fun (x:List BA) (_:BA)=>fW x) a0 a1)
 (k [.d .bool (decide ((s5 a0 a1)≥(0:Int)))])
 none):=by kernel_rfl
theorem Ld (a0:List BA) (a1:BA) (hg:fW a0=true):∃aJ rounds,∀ {R:Type} (k:Kt R),aM Z9 aJ rounds V' [.ro,.ro] [false] true [.tmp 4] [4] [.d (.sl .str) a0,.d .str a1] k=k [.d .bool (rG a0 a1)]:=by
 refine ⟨Z8,0,fun k=> ?_⟩
 rw [Ra];simp only [hg,cond_true,Hf]
noncomputable def q70:Qt
 | [.d (.sl .str) a0,.d .str a1]=>some (((fun (x:List BA) (_:BA)=>fW x) a0 a1),[.d .bool (rG a0 a1)])
 | _=>none
noncomputable def s70:Gm.Spec:=Gm.Spec.of [.ro,.ro] [false] true q70
theorem Wa:Gm.Good Tryd.prog (70,s70):=by
 have hl:∀x∈[(91,Z7)],Gm.Good Tryd.prog x:=bJ.2 ⟨Lc,im⟩
 refine ⟨⟨aK (aV.env hl) (b9.cF hl) Tryd.func70 (by kernel_rfl:Tryd.f70.body=some V') [4] (by kernel_rfl) ?_,_,Tryd.func70,by kernel_rfl,of_decide_eq_true (by kernel_rfl)⟩,Gm.Spec.aB _ _ _ _⟩
 intro ds outs h
 unfold q70 at h
 split at h
 ·simp only [Option.some.injEq,Prod.mk.injEq] at h;obtain ⟨hg,h⟩:=h;cases h;exact Ld _ _ hg
 ·cases h
noncomputable def Cb (y0:Int) (y1:Bool) (y2:BA):St:=⟨[(0,.c (.one (.v (.int .i64 y0)))),(3,.c (.one (.v (.bool y1)))),(4,.c (.one (.v (.string y2))))],[],[]⟩
noncomputable def Le (y0:Int) (y1:Bool) (y2:BA) (y3:Bool):St:=⟨[(0,.c (.one (.v (.int .i64 y0)))),(3,.c (.one (.v (.bool y1)))),(4,.c (.one (.v (.string y2)))),(11,.c (.one (.v (.bool y3))))],[],[]⟩
noncomputable def DV:Code:=(Tryd.f64.body).getD .skip
def HC:Nat→Kp:=fT [⟨[0],[],[],[]⟩,⟨[0,7],[],[],[]⟩,⟨[2],[],[],[]⟩,⟨[0,3],[],[],[]⟩,⟨[0,3,4],[],[],[]⟩,⟨[0,3,4,11],[],[],[]⟩,⟨[0,3,4,5],[],[],[]⟩,⟨[0,3,4,5,15],[],[],[]⟩,⟨[0,3,4,5],[],[],[]⟩,⟨[0,3,4],[],[],[]⟩,⟨[0,3,4],[],[],[]⟩,⟨[4,27],[],[],[]⟩,⟨[2],[],[],[]⟩,⟨[2],[],[],[]⟩]
noncomputable def Cc:Env:=b9.env []
noncomputable def qN {R:Type} (n:Nat) (x0:Int→BA→Bool→Option R) (wN:Bool):Nat→Int→BA→Option R
  | 0,_,_=>none
  | m+1,wB,wL=>
    (cond (wB !=(0:Int))
   (cond (decide ((Int.tmod wB (10:Int))<(0:Int)))
    (cond (decide (ByteArray.size (bytesOf ([(IntKind.wrap .u8 (IntKind.wrap .i64 ((48:Int)+(IntKind.wrap .i64 ((0:Int)-(Int.tmod wB (10:Int)))))))]:List Int))+ByteArray.size wL≤9223372036854775807))
     (qN n x0 wN m (IntKind.wrap .i64 (Int.tdiv wB (10:Int))) ((bytesOf ([(IntKind.wrap .u8 (IntKind.wrap .i64 ((48:Int)+(IntKind.wrap .i64 ((0:Int)-(Int.tmod wB (10:Int)))))))]:List Int))++wL))
     none)
    (cond (decide (ByteArray.size (bytesOf ([(IntKind.wrap .u8 (IntKind.wrap .i64 ((48:Int)+(Int.tmod wB (10:Int)))))]:List Int))+ByteArray.size wL≤9223372036854775807))
     (qN n x0 wN m (IntKind.wrap .i64 (Int.tdiv wB (10:Int))) ((bytesOf ([(IntKind.wrap .u8 (IntKind.wrap .i64 ((48:Int)+(Int.tmod wB (10:Int)))))]:List Int))++wL))
     none))
   (x0 wB wL (wB !=(0:Int))))
theorem Rb {R:Type} (n:Nat) (k':Kx R) (wB:Int) (wN:Bool) (wL:BA):ev Cc HC n (bl [1,1,1,1,0,0,0] DV) (Cb wB wN wL) k'=
 (cond (wB !=(0:Int))
 (cond (decide ((Int.tmod wB (10:Int))<(0:Int)))
 (cond (decide (ByteArray.size (bytesOf ([(IntKind.wrap .u8 (IntKind.wrap .i64 ((48:Int)+(IntKind.wrap .i64 ((0:Int)-(Int.tmod wB (10:Int)))))))]:List Int))+ByteArray.size wL≤9223372036854775807))
 (k' .normal (Cb (IntKind.wrap .i64 (Int.tdiv wB (10:Int))) wN ((bytesOf ([(IntKind.wrap .u8 (IntKind.wrap .i64 ((48:Int)+(IntKind.wrap .i64 ((0:Int)-(Int.tmod wB (10:Int)))))))]:List Int))++wL)))
 none)
 (cond (decide (ByteArray.size (bytesOf ([(IntKind.wrap .u8 (IntKind.wrap .i64 ((48:Int)+(Int.tmod wB (10:Int)))))]:List Int))+ByteArray.size wL≤9223372036854775807))
 (k' .normal (Cb (IntKind.wrap .i64 (Int.tdiv wB (10:Int))) wN ((bytesOf ([(IntKind.wrap .u8 (IntKind.wrap .i64 ((48:Int)+(Int.tmod wB (10:Int)))))]:List Int))++wL)))
 none))
 (k' (.exit 0) (Le wB wN wL (wB !=(0:Int))))):=by kernel_rfl
theorem Lf {R:Type} (n:Nat) (k':Kx R) (wN:Bool):∀(m:Nat) (wB:Int) (wL:BA),iter (fun st k=>ev Cc HC n (bl [1,1,1,1,0,0,0] DV) st k) m (Cb wB wN wL) k'=qN n (fun (wR:Int) (wF:BA) (wS:Bool)=>k' (.exit 0) (Le wR wN wF wS)) wN m wB wL:=by
 intro m;induction m with
 | zero=>intros;rfl
 | succ m ih=>
  intro wB wL
  simp only [iter]
  rw [Rb]
  simp only [ih,qN]
noncomputable def T6 {R:Type} (n:Nat) (k':Kx R):Kx R:=(bZ 0 (dS Cc HC n (bl [1,1,1,1,1] DV) k'))
theorem Lg {R:Type} (n:Nat) (k:Kt R) (a0:Int) (wN:Bool) (wR:Int) (wF:BA) (wS:Bool):T6 n (aC Cc [.ro] [false] true [.tmp 2] [9] [.d (.i .i64) a0] k) (.exit 0) (Le wR wN wF wS)=
 (cond wN
 (cond (decide (ByteArray.size (bs [45])+ByteArray.size wF≤9223372036854775807))
 (k [.d .str ((bs [45])++wF)])
 none)
 (k [.d .str wF])):=by kernel_rfl
theorem Rd {R:Type} (n:Nat) (k:Kt R) (a0:Int):aM Cc HC n DV [.ro] [false] true [.tmp 2] [9] [.d (.i .i64) a0] k=
 (cond (a0==(0:Int))
 (k [.d .str (bs [48])])
 (qN n (fun (wR:Int) (wF:BA) (wS:Bool)=>
 (cond (decide (a0<(0:Int)))
 (cond (decide (ByteArray.size (bs [45])+ByteArray.size wF≤9223372036854775807))
 (k [.d .str ((bs [45])++wF)])
 none)
 (k [.d .str wF]))) (decide (a0<(0:Int))) n a0 ByteArray.empty)):=by
 refine Eq.trans (b:=(cond (a0==(0:Int))
 (k [.d .str (bs [48])])
 (iter (fun st k=>ev Cc HC n (bl [1,1,1,1,0,0,0] DV) st k) n (Cb a0 (decide (a0<(0:Int))) ByteArray.empty) (T6 n (aC Cc [.ro] [false] true [.tmp 2] [9] [.d (.i .i64) a0] k))))) (by kernel_rfl) ?_
 simp only [Lf,Lg]
theorem Lh (a0:Int) (hg:gL a0=true):∃aJ rounds,∀ {R:Type} (k:Kt R),aM Cc aJ rounds DV [.ro] [false] true [.tmp 2] [9] [.d (.i .i64) a0] k=k [.d .str (cj a0)]:=by
 have pg:=hg
 rw [kR] at hg
 refine ⟨HC,25,fun {R} k=> ?_⟩
 rw [Rd]
 by_cases hz:a0=0
 ·subst hz
  have e:cj 0=bs [48]:=by rw [show (0:Int)=((0:Nat):Int) from rfl,kr,jb (by omega)];rfl
  rw [e];rfl
 have hz':(a0==(0:Int))=false:=by rw [beq_eq_false_iff_ne];exact hz
 rw [hz',cond_false]
 have key:∀(d m:Nat) (n:Int) (out:BA),n.natAbs<10^d→d≤20→d<m→(n≤9223372036854775807∧ -9223372036854775808≤n)→out.size+d≤100→∀X:Int→BA→Bool→Option R,(∀ o b,X 0 o b=X 0 o false)→
   qN 25 X (decide (a0<(0:Int))) m n out=X 0 (He n.natAbs out) false:=by
  intro d
  induction d with
  | zero=>
   intro m n out hn hd hm hw hs X hX
   obtain ⟨m,rfl⟩:∃m',m=m'+1:=⟨m-1,by omega⟩
   have:n=0:=by omega
   subst this
   simp only [qN]
   rfl
  | succ d ih=>
   intro m n out hn hd hm hw hs X hX
   obtain ⟨m,rfl⟩:∃m',m=m'+1:=⟨m-1,by omega⟩
   by_cases h0:n=0
   ·subst h0
    simp only [qN]
    rfl
   have h0':(n !=(0:Int))=true:=by rw [bne_iff_ne];exact h0
   have EE:n.natAbs/10<10^d:=by rw [Nat.pow_succ] at hn;omega
   have hb:=J2 (n.natAbs%10) (by omega)
   have ff:ByteArray.size ⟨#[UInt8.ofNat (48+n.natAbs%10)]⟩=1:=rfl
   simp only [qN,h0',cond_true]
   by_cases h1:n<0
   ·have t1:IntKind.wrap .i64 (Int.tdiv n 10) = -((n.natAbs/10:Nat):Int):=by rw [tdiv_neg h1];exact cu (by omega) (by omega)
    have t2:Int.tmod n 10 = -((n.natAbs%10:Nat):Int):=tmod_neg h1
    have e1:IntKind.wrap .i64 ((0:Int) - -((n.natAbs%10:Nat):Int))=((n.natAbs%10:Nat):Int):=by rw [cu (by omega) (by omega)];omega
    rw [t1,t2,e1,hb]
    have fin:=ih m (-((n.natAbs/10:Nat):Int)) (⟨#[UInt8.ofNat (48+n.natAbs%10)]⟩++out) (by omega) (by omega) (by omega) (by omega) (by rw [ByteArray.size_append];omega) X hX
    rw [show (-((n.natAbs/10:Nat):Int)).natAbs=n.natAbs/10 by omega,yb (by omega)] at fin
    rw [← fin]
    have hle:=rF (a:=⟨#[UInt8.ofNat (48+n.natAbs%10)]⟩) (b:=out) (by omega)
    by_cases h2 : -((n.natAbs%10:Nat):Int)<0
    ·simp only [h2,decide_true,cond_true,hle]
    ·have h3:n.natAbs%10=0:=by omega
     simp only [h2,decide_false,cond_false]
     have hb0:bytesOf [IntKind.wrap .u8 (IntKind.wrap .i64 ((48:Int) + -((n.natAbs%10:Nat):Int)))]=⟨#[UInt8.ofNat (48+n.natAbs%10)]⟩:=by rw [h3];rfl
     rw [hb0,hle,cond_true]
   ·have t1:IntKind.wrap .i64 (Int.tdiv n 10)=((n.natAbs/10:Nat):Int):=by rw [nU (by omega)];exact cu (by omega) (by omega)
    have t2:Int.tmod n 10=((n.natAbs%10:Nat):Int):=By (by omega)
    rw [t1,t2,hb]
    have fin:=ih m (((n.natAbs/10:Nat):Int)) (⟨#[UInt8.ofNat (48+n.natAbs%10)]⟩++out) (by omega) (by omega) (by omega) (by omega) (by rw [ByteArray.size_append];omega) X hX
    rw [show (((n.natAbs/10:Nat):Int)).natAbs=n.natAbs/10 by omega,yb (by omega)] at fin
    rw [← fin]
    have hle:=rF (a:=⟨#[UInt8.ofNat (48+n.natAbs%10)]⟩) (b:=out) (by omega)
    have h2 : ¬((n.natAbs%10:Nat):Int)<0:=by omega
    simp only [h2,decide_false,cond_false,cond_true,hle]
 refine Eq.trans (key 20 25 a0 ByteArray.empty (by have:(10:Nat)^20=100000000000000000000:=rfl;omega) (by omega) (by omega) (by omega) (by show 0+20≤100;omega) _ (fun _ _=>rfl)) ?_
 have e:He a0.natAbs ByteArray.empty=⟨(fV a0.natAbs).toArray⟩:=by
  unfold He;rw [if_neg (by omega)];apply rE;simp
 rw [e]
 by_cases h1:a0<0
 ·have hs:=ib pg
  have ed:cj a0=bs [45]++⟨(fV a0.natAbs).toArray⟩:=by
   unfold cj;rw [if_pos h1];apply rE;rw [vg];simp [bs]
  have sR:(bs [45]).size+ByteArray.size ⟨(fV a0.natAbs).toArray⟩≤9223372036854775807:=by
   rw [ed,ByteArray.size_append] at hs;omega
  simp only [h1,decide_true,cond_true,rF sR,ed]
 ·have ed:cj a0=⟨(fV a0.natAbs).toArray⟩:=by
   unfold cj;rw [if_neg h1];simp
  simp only [h1,decide_false,cond_false,ed]
noncomputable def q64:Qt
 | [.d (.i .i64) a0]=>some ((gL a0),[.d .str (cj a0)])
 | _=>none
noncomputable def Wb:Gm.Spec:=Gm.Spec.of [.ro] [false] true q64
theorem DW:Gm.Good Tryd.prog (64,Wb):=by
 have hl:∀x∈([]:List (Nat×Gm.Spec)),Gm.Good Tryd.prog x:=fun _ h=>by cases h
 refine ⟨⟨aK (aV.env hl) (b9.cF hl) Tryd.func64 (by kernel_rfl:Tryd.f64.body=some DV) [9] (by kernel_rfl) ?_,_,Tryd.func64,by kernel_rfl,of_decide_eq_true (by kernel_rfl)⟩,Gm.Spec.aB _ _ _ _⟩
 intro ds outs h
 unfold q64 at h
 split at h
 ·simp only [Option.some.injEq,Prod.mk.injEq] at h;obtain ⟨hg,h⟩:=h;cases h;exact Lh _ hg
 ·cases h
noncomputable def q68:Qt
 | [.d (.i .i64) a0]=>some ((gL a0),[.d .str (cj a0)])
 | _=>none
noncomputable def Wc:List Dt→Nat
 | [.d (.i .i64) a0]=>gH a0
 | _=>0
noncomputable def Z' (N:Nat):Gm.Spec:=Gm.Spec.of [.ro] [false] true (nS Wc N q68)
noncomputable def Wd:Code:=(Tryd.f68.body).getD .skip
def aac:Nat→Kp:=fT [⟨[0],[],[],[]⟩,⟨[0,3],[],[],[]⟩,⟨[2],[],[],[]⟩,⟨[0,14],[],[],[]⟩,⟨[2],[],[],[]⟩,⟨[0,25],[],[],[]⟩,⟨[2],[],[],[]⟩,⟨[2],[],[],[]⟩]
noncomputable def Wg (N:Nat):Env:=b9.env [(68,Z' N)]
theorem Re {R:Type} (N:Nat) (n:Nat) (k:Kt R) (a0:Int):aM (Wg N) aac n Wd [.ro] [false] true [.tmp 2] [9] [.d (.i .i64) a0] k=
 (cond (decide (a0<(0:Int)))
 (cond (decide (a0>(-10:Int)))
 (cond ((gL (IntKind.wrap .i64 (0-a0)))&&(Nat.blt (gH (IntKind.wrap .i64 (0-a0))) N))
 (cond (decide (ByteArray.size (bs [45])+ByteArray.size (cj (IntKind.wrap .i64 (0-a0)))≤9223372036854775807))
 (k [.d .str ((bs [45])++(cj (IntKind.wrap .i64 (0-a0))))])
 none)
 none)
 (cond (decide (a0<(0:Int)))
 (cond ((gL (IntKind.wrap .i64 (Int.tdiv a0 (10:Int))))&&(Nat.blt (gH (IntKind.wrap .i64 (Int.tdiv a0 (10:Int)))) N))
 (cond ((gL (IntKind.wrap .i64 (0-(Int.tmod a0 (10:Int)))))&&(Nat.blt (gH (IntKind.wrap .i64 (0-(Int.tmod a0 (10:Int))))) N))
 (cond (decide (ByteArray.size (cj (IntKind.wrap .i64 (Int.tdiv a0 (10:Int))))+ByteArray.size (cj (IntKind.wrap .i64 (0-(Int.tmod a0 (10:Int)))))≤9223372036854775807))
 (k [.d .str ((cj (IntKind.wrap .i64 (Int.tdiv a0 (10:Int))))++(cj (IntKind.wrap .i64 (0-(Int.tmod a0 (10:Int))))))])
 none)
 none)
 none)
 (cond (decide (a0<(10:Int)))
 (k [.d .str (Utf8.encode (IntKind.wrap .i32 (IntKind.wrap .i64 ((48:Int)+a0))))])
 (cond ((gL (IntKind.wrap .i64 (Int.tdiv a0 (10:Int))))&&(Nat.blt (gH (IntKind.wrap .i64 (Int.tdiv a0 (10:Int)))) N))
 (cond (decide (ByteArray.size (cj (IntKind.wrap .i64 (Int.tdiv a0 (10:Int))))+ByteArray.size (Utf8.encode (IntKind.wrap .i32 (IntKind.wrap .i64 ((48:Int)+(Int.tmod a0 (10:Int))))))≤9223372036854775807))
 (k [.d .str ((cj (IntKind.wrap .i64 (Int.tdiv a0 (10:Int))))++(Utf8.encode (IntKind.wrap .i32 (IntKind.wrap .i64 ((48:Int)+(Int.tmod a0 (10:Int)))))))])
 none)
 none))))
 (cond (decide (a0<(0:Int)))
 (cond ((gL (IntKind.wrap .i64 (Int.tdiv a0 (10:Int))))&&(Nat.blt (gH (IntKind.wrap .i64 (Int.tdiv a0 (10:Int)))) N))
 (cond ((gL (IntKind.wrap .i64 (0-(Int.tmod a0 (10:Int)))))&&(Nat.blt (gH (IntKind.wrap .i64 (0-(Int.tmod a0 (10:Int))))) N))
 (cond (decide (ByteArray.size (cj (IntKind.wrap .i64 (Int.tdiv a0 (10:Int))))+ByteArray.size (cj (IntKind.wrap .i64 (0-(Int.tmod a0 (10:Int)))))≤9223372036854775807))
 (k [.d .str ((cj (IntKind.wrap .i64 (Int.tdiv a0 (10:Int))))++(cj (IntKind.wrap .i64 (0-(Int.tmod a0 (10:Int))))))])
 none)
 none)
 none)
 (cond (decide (a0<(10:Int)))
 (k [.d .str (Utf8.encode (IntKind.wrap .i32 (IntKind.wrap .i64 ((48:Int)+a0))))])
 (cond ((gL (IntKind.wrap .i64 (Int.tdiv a0 (10:Int))))&&(Nat.blt (gH (IntKind.wrap .i64 (Int.tdiv a0 (10:Int)))) N))
 (cond (decide (ByteArray.size (cj (IntKind.wrap .i64 (Int.tdiv a0 (10:Int))))+ByteArray.size (Utf8.encode (IntKind.wrap .i32 (IntKind.wrap .i64 ((48:Int)+(Int.tmod a0 (10:Int))))))≤9223372036854775807))
 (k [.d .str ((cj (IntKind.wrap .i64 (Int.tdiv a0 (10:Int))))++(Utf8.encode (IntKind.wrap .i32 (IntKind.wrap .i64 ((48:Int)+(Int.tmod a0 (10:Int)))))))])
 none)
 none)))):=by kernel_rfl
theorem Li (N:Nat) (a0:Int) (hg:gL a0=true) (hm:Wc [.d (.i .i64) a0]=N):∃aJ rounds,∀ {R:Type} (k:Kt R),aM (Wg N) aJ rounds Wd [.ro] [false] true [.tmp 2] [9] [.d (.i .i64) a0] k=k [.d .str (cj a0)]:=by
 refine ⟨aac,0,fun k=> ?_⟩
 rw [Re]
 have hm:gH a0=N:=hm
 subst hm
 have pg:=hg
 rw [kR] at hg
 by_cases h1:a0<0
 ·by_cases h2:a0 > -10
  ·have o1:gL (IntKind.wrap .i64 (0-a0))=true:=by rw [cu (by omega) (by omega),kR];omega
   have m1:Nat.blt (gH (IntKind.wrap .i64 (0-a0))) (gH a0)=true:=by
    rw [cu (by omega) (by omega),Nat.blt_eq];unfold gH;rw [if_pos h1,if_neg (by omega)];omega
   have s1:=ib o1
   have b1:(bs [45]).size=1:=rfl
   simp only [h1,h2,o1,m1,decide_true,cond_true,Bool.and_self,rF (show (bs [45]).size+(cj (IntKind.wrap .i64 (0-a0))).size≤9223372036854775807 by omega),Bz h1 h2]
  ·have t1:IntKind.wrap .i64 (Int.tdiv a0 10)=Int.tdiv a0 10:=by rw [tdiv_neg h1];exact cu (by omega) (by omega)
   have o1:gL (Int.tdiv a0 10)=true:=by rw [tdiv_neg h1,kR];omega
   have m1:Nat.blt (gH (Int.tdiv a0 10)) (gH a0)=true:=by
    rw [tdiv_neg h1,Nat.blt_eq];unfold gH;rw [if_pos h1];split<;>omega
   have e2:IntKind.wrap .i64 (0-(Int.tmod a0 10))=((a0.natAbs%10:Nat):Int):=by
    rw [tmod_neg h1,cu (by omega) (by omega)];omega
   have o2:gL (IntKind.wrap .i64 (0-(Int.tmod a0 10)))=true:=by rw [e2,kR];omega
   have m2:Nat.blt (gH (IntKind.wrap .i64 (0-(Int.tmod a0 10)))) (gH a0)=true:=by
    rw [e2,Nat.blt_eq];unfold gH;rw [if_pos h1,if_neg (by omega)];omega
   have s1:=ib o1
   have s2:=ib o2
   simp only [h1,h2,t1,o1,m1,o2,m2,decide_true,decide_false,cond_true,cond_false,Bool.and_self,rF (show (cj (Int.tdiv a0 10)).size+(cj (IntKind.wrap .i64 (0-(Int.tmod a0 10)))).size≤9223372036854775807 by omega),Qv h2]
 ·by_cases h2:a0<10
  ·simp only [h1,h2,decide_true,decide_false,cond_true,cond_false,J1 (show 0≤a0 by omega) h2]
  ·have t1:IntKind.wrap .i64 (Int.tdiv a0 10)=Int.tdiv a0 10:=by rw [nU (by omega)];exact cu (by omega) (by omega)
   have o1:gL (Int.tdiv a0 10)=true:=by rw [nU (by omega),kR];omega
   have m1:Nat.blt (gH (Int.tdiv a0 10)) (gH a0)=true:=by
    rw [nU (by omega),Nat.blt_eq];unfold gH;rw [if_neg h1,if_neg (by omega)];omega
   have s1:=ib o1
   have s2:(Utf8.encode (IntKind.wrap .i32 (IntKind.wrap .i64 ((48:Int)+(Int.tmod a0 10))))).size≤4:=encode_size_le _
   simp only [h1,h2,t1,o1,m1,decide_true,decide_false,cond_true,cond_false,Bool.and_self,rF (show (cj (Int.tdiv a0 10)).size+(Utf8.encode (IntKind.wrap .i32 (IntKind.wrap .i64 ((48:Int)+(Int.tmod a0 10))))).size≤9223372036854775807 by omega),Qu h2]
noncomputable def s68:Gm.Spec:=Gm.Spec.of [.ro] [false] true q68
theorem Wh:Gm.Good Tryd.prog (68,s68):=by
 refine ⟨⟨fU Wc fun N hr=> ?_,_,Tryd.func68,by kernel_rfl,of_decide_eq_true (by kernel_rfl)⟩,Gm.Spec.aB _ _ _ _⟩
 have hl:∀x∈[(68,Z' N)],Gm.Good Tryd.prog x:=bJ.2 ⟨⟨⟨hr,_,Tryd.func68,by kernel_rfl,of_decide_eq_true (by kernel_rfl)⟩,Gm.Spec.aB _ _ _ _⟩,im⟩
 intro R
 refine aK (E:=Wg N) (aV.env hl) (b9.cF hl) Tryd.func68 (by kernel_rfl:Tryd.f68.body=some Wd) [9] (by kernel_rfl) ?_
 intro ds outs h
 obtain ⟨h,hm⟩:=cT h
 unfold q68 at h
 split at h
 ·simp only [Option.some.injEq,Prod.mk.injEq] at h;obtain ⟨hg,h⟩:=h;cases h;exact Li N _ hg hm
 ·cases h
noncomputable def FJ (y0:BA) (y1:Int) (y2:Int) (y3:Int) (y4:BA) (y5:List BA) (y6:List ae):St:=⟨[(1,.c (.one (.v (.string y0)))),(2,.c (.one (.pt 2 0))),(5,.c (.one (.v (.int .i64 y1))))],[(2,⟨.node,[.v (.int .i64 y2),.v (.int .i64 y3),.v (.string y4),.ro .str y5,.ro .node y6]⟩)],[]⟩
noncomputable def Lj (y0:Int):St:=⟨[(4,.c (.one (.v (.int .i64 y0))))],[],[]⟩
noncomputable def vR (y0:BA) (y1:Int) (y2:Bool) (y3:Int) (y4:Int) (y5:BA) (y6:List BA) (y7:List ae):St:=⟨[(1,.c (.one (.v (.string y0)))),(2,.c (.one (.pt 2 0))),(5,.c (.one (.v (.int .i64 y1)))),(22,.c (.one (.v (.bool y2))))],[(2,⟨.node,[.v (.int .i64 y3),.v (.int .i64 y4),.v (.string y5),.ro .str y6,.ro .node y7]⟩)],[]⟩
noncomputable def DX:Code:=(Tryd.f89.body).getD .skip
def HD:Nat→Kp:=fT [⟨[1,2],[],[],[]⟩,⟨[1,2,5],[],[],[]⟩,⟨[1,2,5,22],[],[],[]⟩,⟨[1,2,5],[],[],[]⟩,⟨[1,2,5,31],[],[],[]⟩,⟨[4],[],[],[]⟩,⟨[4],[],[],[]⟩]
noncomputable def xo:Env:=b9.env []
noncomputable def qO {R:Type} (n:Nat) (x0:Int→Option R) (x1:Int→Bool→Option R) (x2:Int→Option R) (wA:BA) (wE:Int) (wG:Int) (wH:BA) (wC:List BA) (wD:List ae):Nat→Int→Option R
  | 0,_=>none
  | m+1,wI=>
    (cond (decide (wI<(wC.length:Int)))
   (cond (decide (wI<(wD.length:Int)))
    (cond (wE==(5:Int))
     (cond ((decide ((0:Int)≤wI))&&(decide (wI<(wC.length:Int))))
      (cond (eC (ar (t:= .str) wC (Int.toNat wI)) wA)
       (x0 wI)
       (qO n x0 x1 x2 wA wE wG wH wC wD m (IntKind.wrap .i64 (wI+(1:Int)))))
      none)
     (x1 wI (wE==(5:Int))))
    (x2 wI))
   (x2 wI))
theorem Rf {R:Type} (n:Nat) (k':Kx R) (wA:BA) (wI:Int) (wE:Int) (wG:Int) (wH:BA) (wC:List BA) (wD:List ae):ev xo HD n (bl [1,0,1,0,0] DX) (FJ wA wI wE wG wH wC wD) k'=
 (cond (decide (wI<(wC.length:Int)))
 (cond (decide (wI<(wD.length:Int)))
 (cond (wE==(5:Int))
 (cond ((decide ((0:Int)≤wI))&&(decide (wI<(wC.length:Int))))
 (cond (eC (ar (t:= .str) wC (Int.toNat wI)) wA)
 (k' .ret (Lj wI))
 (k' .normal (FJ wA (IntKind.wrap .i64 (wI+(1:Int))) wE wG wH wC wD)))
 none)
 (k' (.exit 0) (vR wA wI (wE==(5:Int)) wE wG wH wC wD)))
 (k' (.exit 0) (vR wA wI false wE wG wH wC wD)))
 (k' (.exit 0) (vR wA wI false wE wG wH wC wD))):=by kernel_rfl
theorem Ll {R:Type} (n:Nat) (k':Kx R) (wA:BA) (wE:Int) (wG:Int) (wH:BA) (wC:List BA) (wD:List ae):∀(m:Nat) (wI:Int),iter (fun st k=>ev xo HD n (bl [1,0,1,0,0] DX) st k) m (FJ wA wI wE wG wH wC wD) k'=qO n (fun (wF:Int)=>k' .ret (Lj wF)) (fun (wO:Int) (wT:Bool)=>k' (.exit 0) (vR wA wO wT wE wG wH wC wD)) (fun (wO:Int)=>k' (.exit 0) (vR wA wO false wE wG wH wC wD)) wA wE wG wH wC wD m wI:=by
 intro m;induction m with
 | zero=>intros;rfl
 | succ m ih=>
  intro wI
  simp only [iter]
  rw [Rf]
  simp only [ih,qO]
noncomputable def FK {R:Type} (n:Nat) (k':Kx R):Kx R:=(bZ 0 (dS xo HD n (bl [1,1] DX) k'))
theorem Lm {R:Type} (n:Nat) (k:Kt R) (a0:ae) (a1:BA) (wF:Int):FK n (aC xo [.ro,.ro] [false] true [.tmp 4] [3] [.d .node a0,.d .str a1] k) .ret (Lj wF)=
 (k [.d (.i .i64) wF]):=by kernel_rfl
theorem Ln {R:Type} (n:Nat) (k:Kt R) (a0:ae) (a1:BA) (wA:BA) (wE:Int) (wG:Int) (wH:BA) (wC:List BA) (wD:List ae) (wO:Int) (wT:Bool):FK n (aC xo [.ro,.ro] [false] true [.tmp 4] [3] [.d .node a0,.d .str a1] k) (.exit 0) (vR wA wO wT wE wG wH wC wD)=
 (k [.d (.i .i64) (-1:Int)]):=by kernel_rfl
theorem Lo {R:Type} (n:Nat) (k:Kt R) (a0:ae) (a1:BA) (wA:BA) (wE:Int) (wG:Int) (wH:BA) (wC:List BA) (wD:List ae) (wO:Int):FK n (aC xo [.ro,.ro] [false] true [.tmp 4] [3] [.d .node a0,.d .str a1] k) (.exit 0) (vR wA wO false wE wG wH wC wD)=
 (k [.d (.i .i64) (-1:Int)]):=by kernel_rfl
theorem Rg {R:Type} (n:Nat) (k:Kt R) (a0:ae) (a1:BA):aM xo HD n DX [.ro,.ro] [false] true [.tmp 4] [3] [.d .node a0,.d .str a1] k=
 (qO n (fun (wF:Int)=>
 (k [.d (.i .i64) wF])) (fun (wO:Int) (wT:Bool)=>
 (k [.d (.i .i64) (-1:Int)])) (fun (wO:Int)=>
 (k [.d (.i .i64) (-1:Int)])) a1 (ae.kind a0) (ae.n a0) (ae.s a0) (ae.keys a0) (ae.kids a0) n (0:Int)):=by
 refine Eq.trans (b:=(iter (fun st k=>ev xo HD n (bl [1,0,1,0,0] DX) st k) n (FJ a1 (0:Int) (ae.kind a0) (ae.n a0) (ae.s a0) (ae.keys a0) (ae.kids a0)) (FK n (aC xo [.ro,.ro] [false] true [.tmp 4] [3] [.d .node a0,.d .str a1] k)))) (by kernel_rfl) ?_
 simp only [Ll,Lm,Ln,Lo]
theorem Lp (a0:ae) (a1:BA) (hg:ak a0=true):∃aJ rounds,∀ {R:Type} (k:Kt R),aM xo aJ rounds DX [.ro,.ro] [false] true [.tmp 4] [3] [.d .node a0,.d .str a1] k=k [.d (.i .i64) (dL a0 a1)]:=by
 have pg:=hg
 rw [bY] at hg
 simp only [Bool.and_eq_true] at hg
 obtain ⟨_,_,_,ng,mL⟩:=hg
 have vS:=bp ng
 have xm:=bp mL
 refine ⟨HD,a0.keys.length+1,fun {R} k=> ?_⟩
 rw [Rg]
 show _=k [.d (.i .i64) (dL a0 a1)]
 unfold dL
 cases h5:a0.kind==(5:Int)
 ·rw [qO]
  simp only [h5,cond_false]
  cases decide ((0:Int)<(a0.keys.length:Int))<;>cases decide ((0:Int)<(a0.kids.length:Int))<;>rfl
 refine Eq.trans (gi (n:=min a0.keys.length a0.kids.length) (F:=fun m i=>qO (a0.keys.length+1) _ _ _ a1 a0.kind a0.n a0.s a0.keys a0.kids m i) (p:=fun j=>eC (ar (t:= .str) a0.keys j) a1) (hit:=fun i=>k [.d (.i .i64) i]) (miss:=k [.d (.i .i64) (-1:Int)])
  (fun m j hj=> ?_) (fun m=> ?_) (min a0.keys.length a0.kids.length) 0 (a0.keys.length+1) (by omega) (by omega)) ?_
 ·obtain ⟨h1,h0,hw,ht⟩:=idx (show j<a0.keys.length by omega) (by omega)
  have h2:decide ((j:Int)<(a0.kids.length:Int))=true:=decide_eq_true (by omega)
  simp only [qO,h1,h0,h2,hw,ht,h5,Bool.and_self,cond_true]
 ·by_cases hle:a0.keys.length≤a0.kids.length
  ·rw [Nat.min_eq_left hle]
   simp only [qO,gG,cond_false]
  ·rw [Nat.min_eq_right (by omega)]
   have h2:decide ((a0.kids.length:Int)<(a0.keys.length:Int))=true:=decide_eq_true (by omega)
   simp only [qO,h2,gG,cond_false,cond_true]
 ·simp only [cond_true]
  show _=k [.d (.i .i64) (zE _)]
  cases cC (fun j=>eC (ar (t:= .str) a0.keys j) a1) 0 (min a0.keys.length a0.kids.length)<;>rfl
noncomputable def q89:Qt
 | [.d .node a0,.d .str a1]=>some (((fun (x:ae) (_:BA)=>ak x) a0 a1),[.d (.i .i64) (dL a0 a1)])
 | _=>none
noncomputable def s89:Gm.Spec:=Gm.Spec.of [.ro,.ro] [false] true q89
theorem Lq:Gm.Good Tryd.prog (89,s89):=by
 have hl:∀x∈([]:List (Nat×Gm.Spec)),Gm.Good Tryd.prog x:=fun _ h=>by cases h
 refine ⟨⟨aK (aV.env hl) (b9.cF hl) Tryd.func89 (by kernel_rfl:Tryd.f89.body=some DX) [3] (by kernel_rfl) ?_,_,Tryd.func89,by kernel_rfl,of_decide_eq_true (by kernel_rfl)⟩,Gm.Spec.aB _ _ _ _⟩
 intro ds outs h
 unfold q89 at h
 split at h
 ·simp only [Option.some.injEq,Prod.mk.injEq] at h;obtain ⟨hg,h⟩:=h;cases h;exact Lp _ _ hg
 ·cases h
noncomputable def FL (y0:BA) (y1:Int) (y2:Int) (y3:Int) (y4:BA) (y5:List BA) (y6:List ae):St:=⟨[(1,.c (.one (.v (.string y0)))),(2,.c (.one (.pt 2 0))),(6,.c (.one (.v (.int .i64 y1))))],[(2,⟨.node,[.v (.int .i64 y2),.v (.int .i64 y3),.v (.string y4),.ro .str y5,.ro .node y6]⟩)],[]⟩
noncomputable def Lr (y0:Int):St:=⟨[(4,.c (.one (.v (.int .i64 y0))))],[],[]⟩
noncomputable def Ls (y0:BA) (y1:Int) (y2:Bool) (y3:Int) (y4:Int) (y5:BA) (y6:List BA) (y7:List ae):St:=⟨[(1,.c (.one (.v (.string y0)))),(2,.c (.one (.pt 2 0))),(6,.c (.one (.v (.int .i64 y1)))),(21,.c (.one (.v (.bool y2))))],[(2,⟨.node,[.v (.int .i64 y3),.v (.int .i64 y4),.v (.string y5),.ro .str y6,.ro .node y7]⟩)],[]⟩
noncomputable def DY:Code:=(Tryd.f96.body).getD .skip
def HE:Nat→Kp:=fT [⟨[1,2],[],[],[]⟩,⟨[1,2,8],[],[],[]⟩,⟨[1,2,8,9],[],[],[]⟩,⟨[5],[],[],[]⟩,⟨[4],[],[],[]⟩,⟨[1,2,15],[],[],[]⟩,⟨[1,2,6],[],[],[]⟩,⟨[1,2,6,21],[],[],[]⟩,⟨[1,2,6],[],[],[]⟩,⟨[1,2,6,27],[],[],[]⟩,⟨[4],[],[],[]⟩,⟨[4],[],[],[]⟩]
noncomputable def z8:Env:=b9.env [(64,Wb),(89,s89)]
noncomputable def vT {R:Type} (n:Nat) (x0:Int→Option R) (x1:Int→Bool→Option R) (wA:BA) (wE:Int) (wG:Int) (wH:BA) (wC:List BA) (wD:List ae):Nat→Int→Option R
  | 0,_=>none
  | m+1,wK=>
    (cond (decide (wK<(wD.length:Int)))
   (cond (gL wK)
    (cond (eC (cj wK) wA)
     (x0 wK)
     (vT n x0 x1 wA wE wG wH wC wD m (IntKind.wrap .i64 (wK+(1:Int)))))
    none)
   (x1 wK (decide (wK<(wD.length:Int)))))
theorem Rh {R:Type} (n:Nat) (k':Kx R) (wA:BA) (wK:Int) (wE:Int) (wG:Int) (wH:BA) (wC:List BA) (wD:List ae):ev z8 HE n (bl [1,0,1,0,1,1,1,0,1,0,0] DY) (FL wA wK wE wG wH wC wD) k'=
 (cond (decide (wK<(wD.length:Int)))
 (cond (gL wK)
 (cond (eC (cj wK) wA)
 (k' .ret (Lr wK))
 (k' .normal (FL wA (IntKind.wrap .i64 (wK+(1:Int))) wE wG wH wC wD)))
 none)
 (k' (.exit 1) (Ls wA wK (decide (wK<(wD.length:Int))) wE wG wH wC wD))):=by kernel_rfl
theorem Lt {R:Type} (n:Nat) (k':Kx R) (wA:BA) (wE:Int) (wG:Int) (wH:BA) (wC:List BA) (wD:List ae):∀(m:Nat) (wK:Int),iter (fun st k=>ev z8 HE n (bl [1,0,1,0,1,1,1,0,1,0,0] DY) st k) m (FL wA wK wE wG wH wC wD) k'=vT n (fun (wF:Int)=>k' .ret (Lr wF)) (fun (wU:Int) (wV:Bool)=>k' (.exit 1) (Ls wA wU wV wE wG wH wC wD)) wA wE wG wH wC wD m wK:=by
 intro m;induction m with
 | zero=>intros;rfl
 | succ m ih=>
  intro wK
  simp only [iter]
  rw [Rh]
  simp only [ih,vT]
noncomputable def Lu {R:Type} (n:Nat) (k':Kx R):Kx R:=(bZ 1 (bZ 0 (dS z8 HE n (bl [1,1] DY) k')))
theorem Lv {R:Type} (n:Nat) (k:Kt R) (a0:ae) (a1:BA) (wF:Int):Lu n (aC z8 [.ro,.ro] [false] true [.tmp 4] [3] [.d .node a0,.d .str a1] k) .ret (Lr wF)=
 (k [.d (.i .i64) wF]):=by kernel_rfl
theorem Lw {R:Type} (n:Nat) (k:Kt R) (a0:ae) (a1:BA) (wA:BA) (wE:Int) (wG:Int) (wH:BA) (wC:List BA) (wD:List ae) (wU:Int) (wV:Bool):Lu n (aC z8 [.ro,.ro] [false] true [.tmp 4] [3] [.d .node a0,.d .str a1] k) (.exit 1) (Ls wA wU wV wE wG wH wC wD)=
 (k [.d (.i .i64) (-1:Int)]):=by kernel_rfl
theorem Ri {R:Type} (n:Nat) (k:Kt R) (a0:ae) (a1:BA):aM z8 HE n DY [.ro,.ro] [false] true [.tmp 4] [3] [.d .node a0,.d .str a1] k=
 (cond ((ae.kind a0)==(5:Int))
 (cond ((fun (x:ae) (_:BA)=>ak x) (eN a0) a1)
 (k [.d (.i .i64) (dL (eN a0) a1)])
 none)
 (cond ((ae.kind a0)==(4:Int))
 (vT n (fun (wF:Int)=>
 (k [.d (.i .i64) wF])) (fun (wU:Int) (wV:Bool)=>
 (k [.d (.i .i64) (-1:Int)])) a1 (ae.kind a0) (ae.n a0) (ae.s a0) (ae.keys a0) (ae.kids a0) n (0:Int))
 (k [.d (.i .i64) (-1:Int)]))):=by
  refine Eq.trans (b:=(cond ((ae.kind a0)==(5:Int))
  (cond ((fun (x:ae) (_:BA)=>ak x) (eN a0) a1)
   (k [.d (.i .i64) (dL (eN a0) a1)])
   none)
  (cond ((ae.kind a0)==(4:Int))
   (iter (fun st k=>ev z8 HE n (bl [1,0,1,0,1,1,1,0,1,0,0] DY) st k) n (FL a1 (0:Int) (ae.kind a0) (ae.n a0) (ae.s a0) (ae.keys a0) (ae.kids a0)) (Lu n (aC z8 [.ro,.ro] [false] true [.tmp 4] [3] [.d .node a0,.d .str a1] k)))
   (k [.d (.i .i64) (-1:Int)])))) (by kernel_rfl) ?_
  simp only [Lt,Lv,Lw]
theorem Lx (a0:ae) (a1:BA) (hg:ak a0=true):∃aJ rounds,∀ {R:Type} (k:Kt R),aM z8 aJ rounds DY [.ro,.ro] [false] true [.tmp 4] [3] [.d .node a0,.d .str a1] k=k [.d (.i .i64) (dq a0 a1)]:=by
 have pg:=hg
 rw [bY] at hg
 simp only [Bool.and_eq_true] at hg
 obtain ⟨_,_,_,ng,mL⟩:=hg
 have vS:=bp ng
 have xm:=bp mL
 refine ⟨HE,a0.kids.length+1,fun {R} k=> ?_⟩
 rw [Ri]
 show _=k [.d (.i .i64) (dq a0 a1)]
 simp only [aT,bu,pg,cond_true]
 unfold dq
 cases h5:a0.kind==(5:Int)
 rotate_left
 ·rfl
 simp only [cond_false]
 cases h4:a0.kind==(4:Int)
 ·rfl
 simp only [cond_true]
 refine Eq.trans (gi (n:=a0.kids.length) (F:=fun m i=>vT (a0.kids.length+1) _ _ a1 a0.kind a0.n a0.s a0.keys a0.kids m i) (p:=fun j=>eC (cj (j:Int)) a1) (hit:=fun i=>k [.d (.i .i64) i]) (miss:=k [.d (.i .i64) (-1:Int)])
  (fun m j hj=> ?_) (fun m=>by simp only [vT,gG,cond_false]) a0.kids.length 0 (a0.kids.length+1) (by omega) (by omega)) ?_
 ·obtain ⟨h1,h0,hw,ht⟩:=idx hj (by omega)
  simp only [vT,h1,hw,kt (n:=(j:Int)) (by omega) (by omega),cond_true]
 ·show _=k [.d (.i .i64) (zE _)]
  cases cC (fun j=>eC (cj (j:Int)) a1) 0 a0.kids.length<;>rfl
noncomputable def q96:Qt
 | [.d .node a0,.d .str a1]=>some (((fun (x:ae) (_:BA)=>ak x) a0 a1),[.d (.i .i64) (dq a0 a1)])
 | _=>none
noncomputable def s96:Gm.Spec:=Gm.Spec.of [.ro,.ro] [false] true q96
theorem Wi:Gm.Good Tryd.prog (96,s96):=by
 have hl:∀x∈[(64,Wb),(89,s89)],Gm.Good Tryd.prog x:=bJ.2 ⟨DW,bJ.2 ⟨Lq,im⟩⟩
 refine ⟨⟨aK (aV.env hl) (b9.cF hl) Tryd.func96 (by kernel_rfl:Tryd.f96.body=some DY) [3] (by kernel_rfl) ?_,_,Tryd.func96,by kernel_rfl,of_decide_eq_true (by kernel_rfl)⟩,Gm.Spec.aB _ _ _ _⟩
 intro ds outs h
 unfold q96 at h
 split at h
 ·simp only [Option.some.injEq,Prod.mk.injEq] at h;obtain ⟨hg,h⟩:=h;cases h;exact Lx _ _ hg
 ·cases h
noncomputable def Ly:Code:=(Tryd.f67.body).getD .skip
def T7:Nat→Kp:=fT [⟨[0],[],[],[]⟩,⟨[0,4],[],[],[]⟩,⟨[2],[],[],[]⟩,⟨[2],[],[],[]⟩]
noncomputable def T8:Env:=b9.env []
theorem Lz {R:Type} (n:Nat) (k:Kt R) (a0:List BA):aM T8 T7 n Ly [.ro] [false] true [.tmp 2] [22] [.d (.sl .str) a0] k=
 (cond (List.isEmpty a0)
 none
 (cond (Nat.ble (0+a0.length) bT)
 (k [.d (.sl .str) (([]:List BA)++a0)])
 none)):=by kernel_rfl
theorem HF (a0:List BA) (hg:(fun (x:List BA)=> !(x.isEmpty)&&Nat.ble x.length bT) a0=true):∃aJ rounds,∀ {R:Type} (k:Kt R),aM T8 aJ rounds Ly [.ro] [false] true [.tmp 2] [22] [.d (.sl .str) a0] k=k [.d (.sl .str) a0]:=by
 simp only [Bool.and_eq_true,Bool.not_eq_true'] at hg
 obtain ⟨h1,h2⟩:=hg
 refine ⟨T7,0,fun {R} k=> ?_⟩
 rw [Lz,h1,Nat.zero_add,h2]
 simp only [cond_true,cond_false,List.nil_append]
noncomputable def Wj:Qt
 | [.d (.sl .str) a0]=>some (((fun (x:List BA)=> !(x.isEmpty)&&Nat.ble x.length bT) a0),[.d (.sl .str) a0])
 | _=>none
noncomputable def adA:Gm.Spec:=Gm.Spec.of [.ro] [false] true Wj
theorem Rj:Gm.Good Tryd.prog (67,adA):=by
 have hl:∀x∈([]:List (Nat×Gm.Spec)),Gm.Good Tryd.prog x:=fun _ h=>by cases h
 refine ⟨⟨aK (aV.env hl) (b9.cF hl) Tryd.func67 (by kernel_rfl:Tryd.f67.body=some Ly) [22] (by kernel_rfl) ?_,_,Tryd.func67,by kernel_rfl,of_decide_eq_true (by kernel_rfl)⟩,Gm.Spec.aB _ _ _ _⟩
 intro ds outs h
 unfold Wj at h
 split at h
 ·simp only [Option.some.injEq,Prod.mk.injEq] at h;obtain ⟨hg,h⟩:=h;cases h;exact HF _ hg
 ·cases h
set_option maxHeartbeats 1000000 in
set_option maxRecDepth 100000 in
theorem aae:J0 Tryd.prog 67:=by
 intro a c w
 cases a with
 | none=>
  have q22:∀(w:World) (n c n' c':Nat),(binOp .eql 22 (.slice none n c) (.slice none n' c')).run Tryd.prog w = .ok (.bool true) w:=fun w n c n' c'=>Lib.run_eql_slice_nil w _ _ none n c n' c' Tryd.underlying22
  go_enter Tryd.func67,Tryd.ntmps67
  go_wp2
  go_ret
  exact .inl ⟨rfl,rfl⟩
 | some a=>
  have q22:∀(w:World) (n c n' c':Nat),(binOp .eql 22 (.slice (some a) n c) (.slice none n' c')).run Tryd.prog w = .ok (.bool false) w:=fun w n c n' c'=>Lib.run_eql_slice_nil w _ _ (some a) n c n' c' Tryd.underlying22
  go_enter Tryd.func67,Tryd.ntmps67
  go_wp2
  go_ret
  exact .inr ⟨_,rfl,rfl⟩
noncomputable def aaf:Qt
 | [.d (.sl .str) []]=>some (true,[.d (.sl .str) []])
 | _=>none
noncomputable def q67:Qt
 | [.d (.sl .str) a0]=>some (Nat.ble a0.length bT,[.d (.sl .str) a0])
 | _=>none
noncomputable def s67:Gm.Spec:=Gm.Spec.of [.ro] [false] true q67
theorem LA:Gm.Good Tryd.prog (67,s67):=by
 refine ⟨⟨Dz (q:=q67) (qb:=aaf) Rj.1.1 (Bw (t:= .str) aae fun ds outs h=> ?_) fun ds outs h=> ?_,_,Tryd.func67,by kernel_rfl,of_decide_eq_true (by kernel_rfl)⟩,Gm.Spec.aB _ _ _ _⟩
 ·unfold aaf at h
  split at h
  ·simp only [Option.some.injEq,Prod.mk.injEq,true_and] at h
   exact ⟨rfl,h.symm⟩
  ·cases h
 ·unfold q67 at h
  split at h
  ·rename_i a0
   simp only [Option.some.injEq,Prod.mk.injEq] at h
   obtain ⟨hg,rfl⟩:=h
   cases a0 with
   | nil=>exact .inr rfl
   | cons x r=>refine .inl ?_;simp only [Wj,List.isEmpty_cons,Bool.not_false,Bool.true_and,hg]
  ·cases h
noncomputable def q50:Qt
 | [.d .node a0]=>some ((ak a0),[.d .node a0])
 | _=>none
noncomputable def Wk:List Dt→Nat
 | [.d .node a0]=>ao a0
 | _=>0
noncomputable def aah (N:Nat):Gm.Spec:=Gm.Spec.of [.ro] [false] true (nS Wk N q50)
noncomputable def FM (y0:List ae) (y1:Int) (y2:Int) (y3:Int) (y4:Int) (y5:BA) (y6:List ae) (fc:List BA) (fE:List ae):St:=⟨[(1,.c (.one (.pt 1 0))),(2,.c (.one (.pt 2 0))),(3,.c (.one (.h 640 0 0 []))),(12,.c (.one (.ro .node y0))),(13,.c (.one (.v (.int .i64 y1)))),(14,.c (.one (.v (.int .i64 y2))))],[(1,⟨.node,[.v (.int .i64 y3),.v (.int .i64 y4),.v (.string y5),.h 512 0 0 [],.ro .node y6]⟩),(2,⟨.node,[.v (.int .i64 (0:Int)),.v (.int .i64 (0:Int)),.v (.string ByteArray.empty),.nl,.nl]⟩)],[(512,.live ⟨.str,.deep,0,[],fc⟩),(640,.live ⟨.node,.deep,0,[],fE⟩)]⟩
noncomputable def LB (y0:List ae) (y1:Int) (y2:Int) (y3:Bool) (y4:Int) (y5:Int) (y6:BA) (y7:List ae) (fE:List BA) (iN:List ae):St:=⟨[(1,.c (.one (.pt 1 0))),(2,.c (.one (.pt 2 0))),(3,.c (.one (.h 640 0 0 []))),(12,.c (.one (.ro .node y0))),(13,.c (.one (.v (.int .i64 y1)))),(14,.c (.one (.v (.int .i64 y2)))),(15,.c (.one (.v (.bool y3))))],[(1,⟨.node,[.v (.int .i64 y4),.v (.int .i64 y5),.v (.string y6),.h 512 0 0 [],.ro .node y7]⟩),(2,⟨.node,[.v (.int .i64 (0:Int)),.v (.int .i64 (0:Int)),.v (.string ByteArray.empty),.nl,.nl]⟩)],[(512,.live ⟨.str,.deep,0,[],fE⟩),(640,.live ⟨.node,.deep,0,[],iN⟩)]⟩
noncomputable def DZ:Code:=(Tryd.f50.body).getD .skip
def HG:Nat→Kp:=fT [⟨[1,2],[],[],[]⟩,⟨[1,2],[],[],[]⟩,⟨[1,2,3],[],[],[]⟩,⟨[1,2,3,12,13,14],[],[],[]⟩,⟨[1,2,3,12,13,14,15],[],[],[]⟩,⟨[1,2,3,5,12,13,14],[],[],[]⟩,⟨[1,2,3,12,13,14],[],[],[]⟩,⟨[1,2,3,12,13,14],[],[],[]⟩,⟨[1,2],[],[],[]⟩,⟨[2],[],[],[]⟩]
noncomputable def Aa (N:Nat):Env:=b9.env [(50,aah N),(67,s67)]
noncomputable def vU {R:Type} (N:Nat) (n:Nat) (x0:Int→Bool→(List ae)→Option R) (wG:List ae) (wH:Int) (wB:Int) (wC:Int) (wD:BA) (wA:List ae) (wI:List BA):Nat→Int→(List ae)→Option R
  | 0,_,_=>none
  | m+1,wE,wJ=>
    (cond (decide (wE<wH))
   (cond ((decide ((0:Int)≤wE))&&(decide (wE<(wG.length:Int))))
    (cond ((ak (eN (ar (t:= .node) wG (Int.toNat wE))))&&(Nat.blt (ao (eN (ar (t:= .node) wG (Int.toNat wE)))) N))
     (cond (Nat.ble (wJ.length+1) bT)
      (vU N n x0 wG wH wB wC wD wA wI m (IntKind.wrap .i64 (wE+(1:Int))) (wJ++([(eN (ar (t:= .node) wG (Int.toNat wE)))]:List ae)))
      none)
     none)
    none)
   (x0 wE (decide (wE<wH)) wJ))
theorem Rk {R:Type} (N:Nat) (n:Nat) (k':Kx R) (wG:List ae) (wH:Int) (wE:Int) (wB:Int) (wC:Int) (wD:BA) (wA:List ae) (wI:List BA) (wJ:List ae):ev (Aa N) HG n (bl [1,1,1,0,1,0,0] DZ) (FM wG wH wE wB wC wD wA wI wJ) k'=
 (cond (decide (wE<wH))
 (cond ((decide ((0:Int)≤wE))&&(decide (wE<(wG.length:Int))))
 (cond ((ak (eN (ar (t:= .node) wG (Int.toNat wE))))&&(Nat.blt (ao (eN (ar (t:= .node) wG (Int.toNat wE)))) N))
 (cond (Nat.ble (wJ.length+1) bT)
 (k' .normal (FM wG wH (IntKind.wrap .i64 (wE+(1:Int))) wB wC wD wA wI (wJ++([(eN (ar (t:= .node) wG (Int.toNat wE)))]:List ae))))
 none)
 none)
 none)
 (k' (.exit 0) (LB wG wH wE (decide (wE<wH)) wB wC wD wA wI wJ))):=by kernel_rfl
theorem LC {R:Type} (N:Nat) (n:Nat) (k':Kx R) (wG:List ae) (wH:Int) (wB:Int) (wC:Int) (wD:BA) (wA:List ae) (wI:List BA):∀(m:Nat) (wE:Int) (wJ:List ae),iter (fun st k=>ev (Aa N) HG n (bl [1,1,1,0,1,0,0] DZ) st k) m (FM wG wH wE wB wC wD wA wI wJ) k'=vU N n (fun (wS:Int) (wT:Bool) (wQ:List ae)=>k' (.exit 0) (LB wG wH wS wT wB wC wD wA wI wQ)) wG wH wB wC wD wA wI m wE wJ:=by
 intro m;induction m with
 | zero=>intros;rfl
 | succ m ih=>
  intro wE wJ
  simp only [iter]
  rw [Rk]
  simp only [ih,vU]
noncomputable def T9 {R:Type} (N:Nat) (n:Nat) (k':Kx R):Kx R:=(bZ 0 (dS (Aa N) HG n (bl [1,1,1,1] DZ) k'))
theorem LD {R:Type} (N:Nat) (n:Nat) (k:Kt R) (a0:ae) (wG:List ae) (wH:Int) (wB:Int) (wC:Int) (wD:BA) (wA:List ae) (wI:List BA) (wS:Int) (wT:Bool) (wQ:List ae):T9 N n (aC (Aa N) [.ro] [false] true [.cell 2 35] [35] [.d .node a0] k) (.exit 0) (LB wG wH wS wT wB wC wD wA wI wQ)=
 (k [.d .node (⟨wB,wC,wD,wI,wQ⟩:ae)]):=by kernel_rfl
theorem Rl {R:Type} (N:Nat) (n:Nat) (k:Kt R) (a0:ae):aM (Aa N) HG n DZ [.ro] [false] true [.cell 2 35] [35] [.d .node a0] k=
 (cond ((fun (x:List BA)=>Nat.ble x.length bT) (ae.keys a0))
 (vU N n (fun (wS:Int) (wT:Bool) (wQ:List ae)=>
 (k [.d .node (⟨(ae.kind a0),(ae.n a0),(ae.s a0),(ae.keys a0),wQ⟩:ae)])) (ae.kids a0) ((ae.kids a0).length:Int) (ae.kind a0) (ae.n a0) (ae.s a0) (ae.kids a0) (ae.keys a0) n (0:Int) ([]:List ae))
 none):=by
 refine Eq.trans (b:=(cond ((fun (x:List BA)=>Nat.ble x.length bT) (ae.keys a0))
 (iter (fun st k=>ev (Aa N) HG n (bl [1,1,1,0,1,0,0] DZ) st k) n (FM (ae.kids a0) ((ae.kids a0).length:Int) (0:Int) (ae.kind a0) (ae.n a0) (ae.s a0) (ae.kids a0) (ae.keys a0) ([]:List ae)) (T9 N n (aC (Aa N) [.ro] [false] true [.cell 2 35] [35] [.d .node a0] k)))
 none)) (by kernel_rfl) ?_
 simp only [LC,LD]
theorem LF (N:Nat) (a0:ae) (hg:ak a0=true) (hm:Wk [.d .node a0]=N):∃aJ rounds,∀ {R:Type} (k:Kt R),aM (Aa N) aJ rounds DZ [.ro] [false] true [.cell 2 35] [35] [.d .node a0] k=k [.d .node a0]:=by
 have hm:ao a0=N:=hm
 subst hm
 have pg:=hg
 rw [bY] at hg
 simp only [Bool.and_eq_true] at hg
 obtain ⟨_,_,_,ng,mL⟩:=hg
 have vS:=bp ng
 have xm:=bp mL
 refine ⟨HG,a0.kids.length+1,fun {R} k=> ?_⟩
 rw [Rl]
 simp only [Nat.zero_add,TU vS,cond_true,List.nil_append]
 refine Eq.trans (nT (xs:=a0.kids) (F:=fun m j out=>vU (ao a0) (a0.kids.length+1) _ a0.kids (a0.kids.length:Int) a0.kind a0.n a0.s a0.kids a0.keys m (j:Int) out) (f:=fun out x=>out++[x]) (good:=fun out=>k [.d .node ⟨a0.kind,a0.n,a0.s,a0.keys,out⟩]) (fun j out=>out.length≤j)
  (fun j out x hx hi=>by simp only [List.length_append,List.length_cons,List.length_nil];omega) (fun m j out x hx hi=> ?_) (fun m out hi=>by simp only [vU,gG,cond_false]) a0.kids.length 0 (a0.kids.length+1) [] (by omega) (by omega) (by simp)) ?_
 ·obtain ⟨h1,h0,hw,ht⟩:=idx (aY hx) (by omega)
  have hj:=aY hx
  have hs:=List.all_eq_true.1 (kS mL) x (List.mem_of_getElem? hx)
  have kG:Nat.ble (out.length+1) bT=true:=Nat.ble_eq_true_of_le (by have:(bT:Nat)=4294967296:=rfl;omega)
  have hb:Nat.blt (ao x) (ao a0)=true:=by
   have:=bD (x:=a0) (List.mem_of_getElem? hx)
   rw [Nat.blt_eq];exact this
  simp only [vU,h1,h0,hw,ht,bz (t:= .node) hx,Bool.and_self,cond_true,kG,aT,bu,hs,hb]
 ·rw [List.drop_zero,vl,List.nil_append,aT]
noncomputable def s50:Gm.Spec:=Gm.Spec.of [.ro] [false] true q50
theorem LG:Gm.Good Tryd.prog (50,s50):=by
 refine ⟨⟨fU Wk fun N hr=> ?_,_,Tryd.func50,by kernel_rfl,of_decide_eq_true (by kernel_rfl)⟩,Gm.Spec.aB _ _ _ _⟩
 have hl:∀x∈[(50,aah N),(67,s67)],Gm.Good Tryd.prog x:=bJ.2 ⟨⟨⟨hr,_,Tryd.func50,by kernel_rfl,of_decide_eq_true (by kernel_rfl)⟩,Gm.Spec.aB _ _ _ _⟩,bJ.2 ⟨LA,im⟩⟩
 intro R
 refine aK (E:=Aa N) (aV.env hl) (b9.cF hl) Tryd.func50 (by kernel_rfl:Tryd.f50.body=some DZ) [35] (by kernel_rfl) ?_
 intro ds outs h
 obtain ⟨h,hm⟩:=cT h
 unfold q50 at h
 split at h
 ·simp only [Option.some.injEq,Prod.mk.injEq] at h;obtain ⟨hg,h⟩:=h;cases h;exact LF N _ hg hm
 ·cases h
noncomputable def q57:Qt
 | [.d .node a0]=>some ((ak a0),[.d .node a0])
 | _=>none
noncomputable def Wl:List Dt→Nat
 | [.d .node a0]=>ao a0
 | _=>0
noncomputable def aaj (N:Nat):Gm.Spec:=Gm.Spec.of [.ro] [false] true (nS Wl N q57)
noncomputable def FN (y0:Int) (y1:Int) (y2:Int) (y3:BA) (y4:List BA) (y5:List ae) (y9:Int) (fc:Int) (fE:BA) (iN:List ae) (ml:List BA):St:=⟨[(1,.c (.one (.pt 1 0))),(2,.c (.one (.pt 2 0))),(3,.c (.one (.pt 3 0))),(4,.c (.one (.v (.int .i64 y0))))],[(1,⟨.node,[.v (.int .i64 y1),.v (.int .i64 y2),.v (.string y3),.ro .str y4,.ro .node y5]⟩),(2,⟨.node,[.v (.int .i64 (0:Int)),.v (.int .i64 (0:Int)),.v (.string ByteArray.empty),.nl,.nl]⟩),(3,⟨.node,[.v (.int .i64 y9),.v (.int .i64 fc),.v (.string fE),.h 704 0 0 [],.h 196 0 0 []]⟩)],[(196,.live ⟨.node,.deep,0,[],iN⟩),(704,.live ⟨.str,.deep,0,[],ml⟩)]⟩
noncomputable def LH (y0:Int) (y1:Bool) (y2:Int) (y3:Int) (y4:BA) (y5:List BA) (y6:List ae) (fc:Int) (fE:Int) (iN:BA) (ml:List ae) (o4:List BA):St:=⟨[(1,.c (.one (.pt 1 0))),(2,.c (.one (.pt 2 0))),(3,.c (.one (.pt 3 0))),(4,.c (.one (.v (.int .i64 y0)))),(20,.c (.one (.v (.bool y1))))],[(1,⟨.node,[.v (.int .i64 y2),.v (.int .i64 y3),.v (.string y4),.ro .str y5,.ro .node y6]⟩),(2,⟨.node,[.v (.int .i64 (0:Int)),.v (.int .i64 (0:Int)),.v (.string ByteArray.empty),.nl,.nl]⟩),(3,⟨.node,[.v (.int .i64 fc),.v (.int .i64 fE),.v (.string iN),.h 704 0 0 [],.h 196 0 0 []]⟩)],[(196,.live ⟨.node,.deep,0,[],ml⟩),(704,.live ⟨.str,.deep,0,[],o4⟩)]⟩
noncomputable def D0:Code:=(Tryd.f57.body).getD .skip
def HH:Nat→Kp:=fT [⟨[1,2],[],[],[]⟩,⟨[1,2,3],[],[],[]⟩,⟨[1,2,3,4],[⟨true,false,3,4,.node⟩],[],[]⟩,⟨[1,2,3,4,20],[],[],[]⟩,⟨[1,2,3,4],[],[],[]⟩,⟨[1,2,3,4],[],[],[]⟩,⟨[2],[],[],[]⟩]
noncomputable def Ab (N:Nat):Env:=b9.env [(57,aaj N)]
noncomputable def vV {R:Type} (N:Nat) (n:Nat) (x0:Int→Bool→(List ae)→Option R) (wB:Int) (wC:Int) (wD:BA) (wP:List BA) (wA:List ae) (wK:Int) (wL:Int) (wM:BA) (wN:List BA):Nat→Int→(List ae)→Option R
  | 0,_,_=>none
  | m+1,wF,wO=>
    (cond (decide (wF<(wA.length:Int)))
   (cond ((decide ((0:Int)≤wF))&&(decide (wF<(wA.length:Int))))
    (cond ((ak (eN (ar (t:= .node) wA (Int.toNat wF))))&&(Nat.blt (ao (eN (ar (t:= .node) wA (Int.toNat wF)))) N))
     (cond (Nat.ble (wO.length+1) bT)
      (vV N n x0 wB wC wD wP wA wK wL wM wN m (IntKind.wrap .i64 (wF+(1:Int))) (wO++([(eN (ar (t:= .node) wA (Int.toNat wF)))]:List ae)))
      none)
     none)
    none)
   (x0 wF (decide (wF<(wA.length:Int))) wO))
theorem Rm {R:Type} (N:Nat) (n:Nat) (k':Kx R) (wF:Int) (wB:Int) (wC:Int) (wD:BA) (wP:List BA) (wA:List ae) (wK:Int) (wL:Int) (wM:BA) (wO:List ae) (wN:List BA):ev (Ab N) HH n (bl [1,1,0,1,0,0] D0) (FN wF wB wC wD wP wA wK wL wM wO wN) k'=
 (cond (decide (wF<(wA.length:Int)))
 (cond ((decide ((0:Int)≤wF))&&(decide (wF<(wA.length:Int))))
 (cond ((ak (eN (ar (t:= .node) wA (Int.toNat wF))))&&(Nat.blt (ao (eN (ar (t:= .node) wA (Int.toNat wF)))) N))
 (cond (Nat.ble (wO.length+1) bT)
 (k' .normal (FN (IntKind.wrap .i64 (wF+(1:Int))) wB wC wD wP wA wK wL wM (wO++([(eN (ar (t:= .node) wA (Int.toNat wF)))]:List ae)) wN))
 none)
 none)
 none)
 (k' (.exit 0) (LH wF (decide (wF<(wA.length:Int))) wB wC wD wP wA wK wL wM wO wN))):=by kernel_rfl
theorem LI {R:Type} (N:Nat) (n:Nat) (k':Kx R) (wB:Int) (wC:Int) (wD:BA) (wP:List BA) (wA:List ae) (wK:Int) (wL:Int) (wM:BA) (wN:List BA):∀(m:Nat) (wF:Int) (wO:List ae),iter (fun st k=>ev (Ab N) HH n (bl [1,1,0,1,0,0] D0) st k) m (FN wF wB wC wD wP wA wK wL wM wO wN) k'=vV N n (fun (wU:Int) (wV:Bool) (wR:List ae)=>k' (.exit 0) (LH wU wV wB wC wD wP wA wK wL wM wR wN)) wB wC wD wP wA wK wL wM wN m wF wO:=by
 intro m;induction m with
 | zero=>intros;rfl
 | succ m ih=>
  intro wF wO
  simp only [iter]
  rw [Rm]
  simp only [ih,vV]
noncomputable def Ua {R:Type} (N:Nat) (n:Nat) (k':Kx R):Kx R:=(bZ 0 (dS (Ab N) HH n (bl [1,1,1] D0) k'))
theorem LJ {R:Type} (N:Nat) (n:Nat) (k:Kt R) (a0:ae) (wB:Int) (wC:Int) (wD:BA) (wP:List BA) (wA:List ae) (wK:Int) (wL:Int) (wM:BA) (wN:List BA) (wU:Int) (wV:Bool) (wR:List ae):Ua N n (aC (Ab N) [.ro] [false] true [.cell 2 35] [35] [.d .node a0] k) (.exit 0) (LH wU wV wB wC wD wP wA wK wL wM wR wN)=
 (k [.d .node (⟨wK,wL,wM,wN,wR⟩:ae)]):=by kernel_rfl
theorem Rn {R:Type} (N:Nat) (n:Nat) (k:Kt R) (a0:ae):aM (Ab N) HH n D0 [.ro] [false] true [.cell 2 35] [35] [.d .node a0] k=
 (cond (Nat.ble (0+(ae.keys a0).length) bT)
 (vV N n (fun (wU:Int) (wV:Bool) (wR:List ae)=>
 (k [.d .node (⟨(ae.kind a0),(ae.n a0),(ae.s a0),(([]:List BA)++(ae.keys a0)),wR⟩:ae)])) (ae.kind a0) (ae.n a0) (ae.s a0) (ae.keys a0) (ae.kids a0) (ae.kind a0) (ae.n a0) (ae.s a0) (([]:List BA)++(ae.keys a0)) n (0:Int) ([]:List ae))
 none):=by
 refine Eq.trans (b:=(cond (Nat.ble (0+(ae.keys a0).length) bT)
 (iter (fun st k=>ev (Ab N) HH n (bl [1,1,0,1,0,0] D0) st k) n (FN (0:Int) (ae.kind a0) (ae.n a0) (ae.s a0) (ae.keys a0) (ae.kids a0) (ae.kind a0) (ae.n a0) (ae.s a0) ([]:List ae) (([]:List BA)++(ae.keys a0))) (Ua N n (aC (Ab N) [.ro] [false] true [.cell 2 35] [35] [.d .node a0] k)))
 none)) (by kernel_rfl) ?_
 simp only [LI,LJ]
theorem LK (N:Nat) (a0:ae) (hg:ak a0=true) (hm:Wl [.d .node a0]=N):∃aJ rounds,∀ {R:Type} (k:Kt R),aM (Ab N) aJ rounds D0 [.ro] [false] true [.cell 2 35] [35] [.d .node a0] k=k [.d .node a0]:=by
 have hm:ao a0=N:=hm
 subst hm
 have pg:=hg
 rw [bY] at hg
 simp only [Bool.and_eq_true] at hg
 obtain ⟨_,_,_,ng,mL⟩:=hg
 have vS:=bp ng
 have xm:=bp mL
 refine ⟨HH,a0.kids.length+1,fun {R} k=> ?_⟩
 rw [Rn]
 simp only [Nat.zero_add,TU vS,cond_true,List.nil_append]
 refine Eq.trans (nT (xs:=a0.kids) (F:=fun m j out=>vV (ao a0) (a0.kids.length+1) _ a0.kind a0.n a0.s a0.keys a0.kids a0.kind a0.n a0.s a0.keys m (j:Int) out) (f:=fun out x=>out++[x]) (good:=fun out=>k [.d .node ⟨a0.kind,a0.n,a0.s,a0.keys,out⟩]) (fun j out=>out.length≤j)
  (fun j out x hx hi=>by simp only [List.length_append,List.length_cons,List.length_nil];omega) (fun m j out x hx hi=> ?_) (fun m out hi=>by simp only [vV,gG,cond_false]) a0.kids.length 0 (a0.kids.length+1) [] (by omega) (by omega) (by simp)) ?_
 ·obtain ⟨h1,h0,hw,ht⟩:=idx (aY hx) (by omega)
  have hj:=aY hx
  have hs:=List.all_eq_true.1 (kS mL) x (List.mem_of_getElem? hx)
  have kG:Nat.ble (out.length+1) bT=true:=Nat.ble_eq_true_of_le (by have:(bT:Nat)=4294967296:=rfl;omega)
  have hb:Nat.blt (ao x) (ao a0)=true:=by
   have:=bD (x:=a0) (List.mem_of_getElem? hx)
   rw [Nat.blt_eq];exact this
  simp only [vV,h1,h0,hw,ht,bz (t:= .node) hx,Bool.and_self,cond_true,kG,aT,bu,hs,hb]
 ·rw [List.drop_zero,vl,List.nil_append,aT]
noncomputable def HI:Gm.Spec:=Gm.Spec.of [.ro] [false] true q57
theorem rT:Gm.Good Tryd.prog (57,HI):=by
 refine ⟨⟨fU Wl fun N hr=> ?_,_,Tryd.func57,by kernel_rfl,of_decide_eq_true (by kernel_rfl)⟩,Gm.Spec.aB _ _ _ _⟩
 have hl:∀x∈[(57,aaj N)],Gm.Good Tryd.prog x:=bJ.2 ⟨⟨⟨hr,_,Tryd.func57,by kernel_rfl,of_decide_eq_true (by kernel_rfl)⟩,Gm.Spec.aB _ _ _ _⟩,im⟩
 intro R
 refine aK (E:=Ab N) (aV.env hl) (b9.cF hl) Tryd.func57 (by kernel_rfl:Tryd.f57.body=some D0) [35] (by kernel_rfl) ?_
 intro ds outs h
 obtain ⟨h,hm⟩:=cT h
 unfold q57 at h
 split at h
 ·simp only [Option.some.injEq,Prod.mk.injEq] at h;obtain ⟨hg,h⟩:=h;cases h;exact LK N _ hg hm
 ·cases h
noncomputable def FO (y0:BA) (y1:Int) (y2:Int) (y3:Int) (y4:BA) (y5:List BA) (y6:List ae) (y7:Int) (y8:Int) (y9:BA) (fc:List BA) (fE:List ae) (oq:Int) (qP:Int) (Ac:BA) (Cd:List BA) (D1:List ae):St:=⟨[(1,.c (.one (.v (.string y0)))),(3,.c (.one (.pt 3 0))),(5,.c (.one (.pt 5 0))),(6,.c (.one (.pt 6 0))),(7,.c (.one (.pt 7 0))),(8,.c (.one (.v (.int .i64 y1))))],[(3,⟨.node,[.v (.int .i64 y2),.v (.int .i64 y3),.v (.string y4),.ro .str y5,.ro .node y6]⟩),(5,⟨.node,[.v (.int .i64 y7),.v (.int .i64 y8),.v (.string y9),.ro .str fc,.ro .node fE]⟩),(6,⟨.node,[.v (.int .i64 (0:Int)),.v (.int .i64 (0:Int)),.v (.string ByteArray.empty),.nl,.nl]⟩),(7,⟨.node,[.v (.int .i64 oq),.v (.int .i64 qP),.v (.string Ac),.h 768 0 0 [],.h 769 0 0 []]⟩)],[(768,.live ⟨.str,.deep,0,[],Cd⟩),(769,.live ⟨.node,.deep,0,[],D1⟩)]⟩
noncomputable def yx (y0:BA) (y1:Int) (y2:Bool) (y3:Int) (y4:Int) (y5:BA) (y6:List BA) (y7:List ae) (y8:Int) (y9:Int) (fc:BA) (fE:List BA) (iN:List ae) (qP:Int) (Ac:Int) (Cd:BA) (D1:List BA) (LL:List ae):St:=⟨[(1,.c (.one (.v (.string y0)))),(3,.c (.one (.pt 3 0))),(5,.c (.one (.pt 5 0))),(6,.c (.one (.pt 6 0))),(7,.c (.one (.pt 7 0))),(8,.c (.one (.v (.int .i64 y1)))),(51,.c (.one (.v (.bool y2))))],[(3,⟨.node,[.v (.int .i64 y3),.v (.int .i64 y4),.v (.string y5),.ro .str y6,.ro .node y7]⟩),(5,⟨.node,[.v (.int .i64 y8),.v (.int .i64 y9),.v (.string fc),.ro .str fE,.ro .node iN]⟩),(6,⟨.node,[.v (.int .i64 (0:Int)),.v (.int .i64 (0:Int)),.v (.string ByteArray.empty),.nl,.nl]⟩),(7,⟨.node,[.v (.int .i64 qP),.v (.int .i64 Ac),.v (.string Cd),.h 768 0 0 [],.h 769 0 0 []]⟩)],[(768,.live ⟨.str,.deep,0,[],D1⟩),(769,.live ⟨.node,.deep,0,[],LL⟩)]⟩
noncomputable def D2:Code:=(Tryd.f93.body).getD .skip
def HJ:Nat→Kp:=fT [⟨[1,3,5,6],[],[],[]⟩,⟨[1,3,5,6,7],[],[],[]⟩,⟨[1,3,5,6,7,24],[],[],[]⟩,⟨[6],[],[],[]⟩,⟨[1,3,5,6,7,8],[],[],[]⟩,⟨[1,3,5,6,7,8,30],[],[],[]⟩,⟨[6,7],[],[],[]⟩,⟨[6],[],[],[]⟩,⟨[1,3,5,6,7,8],[],[],[]⟩,⟨[1,3,5,6,7,8,51],[],[],[]⟩,⟨[1,3,5,6,7,8],[],[],[]⟩,⟨[1,3,5,6,7,8,9],[],[],[]⟩,⟨[3,5,6,7,8,9],[],[],[]⟩,⟨[3,5,6,7,8,9,10],[],[],[]⟩,⟨[3,6,7,8,9,10],[],[],[]⟩,⟨[6],[],[],[]⟩]
noncomputable def Ad:Env:=b9.env [(57,HI),(89,s89)]
noncomputable def vW {R:Type} (n:Nat) (x0:Int→Bool→Option R) (x1:Int→Option R) (wM:BA) (wJ:Int) (wK:Int) (wL:BA) (wC:List BA) (wD:List ae) (wE:Int) (wF:Int) (wG:BA) (wH:List BA) (wI:List ae) (wP:Int) (wQ:Int) (wR:BA) (wN:List BA) (wO:List ae):Nat→Int→Option R
  | 0,_=>none
  | m+1,wB=>
    (cond (decide (wB<(wC.length:Int)))
   (cond ((decide ((0:Int)≤wB))&&(decide (wB<(wC.length:Int))))
    (cond (lq (ar (t:= .str) wC (Int.toNat wB)) wM)
     (vW n x0 x1 wM wJ wK wL wC wD wE wF wG wH wI wP wQ wR wN wO m (IntKind.wrap .i64 (wB+(1:Int))))
     (x0 wB (lq (ar (t:= .str) wC (Int.toNat wB)) wM)))
    none)
   (x1 wB))
theorem Ro {R:Type} (n:Nat) (k':Kx R) (wM:BA) (wB:Int) (wJ:Int) (wK:Int) (wL:BA) (wC:List BA) (wD:List ae) (wE:Int) (wF:Int) (wG:BA) (wH:List BA) (wI:List ae) (wP:Int) (wQ:Int) (wR:BA) (wN:List BA) (wO:List ae):ev Ad HJ n (bl [1,1,1,1,1,1,0,0,0] D2) (FO wM wB wJ wK wL wC wD wE wF wG wH wI wP wQ wR wN wO) k'=
 (cond (decide (wB<(wC.length:Int)))
 (cond ((decide ((0:Int)≤wB))&&(decide (wB<(wC.length:Int))))
 (cond (lq (ar (t:= .str) wC (Int.toNat wB)) wM)
 (k' .normal (FO wM (IntKind.wrap .i64 (wB+(1:Int))) wJ wK wL wC wD wE wF wG wH wI wP wQ wR wN wO))
 (k' (.exit 0) (yx wM wB (lq (ar (t:= .str) wC (Int.toNat wB)) wM) wJ wK wL wC wD wE wF wG wH wI wP wQ wR wN wO)))
 none)
 (k' (.exit 0) (yx wM wB false wJ wK wL wC wD wE wF wG wH wI wP wQ wR wN wO))):=by kernel_rfl
theorem LM {R:Type} (n:Nat) (k':Kx R) (wM:BA) (wJ:Int) (wK:Int) (wL:BA) (wC:List BA) (wD:List ae) (wE:Int) (wF:Int) (wG:BA) (wH:List BA) (wI:List ae) (wP:Int) (wQ:Int) (wR:BA) (wN:List BA) (wO:List ae):∀(m:Nat) (wB:Int),iter (fun st k=>ev Ad HJ n (bl [1,1,1,1,1,1,0,0,0] D2) st k) m (FO wM wB wJ wK wL wC wD wE wF wG wH wI wP wQ wR wN wO) k'=vW n (fun (wA:Int) (wY:Bool)=>k' (.exit 0) (yx wM wA wY wJ wK wL wC wD wE wF wG wH wI wP wQ wR wN wO)) (fun (wA:Int)=>k' (.exit 0) (yx wM wA false wJ wK wL wC wD wE wF wG wH wI wP wQ wR wN wO)) wM wJ wK wL wC wD wE wF wG wH wI wP wQ wR wN wO m wB:=by
 intro m;induction m with
 | zero=>intros;rfl
 | succ m ih=>
  intro wB
  simp only [iter]
  rw [Ro]
  simp only [ih,vW]
noncomputable def LN {R:Type} (n:Nat) (k':Kx R):Kx R:=(bZ 0 (dS Ad HJ n (bl [1,1,1,1,1,1,1] D2) k'))
theorem LO {R:Type} (n:Nat) (k:Kt R) (a0:ae) (a1:BA) (a2:ae) (wM:BA) (wJ:Int) (wK:Int) (wL:BA) (wC:List BA) (wD:List ae) (wE:Int) (wF:Int) (wG:BA) (wH:List BA) (wI:List ae) (wP:Int) (wQ:Int) (wR:BA) (wN:List BA) (wO:List ae) (wA:Int) (wY:Bool):LN n (aC Ad [.ro,.ro,.ro] [false] true [.cell 6 35] [35] [.d .node a0,.d .str a1,.d .node a2] k) (.exit 0) (yx wM wA wY wJ wK wL wC wD wE wF wG wH wI wP wQ wR wN wO)=
 (cond ((decide ((0:Int)≤wA))&&(decide (wA≤(wN.length:Int))))
 (cond (Nat.ble (0+((wN.take (Int.toNat wA)).drop 0).length) bT)
 (cond (Nat.ble ((([]:List BA)++((wN.take (Int.toNat wA)).drop 0)).length+1) bT)
 (cond ((decide ((0:Int)≤wA))&&(decide (wA≤(wO.length:Int))))
 (cond (Nat.ble (0+((wO.take (Int.toNat wA)).drop 0).length) bT)
 (cond (ak (⟨wE,wF,wG,wH,wI⟩:ae))
 (cond (Nat.ble ((([]:List ae)++((wO.take (Int.toNat wA)).drop 0)).length+1) bT)
 (cond ((decide ((0:Int)≤wA))&&((decide (wA≤(wN.length:Int)))&&(decide ((wN.length:Int)≤(wN.length:Int)))))
 (cond (Nat.ble (((([]:List BA)++((wN.take (Int.toNat wA)).drop 0))++([wM]:List BA)).length+((wN.take (Int.toNat (wN.length:Int))).drop (Int.toNat wA)).length) bT)
 (cond ((decide ((0:Int)≤wA))&&((decide (wA≤(wO.length:Int)))&&(decide ((wO.length:Int)≤(wO.length:Int)))))
 (cond (rY (Int.toNat wA) 0 (Int.toNat wA) 0)
 (cond (Nat.ble (((([]:List ae)++((wO.take (Int.toNat wA)).drop 0))++([(⟨wE,wF,wG,wH,wI⟩:ae)]:List ae)).length+((wO.take (Int.toNat (wO.length:Int))).drop (Int.toNat wA)).length) bT)
 (k [.d .node (⟨wJ,wK,wL,(((([]:List BA)++((wN.take (Int.toNat wA)).drop 0))++([wM]:List BA))++((wN.take (Int.toNat (wN.length:Int))).drop (Int.toNat wA))),(((([]:List ae)++((wO.take (Int.toNat wA)).drop 0))++([(⟨wE,wF,wG,wH,wI⟩:ae)]:List ae))++((wO.take (Int.toNat (wO.length:Int))).drop (Int.toNat wA)))⟩:ae)])
 none)
 none)
 none)
 none)
 none)
 none)
 none)
 none)
 none)
 none)
 none)
 none):=by kernel_rfl
theorem LP {R:Type} (n:Nat) (k:Kt R) (a0:ae) (a1:BA) (a2:ae) (wM:BA) (wJ:Int) (wK:Int) (wL:BA) (wC:List BA) (wD:List ae) (wE:Int) (wF:Int) (wG:BA) (wH:List BA) (wI:List ae) (wP:Int) (wQ:Int) (wR:BA) (wN:List BA) (wO:List ae) (wA:Int):LN n (aC Ad [.ro,.ro,.ro] [false] true [.cell 6 35] [35] [.d .node a0,.d .str a1,.d .node a2] k) (.exit 0) (yx wM wA false wJ wK wL wC wD wE wF wG wH wI wP wQ wR wN wO)=
 (cond ((decide ((0:Int)≤wA))&&(decide (wA≤(wN.length:Int))))
 (cond (Nat.ble (0+((wN.take (Int.toNat wA)).drop 0).length) bT)
 (cond (Nat.ble ((([]:List BA)++((wN.take (Int.toNat wA)).drop 0)).length+1) bT)
 (cond ((decide ((0:Int)≤wA))&&(decide (wA≤(wO.length:Int))))
 (cond (Nat.ble (0+((wO.take (Int.toNat wA)).drop 0).length) bT)
 (cond (ak (⟨wE,wF,wG,wH,wI⟩:ae))
 (cond (Nat.ble ((([]:List ae)++((wO.take (Int.toNat wA)).drop 0)).length+1) bT)
 (cond ((decide ((0:Int)≤wA))&&((decide (wA≤(wN.length:Int)))&&(decide ((wN.length:Int)≤(wN.length:Int)))))
 (cond (Nat.ble (((([]:List BA)++((wN.take (Int.toNat wA)).drop 0))++([wM]:List BA)).length+((wN.take (Int.toNat (wN.length:Int))).drop (Int.toNat wA)).length) bT)
 (cond ((decide ((0:Int)≤wA))&&((decide (wA≤(wO.length:Int)))&&(decide ((wO.length:Int)≤(wO.length:Int)))))
 (cond (rY (Int.toNat wA) 0 (Int.toNat wA) 0)
 (cond (Nat.ble (((([]:List ae)++((wO.take (Int.toNat wA)).drop 0))++([(⟨wE,wF,wG,wH,wI⟩:ae)]:List ae)).length+((wO.take (Int.toNat (wO.length:Int))).drop (Int.toNat wA)).length) bT)
 (k [.d .node (⟨wJ,wK,wL,(((([]:List BA)++((wN.take (Int.toNat wA)).drop 0))++([wM]:List BA))++((wN.take (Int.toNat (wN.length:Int))).drop (Int.toNat wA))),(((([]:List ae)++((wO.take (Int.toNat wA)).drop 0))++([(⟨wE,wF,wG,wH,wI⟩:ae)]:List ae))++((wO.take (Int.toNat (wO.length:Int))).drop (Int.toNat wA)))⟩:ae)])
 none)
 none)
 none)
 none)
 none)
 none)
 none)
 none)
 none)
 none)
 none)
 none):=by kernel_rfl
theorem Rp {R:Type} (n:Nat) (k:Kt R) (a0:ae) (a1:BA) (a2:ae):aM Ad HJ n D2 [.ro,.ro,.ro] [false] true [.cell 6 35] [35] [.d .node a0,.d .str a1,.d .node a2] k=
 (cond (ak (eN a0))
 (cond ((ae.kind a0) !=(5:Int))
 (k [.d .node (eN a0)])
 (cond (((ae.keys a0).length:Int) !=((ae.kids a0).length:Int))
 (k [.d .node (eN a0)])
 (cond ((fun (x:ae) (_:BA)=>ak x) (eN a0) a1)
 (cond (decide ((dL (eN a0) a1)≥(0:Int)))
 (cond (ak (eN a2))
 (cond ((decide ((0:Int)≤(dL (eN a0) a1)))&&(decide ((dL (eN a0) a1)<((ae.kids a0).length:Int))))
 (k [.d .node (⟨(ae.kind a0),(ae.n a0),(ae.s a0),(ae.keys a0),((ae.kids a0).set (Int.toNat (dL (eN a0) a1)) (eN a2))⟩:ae)])
 none)
 none)
 (vW n (fun (wA:Int) (wY:Bool)=>
 (cond ((decide ((0:Int)≤wA))&&(decide (wA≤((ae.keys a0).length:Int))))
 (cond (Nat.ble (0+(((ae.keys a0).take (Int.toNat wA)).drop 0).length) bT)
 (cond (Nat.ble ((([]:List BA)++(((ae.keys a0).take (Int.toNat wA)).drop 0)).length+1) bT)
 (cond ((decide ((0:Int)≤wA))&&(decide (wA≤((ae.kids a0).length:Int))))
 (cond (Nat.ble (0+(((ae.kids a0).take (Int.toNat wA)).drop 0).length) bT)
 (cond (ak (⟨(ae.kind a2),(ae.n a2),(ae.s a2),(ae.keys a2),(ae.kids a2)⟩:ae))
 (cond (Nat.ble ((([]:List ae)++(((ae.kids a0).take (Int.toNat wA)).drop 0)).length+1) bT)
 (cond ((decide ((0:Int)≤wA))&&((decide (wA≤((ae.keys a0).length:Int)))&&(decide (((ae.keys a0).length:Int)≤((ae.keys a0).length:Int)))))
 (cond (Nat.ble (((([]:List BA)++(((ae.keys a0).take (Int.toNat wA)).drop 0))++([a1]:List BA)).length+(((ae.keys a0).take (Int.toNat ((ae.keys a0).length:Int))).drop (Int.toNat wA)).length) bT)
 (cond ((decide ((0:Int)≤wA))&&((decide (wA≤((ae.kids a0).length:Int)))&&(decide (((ae.kids a0).length:Int)≤((ae.kids a0).length:Int)))))
 (cond (rY (Int.toNat wA) 0 (Int.toNat wA) 0)
 (cond (Nat.ble (((([]:List ae)++(((ae.kids a0).take (Int.toNat wA)).drop 0))++([(⟨(ae.kind a2),(ae.n a2),(ae.s a2),(ae.keys a2),(ae.kids a2)⟩:ae)]:List ae)).length+(((ae.kids a0).take (Int.toNat ((ae.kids a0).length:Int))).drop (Int.toNat wA)).length) bT)
 (k [.d .node (⟨(ae.kind a0),(ae.n a0),(ae.s a0),(((([]:List BA)++(((ae.keys a0).take (Int.toNat wA)).drop 0))++([a1]:List BA))++(((ae.keys a0).take (Int.toNat ((ae.keys a0).length:Int))).drop (Int.toNat wA))),(((([]:List ae)++(((ae.kids a0).take (Int.toNat wA)).drop 0))++([(⟨(ae.kind a2),(ae.n a2),(ae.s a2),(ae.keys a2),(ae.kids a2)⟩:ae)]:List ae))++(((ae.kids a0).take (Int.toNat ((ae.kids a0).length:Int))).drop (Int.toNat wA)))⟩:ae)])
 none)
 none)
 none)
 none)
 none)
 none)
 none)
 none)
 none)
 none)
 none)
 none)) (fun (wA:Int)=>
 (cond ((decide ((0:Int)≤wA))&&(decide (wA≤((ae.keys a0).length:Int))))
 (cond (Nat.ble (0+(((ae.keys a0).take (Int.toNat wA)).drop 0).length) bT)
 (cond (Nat.ble ((([]:List BA)++(((ae.keys a0).take (Int.toNat wA)).drop 0)).length+1) bT)
 (cond ((decide ((0:Int)≤wA))&&(decide (wA≤((ae.kids a0).length:Int))))
 (cond (Nat.ble (0+(((ae.kids a0).take (Int.toNat wA)).drop 0).length) bT)
 (cond (ak (⟨(ae.kind a2),(ae.n a2),(ae.s a2),(ae.keys a2),(ae.kids a2)⟩:ae))
 (cond (Nat.ble ((([]:List ae)++(((ae.kids a0).take (Int.toNat wA)).drop 0)).length+1) bT)
 (cond ((decide ((0:Int)≤wA))&&((decide (wA≤((ae.keys a0).length:Int)))&&(decide (((ae.keys a0).length:Int)≤((ae.keys a0).length:Int)))))
 (cond (Nat.ble (((([]:List BA)++(((ae.keys a0).take (Int.toNat wA)).drop 0))++([a1]:List BA)).length+(((ae.keys a0).take (Int.toNat ((ae.keys a0).length:Int))).drop (Int.toNat wA)).length) bT)
 (cond ((decide ((0:Int)≤wA))&&((decide (wA≤((ae.kids a0).length:Int)))&&(decide (((ae.kids a0).length:Int)≤((ae.kids a0).length:Int)))))
 (cond (rY (Int.toNat wA) 0 (Int.toNat wA) 0)
 (cond (Nat.ble (((([]:List ae)++(((ae.kids a0).take (Int.toNat wA)).drop 0))++([(⟨(ae.kind a2),(ae.n a2),(ae.s a2),(ae.keys a2),(ae.kids a2)⟩:ae)]:List ae)).length+(((ae.kids a0).take (Int.toNat ((ae.kids a0).length:Int))).drop (Int.toNat wA)).length) bT)
 (k [.d .node (⟨(ae.kind a0),(ae.n a0),(ae.s a0),(((([]:List BA)++(((ae.keys a0).take (Int.toNat wA)).drop 0))++([a1]:List BA))++(((ae.keys a0).take (Int.toNat ((ae.keys a0).length:Int))).drop (Int.toNat wA))),(((([]:List ae)++(((ae.kids a0).take (Int.toNat wA)).drop 0))++([(⟨(ae.kind a2),(ae.n a2),(ae.s a2),(ae.keys a2),(ae.kids a2)⟩:ae)]:List ae))++(((ae.kids a0).take (Int.toNat ((ae.kids a0).length:Int))).drop (Int.toNat wA)))⟩:ae)])
 none)
 none)
 none)
 none)
 none)
 none)
 none)
 none)
 none)
 none)
 none)
 none)) a1 (ae.kind a0) (ae.n a0) (ae.s a0) (ae.keys a0) (ae.kids a0) (ae.kind a2) (ae.n a2) (ae.s a2) (ae.keys a2) (ae.kids a2) (ae.kind a0) (ae.n a0) (ae.s a0) (ae.keys a0) (ae.kids a0) n (0:Int)))
 none)))
 none):=by
  refine Eq.trans (b:=(cond (ak (eN a0))
  (cond ((ae.kind a0) !=(5:Int))
   (k [.d .node (eN a0)])
   (cond (((ae.keys a0).length:Int) !=((ae.kids a0).length:Int))
    (k [.d .node (eN a0)])
    (cond ((fun (x:ae) (_:BA)=>ak x) (eN a0) a1)
     (cond (decide ((dL (eN a0) a1)≥(0:Int)))
      (cond (ak (eN a2))
       (cond ((decide ((0:Int)≤(dL (eN a0) a1)))&&(decide ((dL (eN a0) a1)<((ae.kids a0).length:Int))))
        (k [.d .node (⟨(ae.kind a0),(ae.n a0),(ae.s a0),(ae.keys a0),((ae.kids a0).set (Int.toNat (dL (eN a0) a1)) (eN a2))⟩:ae)])
        none)
       none)
      (iter (fun st k=>ev Ad HJ n (bl [1,1,1,1,1,1,0,0,0] D2) st k) n (FO a1 (0:Int) (ae.kind a0) (ae.n a0) (ae.s a0) (ae.keys a0) (ae.kids a0) (ae.kind a2) (ae.n a2) (ae.s a2) (ae.keys a2) (ae.kids a2) (ae.kind a0) (ae.n a0) (ae.s a0) (ae.keys a0) (ae.kids a0)) (LN n (aC Ad [.ro,.ro,.ro] [false] true [.cell 6 35] [35] [.d .node a0,.d .str a1,.d .node a2] k))))
     none)))
  none)) (by kernel_rfl) ?_
  simp only [LM,LO,LP]
theorem LQ (a0:ae) (a1:BA) (a2:ae) (hg:zK a0 a1 a2=true):∃aJ rounds,∀ {R:Type} (k:Kt R),aM Ad aJ rounds D2 [.ro,.ro,.ro] [false] true [.cell 6 35] [35] [.d .node a0,.d .str a1,.d .node a2] k=k [.d .node (fa a0 a1 a2)]:=by
 have Ub:=hg
 simp only [zK,Bool.and_eq_true] at hg
 obtain ⟨hg,o8,o7⟩:=hg
 have pg:=hg
 rw [bY] at hg
 simp only [Bool.and_eq_true] at hg
 obtain ⟨_,_,_,ng,mL⟩:=hg
 have vS:=bp ng
 have xm:=bp mL
 refine ⟨HJ,a0.keys.length+1,fun {R} k=> ?_⟩
 rw [Rp]
 simp only [aT,bu,pg,o7,cond_true]
 show _=k [.d .node (fa a0 a1 a2)]
 cases h5:a0.kind==(5:Int)
 ·rw [show (a0.kind !=(5:Int))=true by simp only [bne,h5];rfl]
  unfold fa bM;rw [h5];rfl
 rw [show (a0.kind !=(5:Int))=false by simp only [bne,h5];rfl]
 cases hl:((a0.keys.length:Int)==(a0.kids.length:Int))
 ·rw [show ((a0.keys.length:Int) !=(a0.kids.length:Int))=true by simp only [bne,hl];rfl]
  unfold fa bM;rw [h5,hl];rfl
 rw [show ((a0.keys.length:Int) !=(a0.kids.length:Int))=false by simp only [bne,hl];rfl]
 have hm:bM a0=true:=by unfold bM;rw [h5,hl];rfl
 have hl:=(gj hm).2
 simp only [cond_false]
 by_cases hk:dL a0 a1<0
 ·rw [vp hm hk,decide_eq_false (show ¬(dL a0 a1≥0) by omega)]
  simp only [cond_false]
  refine Eq.trans (gi (n:=a0.keys.length) (F:=fun m i=>vW (a0.keys.length+1) _ _ a1 _ _ _ a0.keys a0.kids _ _ _ _ _ _ _ _ _ _ m i) (p:=fun j=> !(lq (ar (t:= .str) a0.keys j) a1)) (hit:=fun i=>k [.d .node (putKey a0 i a1 a2)]) (miss:=k [.d .node (putKey a0 (a0.keys.length:Int) a1 a2)])
   (fun m j hj=> ?_) (fun m=> ?_) a0.keys.length 0 (a0.keys.length+1) (by omega) (by omega)) ?_
  ·obtain ⟨h1,h0,hw,ht⟩:=idx hj (by omega)
   have d0:decide ((0:Int)≤(j:Int))=true:=decide_eq_true (by omega)
   have d1:decide ((j:Int)≤(a0.keys.length:Int))=true:=decide_eq_true (by omega)
   have d2:decide ((j:Int)≤(a0.kids.length:Int))=true:=decide_eq_true (by omega)
   have d6:decide ((a0.keys.length:Int)≤(a0.keys.length:Int))=true:=decide_eq_true (Int.le_refl _)
   have d7:decide ((a0.kids.length:Int)≤(a0.kids.length:Int))=true:=decide_eq_true (Int.le_refl _)
   simp only [vW,h1,h0,hw,ht,Bool.and_self,cond_true]
   cases lq (ar (t:= .str) a0.keys j) a1
   ·simp only [Bool.not_false,u4,d0,d1,d2,d6,d7,Int.toNat_natCast,List.drop_zero,List.take_length,List.nil_append,Hh vS,yg vS,rK vS,Hh xm,yg xm,rK xm,Bool.and_self,cond_true]
    rfl
   ·rfl
  ·have d0:decide ((0:Int)≤(a0.keys.length:Int))=true:=decide_eq_true (by omega)
   have d1:decide ((a0.keys.length:Int)≤(a0.keys.length:Int))=true:=decide_eq_true (by omega)
   have d2:decide ((a0.keys.length:Int)≤(a0.kids.length:Int))=true:=decide_eq_true (by omega)
   have d6:decide ((a0.keys.length:Int)≤(a0.keys.length:Int))=true:=decide_eq_true (Int.le_refl _)
   have d7:decide ((a0.kids.length:Int)≤(a0.kids.length:Int))=true:=decide_eq_true (Int.le_refl _)
   have e1:=Hh vS a0.keys.length
   have e2:=yg vS a0.keys.length
   have e3:=rK vS a0.keys.length a0.keys.length a1
   rw [List.take_length] at e1 e2 e3
   have e4:putKey a0 (a0.keys.length:Int) a1 a2=⟨a0.kind,a0.n,a0.s,a0.keys++[a1]++a0.keys.drop a0.keys.length,a0.kids.take a0.keys.length++[a2]++a0.kids.drop a0.keys.length⟩:=by
    unfold putKey lG;rw [Int.toNat_natCast,List.take_length]
   simp only [vW,gG,cond_false,e1,e2,e3,e4,u4,d0,d1,d2,d6,d7,Int.toNat_natCast,List.drop_zero,List.take_length,List.nil_append,Hh vS,yg vS,rK vS,Hh xm,yg xm,rK xm,Bool.and_self,cond_true]
  ·unfold oN
   cases cC (fun j=> !(lq (ar (t:= .str) a0.keys j) a1)) 0 a0.keys.length<;>rfl
 ·rw [vq hm hk,decide_eq_true (show dL a0 a1≥0 by omega)]
  obtain ⟨i,e,h1,h2⟩:=BG a0 a1 hk
  obtain ⟨i1,i0,_,_⟩:=idx h2 (by omega)
  simp only [aT,bu,e,i0,i1,Bool.and_self,cond_true]
  rfl
noncomputable def q93:Qt
 | [.d .node a0,.d .str a1,.d .node a2]=>some ((zK a0 a1 a2),[.d .node (fa a0 a1 a2)])
 | _=>none
noncomputable def Uc:Gm.Spec:=Gm.Spec.of [.ro,.ro,.ro] [false] true q93
theorem Ae:Gm.Good Tryd.prog (93,Uc):=by
 have hl:∀x∈[(57,HI),(89,s89)],Gm.Good Tryd.prog x:=bJ.2 ⟨rT,bJ.2 ⟨Lq,im⟩⟩
 refine ⟨⟨aK (aV.env hl) (b9.cF hl) Tryd.func93 (by kernel_rfl:Tryd.f93.body=some D2) [35] (by kernel_rfl) ?_,_,Tryd.func93,by kernel_rfl,of_decide_eq_true (by kernel_rfl)⟩,Gm.Spec.aB _ _ _ _⟩
 intro ds outs h
 unfold q93 at h
 split at h
 ·simp only [Option.some.injEq,Prod.mk.injEq] at h;obtain ⟨hg,h⟩:=h;cases h;exact LQ _ _ _ hg
 ·cases h
noncomputable def LR:Code:=(Tryd.f109.body).getD .skip
def Ud:Nat→Kp:=fT [⟨[1,3,5,6],[],[],[]⟩,⟨[1,5,6,7],[],[],[]⟩,⟨[1,5,6,7,8],[],[],[]⟩,⟨[1,6,7,8],[],[],[]⟩,⟨[6,7],[],[],[]⟩,⟨[6],[],[],[]⟩]
noncomputable def Ue:Env:=b9.env [(57,HI)]
theorem LS {R:Type} (n:Nat) (k:Kt R) (a0:ae) (a1:Int) (a2:ae):aM Ue Ud n LR [.ro,.ro,.ro] [false] true [.cell 6 35] [35] [.d .node a0,.d (.i .i64) a1,.d .node a2] k=
 (cond (ak (eN a0))
 (cond ((decide ((0:Int)≤a1))&&(decide (a1≤((ae.kids a0).length:Int))))
 (cond (Nat.ble (0+(((ae.kids a0).take (Int.toNat a1)).drop 0).length) bT)
 (cond (ak (eN a2))
 (cond (Nat.ble ((([]:List ae)++(((ae.kids a0).take (Int.toNat a1)).drop 0)).length+1) bT)
 (cond ((decide ((0:Int)≤a1))&&((decide (a1≤((ae.kids a0).length:Int)))&&(decide (((ae.kids a0).length:Int)≤((ae.kids a0).length:Int)))))
 (cond (rY (Int.toNat a1) 0 (Int.toNat a1) 0)
 (cond (Nat.ble (((([]:List ae)++(((ae.kids a0).take (Int.toNat a1)).drop 0))++([(eN a2)]:List ae)).length+(((ae.kids a0).take (Int.toNat ((ae.kids a0).length:Int))).drop (Int.toNat a1)).length) bT)
 (k [.d .node (⟨(ae.kind a0),(ae.n a0),(ae.s a0),(ae.keys a0),(((([]:List ae)++(((ae.kids a0).take (Int.toNat a1)).drop 0))++([(eN a2)]:List ae))++(((ae.kids a0).take (Int.toNat ((ae.kids a0).length:Int))).drop (Int.toNat a1)))⟩:ae)])
 none)
 none)
 none)
 none)
 none)
 none)
 none)
 none):=by kernel_rfl
theorem HK (a0:ae) (a1:Int) (a2:ae) (hg:qA a0 a1 a2=true):∃aJ rounds,∀ {R:Type} (k:Kt R),aM Ue aJ rounds LR [.ro,.ro,.ro] [false] true [.cell 6 35] [35] [.d .node a0,.d (.i .i64) a1,.d .node a2] k=k [.d .node (dt a0 a1 a2)]:=by
 simp only [qA,Bool.and_eq_true] at hg
 obtain ⟨hg,o7,hi0,hi1⟩:=hg
 have hi0:0≤a1:=of_decide_eq_true hi0
 have hi1:a1≤(a0.kids.length:Int):=of_decide_eq_true hi1
 obtain ⟨i,rfl⟩:=Int.eq_ofNat_of_zero_le hi0
 have pg:=hg
 rw [bY] at hg
 simp only [Bool.and_eq_true] at hg
 obtain ⟨_,_,_,ng,mL⟩:=hg
 have vS:=bp ng
 have xm:=bp mL
 refine ⟨Ud,0,fun {R} k=> ?_⟩
 rw [LS]
 have d0:decide ((0:Int)≤(i:Int))=true:=decide_eq_true (by omega)
 have d2:decide ((i:Int)≤(a0.kids.length:Int))=true:=decide_eq_true (by omega)
 have d7:decide ((a0.kids.length:Int)≤(a0.kids.length:Int))=true:=decide_eq_true (Int.le_refl _)
 simp only [u4,aT,bu,pg,o7,d0,d2,d7,Int.toNat_natCast,List.drop_zero,List.take_length,List.nil_append,Hh xm,yg xm,rK xm,Bool.and_self,cond_true]
 rfl
noncomputable def aak:Qt
 | [.d .node a0,.d (.i .i64) a1,.d .node a2]=>some ((qA a0 a1 a2),[.d .node (dt a0 a1 a2)])
 | _=>none
noncomputable def Wm:Gm.Spec:=Gm.Spec.of [.ro,.ro,.ro] [false] true aak
theorem Rq:Gm.Good Tryd.prog (109,Wm):=by
 have hl:∀x∈[(57,HI)],Gm.Good Tryd.prog x:=bJ.2 ⟨rT,im⟩
 refine ⟨⟨aK (aV.env hl) (b9.cF hl) Tryd.func109 (by kernel_rfl:Tryd.f109.body=some LR) [35] (by kernel_rfl) ?_,_,Tryd.func109,by kernel_rfl,of_decide_eq_true (by kernel_rfl)⟩,Gm.Spec.aB _ _ _ _⟩
 intro ds outs h
 unfold aak at h
 split at h
 ·simp only [Option.some.injEq,Prod.mk.injEq] at h;obtain ⟨hg,h⟩:=h;cases h;exact HK _ _ _ hg
 ·cases h
noncomputable def yy (y0:BA) (y1:Int) (y2:Int) (y3:Int) (y4:BA) (y5:List BA) (y6:List ae) (y7:Int) (y8:Int) (y9:BA) (fc:List BA) (fE:List ae):St:=⟨[(1,.c (.one (.v (.string y0)))),(3,.c (.one (.pt 3 0))),(5,.c (.one (.pt 5 0))),(6,.c (.one (.pt 6 0))),(8,.c (.one (.v (.int .i64 y1))))],[(3,⟨.node,[.v (.int .i64 y2),.v (.int .i64 y3),.v (.string y4),.ro .str y5,.ro .node y6]⟩),(5,⟨.node,[.v (.int .i64 y7),.v (.int .i64 y8),.v (.string y9),.ro .str fc,.ro .node fE]⟩),(6,⟨.node,[.v (.int .i64 (0:Int)),.v (.int .i64 (0:Int)),.v (.string ByteArray.empty),.nl,.nl]⟩)],[]⟩
noncomputable def FP (y1:Int) (y2:Int) (y3:BA) (y4:List BA) (y5:List ae):St:=⟨[(6,.c (.one (.pt 6 0))),(7,.c (.one (.v (.bool true))))],[(6,⟨.node,[.v (.int .i64 y1),.v (.int .i64 y2),.v (.string y3),.h 3520 0 0 [],.h 3521 0 0 []]⟩)],[(3520,.live ⟨.str,.deep,0,[],y4⟩),(3521,.live ⟨.node,.deep,0,[],y5⟩)]⟩
noncomputable def LU (y0:BA) (y1:Int) (y2:Bool) (y3:Int) (y4:Int) (y5:BA) (y6:List BA) (y7:List ae) (y8:Int) (y9:Int) (fc:BA) (fE:List BA) (iN:List ae):St:=⟨[(1,.c (.one (.v (.string y0)))),(3,.c (.one (.pt 3 0))),(5,.c (.one (.pt 5 0))),(6,.c (.one (.pt 6 0))),(8,.c (.one (.v (.int .i64 y1)))),(34,.c (.one (.v (.bool y2))))],[(3,⟨.node,[.v (.int .i64 y3),.v (.int .i64 y4),.v (.string y5),.ro .str y6,.ro .node y7]⟩),(5,⟨.node,[.v (.int .i64 y8),.v (.int .i64 y9),.v (.string fc),.ro .str fE,.ro .node iN]⟩),(6,⟨.node,[.v (.int .i64 (0:Int)),.v (.int .i64 (0:Int)),.v (.string ByteArray.empty),.nl,.nl]⟩)],[]⟩
noncomputable def Ce:Code:=(Tryd.f95.body).getD .skip
def D3:Nat→Kp:=fT [⟨[1,3,5,6],[],[],[]⟩,⟨[1,3,5,6,20],[],[],[]⟩,⟨[6,7],[],[],[]⟩,⟨[1,3,5,6,27],[],[],[]⟩,⟨[6,7],[],[],[]⟩,⟨[1,3,5,6,8],[],[],[]⟩,⟨[1,3,5,6,8,34],[],[],[]⟩,⟨[1,3,5,6,8],[],[],[]⟩,⟨[1,3,5,6,8,51],[],[],[]⟩,⟨[6,7],[],[],[]⟩,⟨[6,7],[],[],[]⟩]
noncomputable def vX:Env:=b9.env [(57,HI),(64,Wb),(93,Uc),(109,Wm)]
noncomputable def qQ {R:Type} (n:Nat) (x0:Int→Int→BA→(List BA)→(List ae)→Option R) (x1:Int→Bool→Option R) (wM:BA) (wJ:Int) (wK:Int) (wL:BA) (wC:List BA) (wD:List ae) (wE:Int) (wF:Int) (wG:BA) (wH:List BA) (wI:List ae):Nat→Int→Option R
  | 0,_=>none
  | m+1,wB=>
    (cond (decide (wB≤(wD.length:Int)))
   (cond (gL wB)
    (cond (eC (cj wB) wM)
     (cond (qA (⟨wJ,wK,wL,wC,wD⟩:ae) wB (⟨wE,wF,wG,wH,wI⟩:ae))
      (x0 (ae.kind (dt (⟨wJ,wK,wL,wC,wD⟩:ae) wB (⟨wE,wF,wG,wH,wI⟩:ae))) (ae.n (dt (⟨wJ,wK,wL,wC,wD⟩:ae) wB (⟨wE,wF,wG,wH,wI⟩:ae))) (ae.s (dt (⟨wJ,wK,wL,wC,wD⟩:ae) wB (⟨wE,wF,wG,wH,wI⟩:ae))) (ae.keys (dt (⟨wJ,wK,wL,wC,wD⟩:ae) wB (⟨wE,wF,wG,wH,wI⟩:ae))) (ae.kids (dt (⟨wJ,wK,wL,wC,wD⟩:ae) wB (⟨wE,wF,wG,wH,wI⟩:ae))))
      none)
     (cond (eC wM (bs [45]))
      (cond (wB==(wD.length:Int))
       (cond (qA (⟨wJ,wK,wL,wC,wD⟩:ae) wB (⟨wE,wF,wG,wH,wI⟩:ae))
        (x0 (ae.kind (dt (⟨wJ,wK,wL,wC,wD⟩:ae) wB (⟨wE,wF,wG,wH,wI⟩:ae))) (ae.n (dt (⟨wJ,wK,wL,wC,wD⟩:ae) wB (⟨wE,wF,wG,wH,wI⟩:ae))) (ae.s (dt (⟨wJ,wK,wL,wC,wD⟩:ae) wB (⟨wE,wF,wG,wH,wI⟩:ae))) (ae.keys (dt (⟨wJ,wK,wL,wC,wD⟩:ae) wB (⟨wE,wF,wG,wH,wI⟩:ae))) (ae.kids (dt (⟨wJ,wK,wL,wC,wD⟩:ae) wB (⟨wE,wF,wG,wH,wI⟩:ae))))
        none)
       (qQ n x0 x1 wM wJ wK wL wC wD wE wF wG wH wI m (IntKind.wrap .i64 (wB+(1:Int)))))
      (qQ n x0 x1 wM wJ wK wL wC wD wE wF wG wH wI m (IntKind.wrap .i64 (wB+(1:Int))))))
    none)
   (x1 wB (decide (wB≤(wD.length:Int)))))
theorem Rr {R:Type} (n:Nat) (k':Kx R) (wM:BA) (wB:Int) (wJ:Int) (wK:Int) (wL:BA) (wC:List BA) (wD:List ae) (wE:Int) (wF:Int) (wG:BA) (wH:List BA) (wI:List ae):ev vX D3 n (bl [1,1,1,0,1,0,0] Ce) (yy wM wB wJ wK wL wC wD wE wF wG wH wI) k'=
 (cond (decide (wB≤(wD.length:Int)))
 (cond (gL wB)
 (cond (eC (cj wB) wM)
 (cond (qA (⟨wJ,wK,wL,wC,wD⟩:ae) wB (⟨wE,wF,wG,wH,wI⟩:ae))
 (k' .ret (FP (ae.kind (dt (⟨wJ,wK,wL,wC,wD⟩:ae) wB (⟨wE,wF,wG,wH,wI⟩:ae))) (ae.n (dt (⟨wJ,wK,wL,wC,wD⟩:ae) wB (⟨wE,wF,wG,wH,wI⟩:ae))) (ae.s (dt (⟨wJ,wK,wL,wC,wD⟩:ae) wB (⟨wE,wF,wG,wH,wI⟩:ae))) (ae.keys (dt (⟨wJ,wK,wL,wC,wD⟩:ae) wB (⟨wE,wF,wG,wH,wI⟩:ae))) (ae.kids (dt (⟨wJ,wK,wL,wC,wD⟩:ae) wB (⟨wE,wF,wG,wH,wI⟩:ae)))))
 none)
 (cond (eC wM (bs [45]))
 (cond (wB==(wD.length:Int))
 (cond (qA (⟨wJ,wK,wL,wC,wD⟩:ae) wB (⟨wE,wF,wG,wH,wI⟩:ae))
 (k' .ret (FP (ae.kind (dt (⟨wJ,wK,wL,wC,wD⟩:ae) wB (⟨wE,wF,wG,wH,wI⟩:ae))) (ae.n (dt (⟨wJ,wK,wL,wC,wD⟩:ae) wB (⟨wE,wF,wG,wH,wI⟩:ae))) (ae.s (dt (⟨wJ,wK,wL,wC,wD⟩:ae) wB (⟨wE,wF,wG,wH,wI⟩:ae))) (ae.keys (dt (⟨wJ,wK,wL,wC,wD⟩:ae) wB (⟨wE,wF,wG,wH,wI⟩:ae))) (ae.kids (dt (⟨wJ,wK,wL,wC,wD⟩:ae) wB (⟨wE,wF,wG,wH,wI⟩:ae)))))
 none)
 (k' .normal (yy wM (IntKind.wrap .i64 (wB+(1:Int))) wJ wK wL wC wD wE wF wG wH wI)))
 (k' .normal (yy wM (IntKind.wrap .i64 (wB+(1:Int))) wJ wK wL wC wD wE wF wG wH wI))))
 none)
 (k' (.exit 0) (LU wM wB (decide (wB≤(wD.length:Int))) wJ wK wL wC wD wE wF wG wH wI))):=by kernel_rfl
theorem LV {R:Type} (n:Nat) (k':Kx R) (wM:BA) (wJ:Int) (wK:Int) (wL:BA) (wC:List BA) (wD:List ae) (wE:Int) (wF:Int) (wG:BA) (wH:List BA) (wI:List ae):∀(m:Nat) (wB:Int),iter (fun st k=>ev vX D3 n (bl [1,1,1,0,1,0,0] Ce) st k) m (yy wM wB wJ wK wL wC wD wE wF wG wH wI) k'=qQ n (fun (wS:Int) (wT:Int) (wU:BA) (wV:List BA) (wW:List ae)=>k' .ret (FP wS wT wU wV wW)) (fun (wA:Int) (wX:Bool)=>k' (.exit 0) (LU wM wA wX wJ wK wL wC wD wE wF wG wH wI)) wM wJ wK wL wC wD wE wF wG wH wI m wB:=by
 intro m;induction m with
 | zero=>intros;rfl
 | succ m ih=>
  intro wB
  simp only [iter]
  rw [Rr]
  simp only [ih,qQ]
noncomputable def FQ {R:Type} (n:Nat) (k':Kx R):Kx R:=(bZ 0 (dS vX D3 n (bl [1,1,1,1] Ce) k'))
theorem LW {R:Type} (n:Nat) (k:Kt R) (a0:ae) (a1:BA) (a2:ae) (wS:Int) (wT:Int) (wU:BA) (wV:List BA) (wW:List ae):FQ n (aC vX [.ro,.ro,.ro] [false,false] true [.cell 6 35,.tmp 7] [35,4] [.d .node a0,.d .str a1,.d .node a2] k) .ret (FP wS wT wU wV wW)=
 (k [.d .node (⟨wS,wT,wU,wV,wW⟩:ae),.d .bool true]):=by kernel_rfl
theorem LX {R:Type} (n:Nat) (k:Kt R) (a0:ae) (a1:BA) (a2:ae) (wM:BA) (wJ:Int) (wK:Int) (wL:BA) (wC:List BA) (wD:List ae) (wE:Int) (wF:Int) (wG:BA) (wH:List BA) (wI:List ae) (wA:Int) (wX:Bool):FQ n (aC vX [.ro,.ro,.ro] [false,false] true [.cell 6 35,.tmp 7] [35,4] [.d .node a0,.d .str a1,.d .node a2] k) (.exit 0) (LU wM wA wX wJ wK wL wC wD wE wF wG wH wI)=
 (cond (ak (⟨wJ,wK,wL,wC,wD⟩:ae))
 (k [.d .node (⟨wJ,wK,wL,wC,wD⟩:ae),.d .bool false])
 none):=by kernel_rfl
theorem Rs {R:Type} (n:Nat) (k:Kt R) (a0:ae) (a1:BA) (a2:ae):aM vX D3 n Ce [.ro,.ro,.ro] [false,false] true [.cell 6 35,.tmp 7] [35,4] [.d .node a0,.d .str a1,.d .node a2] k=
 (cond ((ae.kind a0)==(5:Int))
 (cond (((ae.keys a0).length:Int)==((ae.kids a0).length:Int))
 (cond (zK (eN a0) a1 (eN a2))
 (k [.d .node (eN (fa (eN a0) a1 (eN a2))),.d .bool true])
 none)
 (cond ((ae.kind a0) !=(4:Int))
 (cond (ak (eN a0))
 (k [.d .node (eN a0),.d .bool false])
 none)
 (qQ n (fun (wS:Int) (wT:Int) (wU:BA) (wV:List BA) (wW:List ae)=>
 (k [.d .node (⟨wS,wT,wU,wV,wW⟩:ae),.d .bool true])) (fun (wA:Int) (wX:Bool)=>
 (cond (ak (⟨(ae.kind a0),(ae.n a0),(ae.s a0),(ae.keys a0),(ae.kids a0)⟩:ae))
 (k [.d .node (eN a0),.d .bool false])
 none)) a1 (ae.kind a0) (ae.n a0) (ae.s a0) (ae.keys a0) (ae.kids a0) (ae.kind a2) (ae.n a2) (ae.s a2) (ae.keys a2) (ae.kids a2) n (0:Int))))
 (cond ((ae.kind a0) !=(4:Int))
 (cond (ak (eN a0))
 (k [.d .node (eN a0),.d .bool false])
 none)
 (qQ n (fun (wS:Int) (wT:Int) (wU:BA) (wV:List BA) (wW:List ae)=>
 (k [.d .node (⟨wS,wT,wU,wV,wW⟩:ae),.d .bool true])) (fun (wA:Int) (wX:Bool)=>
 (cond (ak (⟨(ae.kind a0),(ae.n a0),(ae.s a0),(ae.keys a0),(ae.kids a0)⟩:ae))
 (k [.d .node (eN a0),.d .bool false])
 none)) a1 (ae.kind a0) (ae.n a0) (ae.s a0) (ae.keys a0) (ae.kids a0) (ae.kind a2) (ae.n a2) (ae.s a2) (ae.keys a2) (ae.kids a2) n (0:Int)))):=by
  refine Eq.trans (b:=(cond ((ae.kind a0)==(5:Int))
  (cond (((ae.keys a0).length:Int)==((ae.kids a0).length:Int))
   (cond (zK (eN a0) a1 (eN a2))
    (k [.d .node (eN (fa (eN a0) a1 (eN a2))),.d .bool true])
    none)
   (cond ((ae.kind a0) !=(4:Int))
    (cond (ak (eN a0))
     (k [.d .node (eN a0),.d .bool false])
     none)
    (iter (fun st k=>ev vX D3 n (bl [1,1,1,0,1,0,0] Ce) st k) n (yy a1 (0:Int) (ae.kind a0) (ae.n a0) (ae.s a0) (ae.keys a0) (ae.kids a0) (ae.kind a2) (ae.n a2) (ae.s a2) (ae.keys a2) (ae.kids a2)) (FQ n (aC vX [.ro,.ro,.ro] [false,false] true [.cell 6 35,.tmp 7] [35,4] [.d .node a0,.d .str a1,.d .node a2] k)))))
  (cond ((ae.kind a0) !=(4:Int))
   (cond (ak (eN a0))
    (k [.d .node (eN a0),.d .bool false])
    none)
   (iter (fun st k=>ev vX D3 n (bl [1,1,1,0,1,0,0] Ce) st k) n (yy a1 (0:Int) (ae.kind a0) (ae.n a0) (ae.s a0) (ae.keys a0) (ae.kids a0) (ae.kind a2) (ae.n a2) (ae.s a2) (ae.keys a2) (ae.kids a2)) (FQ n (aC vX [.ro,.ro,.ro] [false,false] true [.cell 6 35,.tmp 7] [35,4] [.d .node a0,.d .str a1,.d .node a2] k)))))) (by kernel_rfl) ?_
  simp only [LV,LW,LX]
theorem LY (a0:ae) (a1:BA) (a2:ae) (hg:zK a0 a1 a2=true):∃aJ rounds,∀ {R:Type} (k:Kt R),aM vX aJ rounds Ce [.ro,.ro,.ro] [false,false] true [.cell 6 35,.tmp 7] [35,4] [.d .node a0,.d .str a1,.d .node a2] k=k [.d .node ((qB a0 a1 a2).1),.d .bool ((qB a0 a1 a2).2)]:=by
 have Ub:=hg
 simp only [zK,Bool.and_eq_true] at hg
 obtain ⟨hg,o8,o7⟩:=hg
 have pg:=hg
 rw [bY] at hg
 simp only [Bool.and_eq_true] at hg
 obtain ⟨_,_,_,ng,mL⟩:=hg
 have vS:=bp ng
 have xm:=bp mL
 refine ⟨D3,a0.kids.length+2,fun {R} k=> ?_⟩
 rw [Rs]
 simp only [aT,bu,pg,Ub,cond_true]
 show _=k [.d .node (qB a0 a1 a2).1,.d .bool (qB a0 a1 a2).2]
 unfold qB
 rw [DC]
 unfold kX
 cases h5:a0.kind==(5:Int)
 rotate_left
 ·obtain ⟨n4,e4⟩:=adg h5
  cases hl:((a0.keys.length:Int)==(a0.kids.length:Int))
  ·rw [show bM a0=false by unfold bM;rw [h5,hl];rfl,n4,e4];rfl
  ·rw [show bM a0=true by unfold bM;rw [h5,hl];rfl];rfl
 rw [show bM a0=false by unfold bM;rw [h5];rfl]
 simp only [cond_false]
 cases h4:a0.kind==(4:Int)
 ·rw [show (a0.kind !=(4:Int))=true by simp only [bne,h4];rfl];rfl
 rw [show (a0.kind !=(4:Int))=false by simp only [bne,h4];rfl]
 simp only [cond_true,cond_false]
 refine Eq.trans (gi (n:=a0.kids.length+1) (F:=fun m i=>qQ (a0.kids.length+2) _ _ a1 _ _ _ _ a0.kids _ _ _ _ _ m i) (p:=Fh a1 a0.kids.length) (hit:=fun i=>k [.d .node (dt a0 i a2),.d .bool true]) (miss:=k [.d .node a0,.d .bool false])
  (fun m j hj=> ?_) (fun m=> ?_) (a0.kids.length+1) 0 (a0.kids.length+2) (by omega) (by omega)) ?_
 ·have h1:decide ((j:Int)≤(a0.kids.length:Int))=true:=decide_eq_true (by omega)
  have h2:gL (j:Int)=true:=kt (by omega) (by omega)
  have h3:qA a0 (j:Int) a2=true:=by
   simp only [qA,Bool.and_eq_true,decide_eq_true_eq];exact ⟨pg,o7,by omega,by omega⟩
  have hw:IntKind.wrap .i64 ((j:Int)+1)=((j+1:Nat):Int):=by rw [cu (by omega) (by omega)];rfl
  simp only [qQ,aT,bu,h1,h2,h3,hw,cond_true]
  unfold Fh
  rw [show eC a1 (bs [45])=eC a1 dash from rfl]
  cases eC (cj (j:Int)) a1
  ·cases eC a1 dash
   ·rfl
   ·cases ((j:Int)==(a0.kids.length:Int))<;>rfl
  ·rfl
 ·have h1:decide (((a0.kids.length+1:Nat):Int)≤(a0.kids.length:Int))=false:=decide_eq_false (by omega)
  simp only [qQ,h1,cond_false]
 ·unfold vn
  cases hf:cC (Fh a1 a0.kids.length) 0 (a0.kids.length+1) with
  | none=>rfl
  | some i=>
   rw [decide_eq_false (show ¬(zE (some i)<0) by show ¬((i:Int)<0);omega)]
   rfl
noncomputable def q95:Qt
 | [.d .node a0,.d .str a1,.d .node a2]=>some ((zK a0 a1 a2),[.d .node ((qB a0 a1 a2).1),.d .bool ((qB a0 a1 a2).2)])
 | _=>none
noncomputable def s95:Gm.Spec:=Gm.Spec.of [.ro,.ro,.ro] [false,false] true q95
theorem Wn:Gm.Good Tryd.prog (95,s95):=by
 have hl:∀x∈[(57,HI),(64,Wb),(93,Uc),(109,Wm)],Gm.Good Tryd.prog x:=bJ.2 ⟨rT,bJ.2 ⟨DW,bJ.2 ⟨Ae,bJ.2 ⟨Rq,im⟩⟩⟩⟩
 refine ⟨⟨aK (aV.env hl) (b9.cF hl) Tryd.func95 (by kernel_rfl:Tryd.f95.body=some Ce) [35,4] (by kernel_rfl) ?_,_,Tryd.func95,by kernel_rfl,of_decide_eq_true (by kernel_rfl)⟩,Gm.Spec.aB _ _ _ _⟩
 intro ds outs h
 unfold q95 at h
 split at h
 ·simp only [Option.some.injEq,Prod.mk.injEq] at h;obtain ⟨hg,h⟩:=h;cases h;exact LY _ _ _ hg
 ·cases h
noncomputable def q74:Qt
 | [.d .node a0,.d (.sl .str) a1,.d .node a2]=>some ((gP a0 a1 a2),[.d .node ((dC a0 a1 a2).1),.d .bool ((dC a0 a1 a2).2)])
 | _=>none
noncomputable def Wo:List Dt→Nat
 | [.d .node a0,.d (.sl .str) a1,.d .node a2]=>(fun (_:ae) (p:List BA) (_:ae)=>p.length) a0 a1 a2
 | _=>0
noncomputable def aal (N:Nat):Gm.Spec:=Gm.Spec.of [.ro,.ro,.ro] [false,false] true (nS Wo N q74)
noncomputable def Wp:Code:=(Tryd.f74.body).getD .skip
def aam:Nat→Kp:=fT [⟨[1,3,5,6],[],[],[]⟩,⟨[1,3,5,6,16],[],[],[]⟩,⟨[6,7],[],[],[]⟩,⟨[1,3,5,6,21],[],[],[]⟩,⟨[6,8,9],[],[],[]⟩,⟨[6,7],[],[],[]⟩,⟨[1,3,5,6,10],[],[],[]⟩,⟨[1,3,5,6,10,46],[],[],[]⟩,⟨[6,7],[],[],[]⟩,⟨[3,6,10,11,12],[],[],[]⟩,⟨[6,10,11,12,13],[],[],[]⟩,⟨[6,10,11,12,13,63],[],[],[]⟩,⟨[6,12,13],[],[],[]⟩,⟨[6,7],[],[],[]⟩]
noncomputable def Wq (N:Nat):Env:=b9.env [(57,HI),(74,aal N),(95,s95),(96,s96)]
noncomputable def Uf (a0:ae) (a1:List BA) (a2:ae):List ae:=
 ((ae.kids a0).set (Int.toNat (dq (eN a0) (ar (t:= .str) a1 0))) (eN ((dC (eN (ar (t:= .node) (ae.kids a0) (Int.toNat (dq (eN a0) (ar (t:= .str) a1 0))))) ((a1.take (Int.toNat (a1.length:Int))).drop 1) (eN a2)).1)))
theorem Ru {R:Type} (N:Nat) (n:Nat) (k:Kt R) (a0:ae) (a1:List BA) (a2:ae):aM (Wq N) aam n Wp [.ro,.ro,.ro] [false,false] true [.cell 6 35,.tmp 7] [35,4] [.d .node a0,.d (.sl .str) a1,.d .node a2] k=
 (cond ((a1.length:Int)==(0:Int))
 (cond (ak (eN a2))
 (k [.d .node (eN a2),.d .bool true])
 none)
 (cond ((a1.length:Int)==(1:Int))
 (cond (decide ((0:Int)<(a1.length:Int)))
 (cond (zK (eN a0) (ar (t:= .str) a1 0) (eN a2))
 (k [.d .node (eN ((qB (eN a0) (ar (t:= .str) a1 0) (eN a2)).1)),.d .bool ((qB (eN a0) (ar (t:= .str) a1 0) (eN a2)).2)])
 none)
 none)
 (cond (decide ((0:Int)<(a1.length:Int)))
 (cond ((fun (x:ae) (_:BA)=>ak x) (eN a0) (ar (t:= .str) a1 0))
 (cond (decide ((dq (eN a0) (ar (t:= .str) a1 0))<(0:Int)))
 (cond (ak (eN a0))
 (k [.d .node (eN a0),.d .bool false])
 none)
 (cond (decide ((dq (eN a0) (ar (t:= .str) a1 0))≥((ae.kids a0).length:Int)))
 (cond (ak (eN a0))
 (k [.d .node (eN a0),.d .bool false])
 none)
 (cond ((decide ((0:Int)≤(dq (eN a0) (ar (t:= .str) a1 0))))&&(decide ((dq (eN a0) (ar (t:= .str) a1 0))<((ae.kids a0).length:Int))))
 (cond ((decide ((1:Int)≤(a1.length:Int)))&&(decide ((a1.length:Int)≤(a1.length:Int))))
 (cond ((gP (eN (ar (t:= .node) (ae.kids a0) (Int.toNat (dq (eN a0) (ar (t:= .str) a1 0))))) ((a1.take (Int.toNat (a1.length:Int))).drop 1) (eN a2))&&(Nat.blt ((fun (_:ae) (p:List BA) (_:ae)=>p.length) (eN (ar (t:= .node) (ae.kids a0) (Int.toNat (dq (eN a0) (ar (t:= .str) a1 0))))) ((a1.take (Int.toNat (a1.length:Int))).drop 1) (eN a2)) N))
 (cond (ak (eN a0))
 (cond ((dC (eN (ar (t:= .node) (ae.kids a0) (Int.toNat (dq (eN a0) (ar (t:= .str) a1 0))))) ((a1.take (Int.toNat (a1.length:Int))).drop 1) (eN a2)).2)
 (cond ((decide ((0:Int)≤(dq (eN a0) (ar (t:= .str) a1 0))))&&(decide ((dq (eN a0) (ar (t:= .str) a1 0))<((ae.kids a0).length:Int))))
 (k [.d .node (⟨(ae.kind a0),(ae.n a0),(ae.s a0),(ae.keys a0),(Uf a0 a1 a2)⟩:ae),.d .bool ((dC (eN (ar (t:= .node) (ae.kids a0) (Int.toNat (dq (eN a0) (ar (t:= .str) a1 0))))) ((a1.take (Int.toNat (a1.length:Int))).drop 1) (eN a2)).2)])
 none)
 (k [.d .node (eN a0),.d .bool ((dC (eN (ar (t:= .node) (ae.kids a0) (Int.toNat (dq (eN a0) (ar (t:= .str) a1 0))))) ((a1.take (Int.toNat (a1.length:Int))).drop 1) (eN a2)).2)]))
 none)
 none)
 none)
 none)))
 none)
 none))):=by kernel_rfl
theorem LZ (N:Nat) (a0:ae) (a1:List BA) (a2:ae) (hg:gP a0 a1 a2=true) (hm:Wo [.d .node a0,.d (.sl .str) a1,.d .node a2]=N):∃aJ rounds,∀ {R:Type} (k:Kt R),aM (Wq N) aJ rounds Wp [.ro,.ro,.ro] [false,false] true [.cell 6 35,.tmp 7] [35,4] [.d .node a0,.d (.sl .str) a1,.d .node a2] k=k [.d .node ((dC a0 a1 a2).1),.d .bool ((dC a0 a1 a2).2)]:=by
 have hm:a1.length=N:=hm
 subst hm
 simp only [gP,Bool.and_eq_true] at hg
 obtain ⟨hg,hpa,o7⟩:=hg
 have pg:=hg
 rw [bY] at hg
 simp only [Bool.and_eq_true] at hg
 obtain ⟨_,_,_,ng,mL⟩:=hg
 have vS:=bp ng
 have xm:=bp mL
 refine ⟨aam,0,fun {R} k=> ?_⟩
 rw [Ru]
 show _=k [.d .node (dC a0 a1 a2).1,.d .bool (dC a0 a1 a2).2]
 match a1,hpa with
 | [],_=>
  simp only [aT,bu,o7]
  rfl
 | [p],hpa=>
  have l0:decide ((0:Int)<(([p]:List BA).length:Int))=true:=rfl
  have l5:ar (t:= .str) [p] 0=p:=rfl
  have l7:((([p]:List BA).length:Int)==(0:Int))=false:=rfl
  have l8:((([p]:List BA).length:Int)==(1:Int))=true:=rfl
  have Ub:zK a0 p a2=true:=by simp only [zK,Bool.and_eq_true];exact ⟨pg,BF hpa,o7⟩
  simp only [aT,bu,l0,l5,l7,l8,Ub,cond_true,cond_false]
  rfl
 | p::q::r,hpa=>
  have l0:decide ((0:Int)<((p::q::r).length:Int))=true:=decide_eq_true (by simp only [List.length_cons];omega)
  have l1:(((p::q::r).length:Int)==(1:Int))=false:=by rw [beq_eq_false_iff_ne];simp only [List.length_cons];omega
  have l2:decide ((1:Int)≤((p::q::r).length:Int))=true:=decide_eq_true (by simp only [List.length_cons];omega)
  have l3:decide (((p::q::r).length:Int)≤((p::q::r).length:Int))=true:=decide_eq_true (Int.le_refl _)
  have l4:((p::q::r).take (Int.toNat ((p::q::r).length:Int))).drop 1=q::r:=by rw [Int.toNat_natCast,List.take_length];rfl
  have l5:ar (t:= .str) (p::q::r) 0=p:=rfl
  have l6:Nat.blt (q::r).length (p::q::r).length=true:=by rw [Nat.blt_eq];simp only [List.length_cons];omega
  have l7:(((p::q::r).length:Int)==(0:Int))=false:=by rw [beq_eq_false_iff_ne];simp only [List.length_cons];omega
  have l8:decide (((p::q::r).length:Int)>(1:Int))=true:=decide_eq_true (by simp only [List.length_cons];omega)
  have hqr:gh c8 (q::r)=true:=BE hpa
  simp only [aT,bu,pg,l0,l1,l5,l7,cond_true,cond_false]
  by_cases hk:dq a0 p<0
  ·rw [Hi a0 p q r a2 hk,decide_eq_true hk];rfl
  rw [BI a0 p q r a2 hk]
  obtain ⟨i,e,h1⟩:=BH hk
  obtain ⟨i1,i0,hw,it⟩:=idx h1 (by omega)
  have d1:decide ((i:Int)≥(a0.kids.length:Int))=false:=decide_eq_false (by omega)
  have hx:=c9 (t:= .node) h1
  have HL:gP (ar (t:= .node) a0.kids i) (q::r) a2=true:=by
   simp only [gP,Bool.and_eq_true]
   exact ⟨iK pg (List.mem_of_getElem? hx),hqr,o7⟩
  simp only [decide_eq_false hk,Uf,aT,bu,l2,l3,l4,l5,l6,HL,e,i1,i0,it,d1,Bool.and_self,cond_true,cond_false]
  cases (dC (ar (t:= .node) a0.kids i) (q::r) a2).2<;>rfl
noncomputable def s74:Gm.Spec:=Gm.Spec.of [.ro,.ro,.ro] [false,false] true q74
theorem Wr:Gm.Good Tryd.prog (74,s74):=by
 refine ⟨⟨fU Wo fun N hr=> ?_,_,Tryd.func74,by kernel_rfl,of_decide_eq_true (by kernel_rfl)⟩,Gm.Spec.aB _ _ _ _⟩
 have hl:∀x∈[(57,HI),(74,aal N),(95,s95),(96,s96)],Gm.Good Tryd.prog x:=bJ.2 ⟨rT,bJ.2 ⟨⟨⟨hr,_,Tryd.func74,by kernel_rfl,of_decide_eq_true (by kernel_rfl)⟩,Gm.Spec.aB _ _ _ _⟩,bJ.2 ⟨Wn,bJ.2 ⟨Wi,im⟩⟩⟩⟩
 intro R
 refine aK (E:=Wq N) (aV.env hl) (b9.cF hl) Tryd.func74 (by kernel_rfl:Tryd.f74.body=some Wp) [35,4] (by kernel_rfl) ?_
 intro ds outs h
 obtain ⟨h,hm⟩:=cT h
 unfold q74 at h
 split at h
 ·simp only [Option.some.injEq,Prod.mk.injEq] at h;obtain ⟨hg,h⟩:=h;cases h;exact LZ N _ _ _ hg hm
 ·cases h
noncomputable def L0:Code:=(Tryd.f94.body).getD .skip
def Rv:Nat→Kp:=fT [⟨[0],[],[],[]⟩,⟨[0,2],[],[],[]⟩]
noncomputable def Rw:Env:=b9.env [(98,QU)]
theorem Rx {R:Type} (n:Nat) (k:Kt R) (a0:ai):aM Rw Rv n L0 [.bj] [false] true [.tmp 2] [9] [.d .cur a0] k=
 (cond (ey a0 ([(bs [97]),(bs [98]),(bs [110,97,109,101]),(bs [109,97,120]),(bs [120,32,121]),ByteArray.empty,(bs [97,58,98]),(bs [45])]:List BA))
 (k [.d .str ((bE a0 ([(bs [97]),(bs [98]),(bs [110,97,109,101]),(bs [109,97,120]),(bs [120,32,121]),ByteArray.empty,(bs [97,58,98]),(bs [45])]:List BA)).1),.d .cur ((bE a0 ([(bs [97]),(bs [98]),(bs [110,97,109,101]),(bs [109,97,120]),(bs [120,32,121]),ByteArray.empty,(bs [97,58,98]),(bs [45])]:List BA)).2)])
 none):=by kernel_rfl
def Ug (a0:ai) (o:BA×ai):Prop:=(fun _ o=>o.1.size≤4∧ay o.2=true) a0 o∧∃n:Nat,∀ {R:Type} (k:Kt R),aM Rw Rv n L0 [.bj] [false] true [.tmp 2] [9] [.d .cur a0] k=k [.d .str o.1,.d .cur o.2]
theorem Ws (a0:ai) (hg:ay a0=true):∃o:BA×ai,(fun _ o=>o.1.size≤4∧ay o.2=true) a0 o∧∃n:Nat,∀ {R:Type} (k:Kt R),aM Rw Rv n L0 [.bj] [false] true [.tmp 2] [9] [.d .cur a0] k=k [.d .str o.1,.d .cur o.2]:=by
 have hp:=ca (l:=([(bs [97]),(bs [98]),(bs [110,97,109,101]),(bs [109,97,120]),(bs [120,32,121]),ByteArray.empty,(bs [97,58,98]),(bs [45])]:List BA)) hg rfl
 obtain ⟨hm,g1⟩:=jh a0 _ hp
 have hz:=gw (List.all_eq_true.1 (show (([(bs [97]),(bs [98]),(bs [110,97,109,101]),(bs [109,97,120]),(bs [120,32,121]),ByteArray.empty,(bs [97,58,98]),(bs [45])]:List BA).all fun x=>Nat.ble x.size 4)=true from rfl) _ hm)
 refine ⟨(?adI,?adJ),?DO,0,?DP⟩
 case DP=>
  intro R k
  rw [Rx]
  simp only [hp,cond_true,cond_false,Bool.not_true,Bool.not_false]
  exact rfl
 case DO=>exact ⟨hz,g1⟩
theorem L2 (a0:ai):Nonempty {o:BA×ai // ay a0=true→Ug a0 o}:=by
 by_cases hg:ay a0=true
 ·obtain ⟨o,ho⟩:=Ws a0 hg
  exact ⟨⟨o,fun _=>ho⟩⟩
 ·exact ⟨⟨((zero .str),(zero .cur)),fun h=>absurd h hg⟩⟩
noncomputable def dn (a0:ai):BA×ai:=(Classical.choice (L2 a0)).val
theorem L3 (a0:ai) (hg:ay a0=true):Ug a0 (dn a0):=(Classical.choice (L2 a0)).property hg
theorem tq (a0:ai) (hg:ay a0=true):(fun _ o=>o.1.size≤4∧ay o.2=true) a0 (dn a0):=(L3 a0 hg).1
theorem jL (a0:ai) (hg:ay a0=true):ay (dn a0).2=true:=by
  have h:=tq a0 hg
  first | exact h | exact h.2 | exact h.2.2 | exact h.2.2.2
theorem L4 (a0:ai) (hg:ay a0=true):∃aJ rounds,∀ {R:Type} (k:Kt R),aM Rw aJ rounds L0 [.bj] [false] true [.tmp 2] [9] [.d .cur a0] k=k [.d .str ((dn a0).1),.d .cur ((dn a0).2)]:=by
 obtain ⟨n,hn⟩:=(L3 a0 hg).2
 exact ⟨Rv,n,hn⟩
noncomputable def q94:Qt
 | [.d .cur a0]=>some ((ay a0),[.d .str ((dn a0).1),.d .cur ((dn a0).2)])
 | _=>none
noncomputable def Uh:Gm.Spec:=Gm.Spec.of [.bj] [false] true q94
theorem Af:Gm.Good Tryd.prog (94,Uh):=by
 have hl:∀x∈[(98,QU)],Gm.Good Tryd.prog x:=bJ.2 ⟨zU,im⟩
 refine ⟨⟨aK (aV.env hl) (b9.cF hl) Tryd.func94 (by kernel_rfl:Tryd.f94.body=some L0) [9] (by kernel_rfl) ?_,_,Tryd.func94,by kernel_rfl,of_decide_eq_true (by kernel_rfl)⟩,Gm.Spec.aB _ _ _ _⟩
 intro ds outs h
 unfold q94 at h
 split at h
 ·simp only [Option.some.injEq,Prod.mk.injEq] at h;obtain ⟨hg,h⟩:=h;cases h;exact L4 _ hg
 ·cases h
noncomputable def Cf:Code:=(Tryd.f103.body).getD .skip
def FR:Nat→Kp:=fT [⟨[0],[],[],[]⟩,⟨[0,2],[],[],[]⟩]
noncomputable def FT:Env:=b9.env [(98,QU)]
theorem L5 {R:Type} (n:Nat) (k:Kt R) (a0:ai):aM FT FR n Cf [.bj] [false] true [.tmp 2] [9] [.d .cur a0] k=
 (cond (ey a0 ([ByteArray.empty,(bs [97]),(bs [119,101,98]),(bs [116,114,117,101]),(bs [49,50]),(bs [115,97,121,32,34,110,111,34]),(bs [98,97,99,107,92]),(bs [97,58,32,98]),(bs [45,32,120]),(bs [35]),(bs [53,109]),(bs [110,117,108,108]),(bs [32,120])]:List BA))
 (k [.d .str ((bE a0 ([ByteArray.empty,(bs [97]),(bs [119,101,98]),(bs [116,114,117,101]),(bs [49,50]),(bs [115,97,121,32,34,110,111,34]),(bs [98,97,99,107,92]),(bs [97,58,32,98]),(bs [45,32,120]),(bs [35]),(bs [53,109]),(bs [110,117,108,108]),(bs [32,120])]:List BA)).1),.d .cur ((bE a0 ([ByteArray.empty,(bs [97]),(bs [119,101,98]),(bs [116,114,117,101]),(bs [49,50]),(bs [115,97,121,32,34,110,111,34]),(bs [98,97,99,107,92]),(bs [97,58,32,98]),(bs [45,32,120]),(bs [35]),(bs [53,109]),(bs [110,117,108,108]),(bs [32,120])]:List BA)).2)])
 none):=by kernel_rfl
def L6 (a0:ai) (o:BA×ai):Prop:=(fun _ o=>o.1.size≤8∧ay o.2=true) a0 o∧∃n:Nat,∀ {R:Type} (k:Kt R),aM FT FR n Cf [.bj] [false] true [.tmp 2] [9] [.d .cur a0] k=k [.d .str o.1,.d .cur o.2]
theorem Ry (a0:ai) (hg:ay a0=true):∃o:BA×ai,(fun _ o=>o.1.size≤8∧ay o.2=true) a0 o∧∃n:Nat,∀ {R:Type} (k:Kt R),aM FT FR n Cf [.bj] [false] true [.tmp 2] [9] [.d .cur a0] k=k [.d .str o.1,.d .cur o.2]:=by
 have hp:=ca (l:=([ByteArray.empty,(bs [97]),(bs [119,101,98]),(bs [116,114,117,101]),(bs [49,50]),(bs [115,97,121,32,34,110,111,34]),(bs [98,97,99,107,92]),(bs [97,58,32,98]),(bs [45,32,120]),(bs [35]),(bs [53,109]),(bs [110,117,108,108]),(bs [32,120])]:List BA)) hg rfl
 obtain ⟨hm,g1⟩:=jh a0 _ hp
 have hz:=gw (List.all_eq_true.1 (show (([ByteArray.empty,(bs [97]),(bs [119,101,98]),(bs [116,114,117,101]),(bs [49,50]),(bs [115,97,121,32,34,110,111,34]),(bs [98,97,99,107,92]),(bs [97,58,32,98]),(bs [45,32,120]),(bs [35]),(bs [53,109]),(bs [110,117,108,108]),(bs [32,120])]:List BA).all fun x=>Nat.ble x.size 8)=true from rfl) _ hm)
 refine ⟨(?adI,?adJ),?DO,0,?DP⟩
 case DP=>
  intro R k
  rw [L5]
  simp only [hp,cond_true,cond_false,Bool.not_true,Bool.not_false]
  exact rfl
 case DO=>exact ⟨hz,g1⟩
theorem FU (a0:ai):Nonempty {o:BA×ai // ay a0=true→L6 a0 o}:=by
 by_cases hg:ay a0=true
 ·obtain ⟨o,ho⟩:=Ry a0 hg
  exact ⟨⟨o,fun _=>ho⟩⟩
 ·exact ⟨⟨((zero .str),(zero .cur)),fun h=>absurd h hg⟩⟩
noncomputable def kB (a0:ai):BA×ai:=(Classical.choice (FU a0)).val
theorem FV (a0:ai) (hg:ay a0=true):L6 a0 (kB a0):=(Classical.choice (FU a0)).property hg
theorem vY (a0:ai) (hg:ay a0=true):(fun _ o=>o.1.size≤8∧ay o.2=true) a0 (kB a0):=(FV a0 hg).1
theorem gT (a0:ai) (hg:ay a0=true):ay (kB a0).2=true:=by
  have h:=vY a0 hg
  first | exact h | exact h.2 | exact h.2.2 | exact h.2.2.2
theorem HM (a0:ai) (hg:ay a0=true):∃aJ rounds,∀ {R:Type} (k:Kt R),aM FT aJ rounds Cf [.bj] [false] true [.tmp 2] [9] [.d .cur a0] k=k [.d .str ((kB a0).1),.d .cur ((kB a0).2)]:=by
 obtain ⟨n,hn⟩:=(FV a0 hg).2
 exact ⟨FR,n,hn⟩
noncomputable def aao:Qt
 | [.d .cur a0]=>some ((ay a0),[.d .str ((kB a0).1),.d .cur ((kB a0).2)])
 | _=>none
noncomputable def Rz:Gm.Spec:=Gm.Spec.of [.bj] [false] true aao
theorem FW:Gm.Good Tryd.prog (103,Rz):=by
 have hl:∀x∈[(98,QU)],Gm.Good Tryd.prog x:=bJ.2 ⟨zU,im⟩
 refine ⟨⟨aK (aV.env hl) (b9.cF hl) Tryd.func103 (by kernel_rfl:Tryd.f103.body=some Cf) [9] (by kernel_rfl) ?_,_,Tryd.func103,by kernel_rfl,of_decide_eq_true (by kernel_rfl)⟩,Gm.Spec.aB _ _ _ _⟩
 intro ds outs h
 unfold aao at h
 split at h
 ·simp only [Option.some.injEq,Prod.mk.injEq] at h;obtain ⟨hg,h⟩:=h;cases h;exact HM _ hg
 ·cases h
noncomputable def Wt:Code:=(Tryd.f99.body).getD .skip
def aap:Nat→Kp:=fT [⟨[0,2],[],[],[]⟩,⟨[2],[],[],[]⟩]
noncomputable def aaq:Env:=b9.env [(88,Z6)]
theorem RA {R:Type} (n:Nat) (k:Kt R) (a0:Bool):aM aaq aap n Wt [.ro] [false] true [.cell 2 35] [35] [.d .bool a0] k=
 (k [.d .node (⟨(1:Int),(o3 a0),ByteArray.empty,([]:List BA),([]:List ae)⟩:ae)]):=by kernel_rfl
theorem L7 (a0:Bool):∃aJ rounds,∀ {R:Type} (k:Kt R),aM aaq aJ rounds Wt [.ro] [false] true [.cell 2 35] [35] [.d .bool a0] k=k [.d .node (vv a0)]:=by
 refine ⟨aap,0,fun {R} k=> ?_⟩
 rw [RA]
 rfl
noncomputable def q99:Qt
 | [.d .bool a0]=>some (true,[.d .node (vv a0)])
 | _=>none
noncomputable def s99:Gm.Spec:=Gm.Spec.of [.ro] [false] true q99
theorem L8:Gm.Good Tryd.prog (99,s99):=by
 have hl:∀x∈[(88,Z6)],Gm.Good Tryd.prog x:=bJ.2 ⟨KZ,im⟩
 refine ⟨⟨aK (aV.env hl) (b9.cF hl) Tryd.func99 (by kernel_rfl:Tryd.f99.body=some Wt) [35] (by kernel_rfl) ?_,_,Tryd.func99,by kernel_rfl,of_decide_eq_true (by kernel_rfl)⟩,Gm.Spec.aB _ _ _ _⟩
 intro ds outs h
 unfold q99 at h
 split at h
 ·cases h;exact L7 _
 ·cases h
noncomputable def L9:Code:=(Tryd.f100.body).getD .skip
def Ui:Nat→Kp:=fT [⟨[0,2],[],[],[]⟩,⟨[2],[],[],[]⟩]
noncomputable def Uj:Env:=b9.env []
theorem Ma {R:Type} (n:Nat) (k:Kt R) (a0:Int):aM Uj Ui n L9 [.ro] [false] true [.cell 2 35] [35] [.d (.i .i64) a0] k=
 (k [.d .node (⟨(2:Int),a0,ByteArray.empty,([]:List BA),([]:List ae)⟩:ae)]):=by kernel_rfl
theorem HN (a0:Int):∃aJ rounds,∀ {R:Type} (k:Kt R),aM Uj aJ rounds L9 [.ro] [false] true [.cell 2 35] [35] [.d (.i .i64) a0] k=k [.d .node (DG a0)]:=by
 refine ⟨Ui,0,fun {R} k=> ?_⟩
 rw [Ma]
 rfl
noncomputable def aar:Qt
 | [.d (.i .i64) a0]=>some (true,[.d .node (DG a0)])
 | _=>none
noncomputable def RB:Gm.Spec:=Gm.Spec.of [.ro] [false] true aar
theorem FX:Gm.Good Tryd.prog (100,RB):=by
 have hl:∀x∈([]:List (Nat×Gm.Spec)),Gm.Good Tryd.prog x:=fun _ h=>by cases h
 refine ⟨⟨aK (aV.env hl) (b9.cF hl) Tryd.func100 (by kernel_rfl:Tryd.f100.body=some L9) [35] (by kernel_rfl) ?_,_,Tryd.func100,by kernel_rfl,of_decide_eq_true (by kernel_rfl)⟩,Gm.Spec.aB _ _ _ _⟩
 intro ds outs h
 unfold aar at h
 split at h
 ·cases h;exact HN _
 ·cases h
noncomputable def Mb:Code:=(Tryd.f102.body).getD .skip
def Uk:Nat→Kp:=fT [⟨[0,2],[],[],[]⟩,⟨[2],[],[],[]⟩]
noncomputable def Ul:Env:=b9.env []
theorem Mc {R:Type} (n:Nat) (k:Kt R) (a0:BA):aM Ul Uk n Mb [.ro] [false] true [.cell 2 35] [35] [.d .str a0] k=
 (k [.d .node (⟨(3:Int),(0:Int),a0,([]:List BA),([]:List ae)⟩:ae)]):=by kernel_rfl
theorem HO (a0:BA):∃aJ rounds,∀ {R:Type} (k:Kt R),aM Ul aJ rounds Mb [.ro] [false] true [.cell 2 35] [35] [.d .str a0] k=k [.d .node (vx a0)]:=by
 refine ⟨Uk,0,fun {R} k=> ?_⟩
 rw [Mc]
 rfl
noncomputable def aas:Qt
 | [.d .str a0]=>some (true,[.d .node (vx a0)])
 | _=>none
noncomputable def RC:Gm.Spec:=Gm.Spec.of [.ro] [false] true aas
theorem FY:Gm.Good Tryd.prog (102,RC):=by
 have hl:∀x∈([]:List (Nat×Gm.Spec)),Gm.Good Tryd.prog x:=fun _ h=>by cases h
 refine ⟨⟨aK (aV.env hl) (b9.cF hl) Tryd.func102 (by kernel_rfl:Tryd.f102.body=some Mb) [35] (by kernel_rfl) ?_,_,Tryd.func102,by kernel_rfl,of_decide_eq_true (by kernel_rfl)⟩,Gm.Spec.aB _ _ _ _⟩
 intro ds outs h
 unfold aas at h
 split at h
 ·cases h;exact HO _
 ·cases h
def vZ (N:Nat) (b:Bool) (c:ai) (d:Int):Bool:=b&&(ay c&&(d==(N:Int)))
noncomputable def RD (F:ai→ae×ai) (N:Nat) (b:Bool):Qt
 | [.d .cur a0,.d (.i .i64) a1]=>some (vZ N b a0 a1,[.d .node (F a0).1,.d .cur (F a0).2])
 | _=>none
noncomputable def HP (F:ai→ae×ai) (N:Nat) (b:Bool):Gm.Spec:=Gm.Spec.of [.bj,.ro] [false] true (RD F N b)
noncomputable def yz (y0:Int) (y1:Int) (y2:Int) (y3:Int) (y4:List Int) (y5:Int) (y6:Int) (fc:Int) (fE:Int) (iN:BA) (ml:List BA) (o4:List ae):St:=⟨[(0,.c (.one (.pt 0 0))),(1,.c (.one (.v (.int .i64 y0)))),(4,.c (.one (.pt 4 0))),(5,.c (.one (.v (.int .i64 y1)))),(6,.c (.one (.pt 6 0))),(7,.c (.one (.v (.int .i64 y2)))),(8,.c (.one (.v (.int .i64 y3))))],[(0,⟨.cur,[.rk (.i .u8) y4,.v (.int .i64 y5),.v (.int .i64 y6)]⟩),(4,⟨.node,[.v (.int .i64 (0:Int)),.v (.int .i64 (0:Int)),.v (.string ByteArray.empty),.nl,.nl]⟩),(6,⟨.node,[.v (.int .i64 fc),.v (.int .i64 fE),.v (.string iN),.h 387 0 0 [],.h 388 0 0 []]⟩)],[(387,.live ⟨.str,.deep,0,[],ml⟩),(388,.live ⟨.node,.deep,0,[],o4⟩)]⟩
noncomputable def Me (y0:Int) (y1:Int) (y2:Int) (y3:Int) (y4:Bool) (y5:List Int) (y6:Int) (y7:Int) (fE:Int) (iN:Int) (ml:BA) (o4:List BA) (oq:List ae):St:=⟨[(0,.c (.one (.pt 0 0))),(1,.c (.one (.v (.int .i64 y0)))),(4,.c (.one (.pt 4 0))),(5,.c (.one (.v (.int .i64 y1)))),(6,.c (.one (.pt 6 0))),(7,.c (.one (.v (.int .i64 y2)))),(8,.c (.one (.v (.int .i64 y3)))),(42,.c (.one (.v (.bool y4))))],[(0,⟨.cur,[.rk (.i .u8) y5,.v (.int .i64 y6),.v (.int .i64 y7)]⟩),(4,⟨.node,[.v (.int .i64 (0:Int)),.v (.int .i64 (0:Int)),.v (.string ByteArray.empty),.nl,.nl]⟩),(6,⟨.node,[.v (.int .i64 fE),.v (.int .i64 iN),.v (.string ml),.h 387 0 0 [],.h 388 0 0 []]⟩)],[(387,.live ⟨.str,.deep,0,[],o4⟩),(388,.live ⟨.node,.deep,0,[],oq⟩)]⟩
noncomputable def s6:Code:=(Tryd.f76.body).getD .skip
def s7:Nat→Kp:=fT [⟨[0,1,4],[],[],[]⟩,⟨[0,1,4,5],[],[],[]⟩,⟨[0,1,4,5,13],[],[],[]⟩,⟨[0,1,4,5],[],[],[]⟩,⟨[0,1,4,5,16],[],[],[]⟩,⟨[0,1,4,5,16,17],[],[],[]⟩,⟨[0,4],[],[],[]⟩,⟨[0,1,4,5,16,20],[],[],[]⟩,⟨[0,4],[],[],[]⟩,⟨[0,1,4,5,16,25],[],[],[]⟩,⟨[0,4],[],[],[]⟩,⟨[0,1,4,5,31],[],[],[]⟩,⟨[0,4],[],[],[]⟩,⟨[0,1,4,5,6],[],[],[]⟩,⟨[0,1,4,5,6,7],[],[],[]⟩,⟨[0,1,4,5,6,7,8],[⟨true,false,6,3,.str⟩,⟨true,false,6,4,.node⟩],[],[]⟩,⟨[0,1,4,5,6,7,8,42],[],[],[]⟩,⟨[0,1,4,5,6,7,8],[],[],[(3520,387),(3521,388)]⟩,⟨[0,1,4,5,6,7,8,9],[],[],[]⟩,⟨[0,1,4,5,6,7,8,9,50],[],[],[]⟩,⟨[0,1,4,5,6,7,8],[],[],[]⟩,⟨[0,1,4,5,6,7,8],[],[],[]⟩,⟨[0,4],[],[],[]⟩]
noncomputable def pV (F:ai→ae×ai) (N:Nat) (b:Bool):Env:=b9.env [(72,Ip),(76,HP F N b),(86,Ay),(93,Uc),(94,Uh),(99,s99),(100,RB),(101,Hu),(102,RC),(103,Rz)]
noncomputable def ot {R:Type} (F:ai→ae×ai) (N:Nat) (b:Bool) (n:Nat) (x0:Int→Bool→(List Int)→Int→Int→Int→Int→BA→(List BA)→(List ae)→Option R) (wK:Int) (wL:Int) (wI:Int):Nat→Int→(List Int)→Int→Int→Int→Int→BA→(List BA)→(List ae)→Option R
  | 0,_,_,_,_,_,_,_,_,_=>none
  | m+1,wJ,wA,wB,wC,wE,wF,wG,wH,wD=>
    (cond (decide (wJ<wI))
   (cond (vZ N b (⟨wA,wB,wC⟩:ai) (IntKind.wrap .i64 (wK-(1:Int))))
    (cond (wL==(5:Int))
     (cond (ay ((F (⟨wA,wB,wC⟩:ai)).2))
      (cond (zK (⟨wE,wF,wG,wH,wD⟩:ae) ((dn ((F (⟨wA,wB,wC⟩:ai)).2)).1) (eN ((F (⟨wA,wB,wC⟩:ai)).1)))
       (ot F N b n x0 wK wL wI m (IntKind.wrap .i64 (wJ+(1:Int))) (ai.b ((dn ((F (⟨wA,wB,wC⟩:ai)).2)).2)) (ai.i ((dn ((F (⟨wA,wB,wC⟩:ai)).2)).2)) (ai.h ((dn ((F (⟨wA,wB,wC⟩:ai)).2)).2)) (ae.kind (fa (⟨wE,wF,wG,wH,wD⟩:ae) ((dn ((F (⟨wA,wB,wC⟩:ai)).2)).1) (eN ((F (⟨wA,wB,wC⟩:ai)).1)))) (ae.n (fa (⟨wE,wF,wG,wH,wD⟩:ae) ((dn ((F (⟨wA,wB,wC⟩:ai)).2)).1) (eN ((F (⟨wA,wB,wC⟩:ai)).1)))) (ae.s (fa (⟨wE,wF,wG,wH,wD⟩:ae) ((dn ((F (⟨wA,wB,wC⟩:ai)).2)).1) (eN ((F (⟨wA,wB,wC⟩:ai)).1)))) (ae.keys (fa (⟨wE,wF,wG,wH,wD⟩:ae) ((dn ((F (⟨wA,wB,wC⟩:ai)).2)).1) (eN ((F (⟨wA,wB,wC⟩:ai)).1)))) (ae.kids (fa (⟨wE,wF,wG,wH,wD⟩:ae) ((dn ((F (⟨wA,wB,wC⟩:ai)).2)).1) (eN ((F (⟨wA,wB,wC⟩:ai)).1)))))
       none)
      none)
     (cond (Nat.ble (wD.length+1) bT)
      (ot F N b n x0 wK wL wI m (IntKind.wrap .i64 (wJ+(1:Int))) (ai.b ((F (⟨wA,wB,wC⟩:ai)).2)) (ai.i ((F (⟨wA,wB,wC⟩:ai)).2)) (ai.h ((F (⟨wA,wB,wC⟩:ai)).2)) wE wF wG wH (wD++([(eN ((F (⟨wA,wB,wC⟩:ai)).1))]:List ae)))
      none))
    none)
   (x0 wJ (decide (wJ<wI)) wA wB wC wE wF wG wH wD))
theorem RE {R:Type} (F:ai→ae×ai) (N:Nat) (b:Bool) (n:Nat) (k':Kx R) (wK:Int) (wL:Int) (wI:Int) (wJ:Int) (wA:List Int) (wB:Int) (wC:Int) (wE:Int) (wF:Int) (wG:BA) (wH:List BA) (wD:List ae):ev (pV F N b) s7 n (bl [1,1,1,1,1,1,0,1,0,0] s6) (yz wK wL wI wJ wA wB wC wE wF wG wH wD) k'=
 (cond (decide (wJ<wI))
 (cond (vZ N b (⟨wA,wB,wC⟩:ai) (IntKind.wrap .i64 (wK-(1:Int))))
 (cond (wL==(5:Int))
 (cond (ay ((F (⟨wA,wB,wC⟩:ai)).2))
 (cond (zK (⟨wE,wF,wG,wH,wD⟩:ae) ((dn ((F (⟨wA,wB,wC⟩:ai)).2)).1) (eN ((F (⟨wA,wB,wC⟩:ai)).1)))
 (k' .normal (yz wK wL wI (IntKind.wrap .i64 (wJ+(1:Int))) (ai.b ((dn ((F (⟨wA,wB,wC⟩:ai)).2)).2)) (ai.i ((dn ((F (⟨wA,wB,wC⟩:ai)).2)).2)) (ai.h ((dn ((F (⟨wA,wB,wC⟩:ai)).2)).2)) (ae.kind (fa (⟨wE,wF,wG,wH,wD⟩:ae) ((dn ((F (⟨wA,wB,wC⟩:ai)).2)).1) (eN ((F (⟨wA,wB,wC⟩:ai)).1)))) (ae.n (fa (⟨wE,wF,wG,wH,wD⟩:ae) ((dn ((F (⟨wA,wB,wC⟩:ai)).2)).1) (eN ((F (⟨wA,wB,wC⟩:ai)).1)))) (ae.s (fa (⟨wE,wF,wG,wH,wD⟩:ae) ((dn ((F (⟨wA,wB,wC⟩:ai)).2)).1) (eN ((F (⟨wA,wB,wC⟩:ai)).1)))) (ae.keys (fa (⟨wE,wF,wG,wH,wD⟩:ae) ((dn ((F (⟨wA,wB,wC⟩:ai)).2)).1) (eN ((F (⟨wA,wB,wC⟩:ai)).1)))) (ae.kids (fa (⟨wE,wF,wG,wH,wD⟩:ae) ((dn ((F (⟨wA,wB,wC⟩:ai)).2)).1) (eN ((F (⟨wA,wB,wC⟩:ai)).1))))))
 none)
 none)
 (cond (Nat.ble (wD.length+1) bT)
 (k' .normal (yz wK wL wI (IntKind.wrap .i64 (wJ+(1:Int))) (ai.b ((F (⟨wA,wB,wC⟩:ai)).2)) (ai.i ((F (⟨wA,wB,wC⟩:ai)).2)) (ai.h ((F (⟨wA,wB,wC⟩:ai)).2)) wE wF wG wH (wD++([(eN ((F (⟨wA,wB,wC⟩:ai)).1))]:List ae))))
 none))
 none)
 (k' (.exit 1) (Me wK wL wI wJ (decide (wJ<wI)) wA wB wC wE wF wG wH wD))):=by kernel_rfl
theorem Mg {R:Type} (F:ai→ae×ai) (N:Nat) (b:Bool) (n:Nat) (k':Kx R) (wK:Int) (wL:Int) (wI:Int):∀(m:Nat) (wJ:Int) (wA:List Int) (wB:Int) (wC:Int) (wE:Int) (wF:Int) (wG:BA) (wH:List BA) (wD:List ae),iter (fun st k=>ev (pV F N b) s7 n (bl [1,1,1,1,1,1,0,1,0,0] s6) st k) m (yz wK wL wI wJ wA wB wC wE wF wG wH wD) k'=ot F N b n (fun (wU:Int) (wV:Bool) (wM:List Int) (wN:Int) (wO:Int) (wP:Int) (wQ:Int) (wR:BA) (wS:List BA) (wT:List ae)=>k' (.exit 1) (Me wK wL wI wU wV wM wN wO wP wQ wR wS wT)) wK wL wI m wJ wA wB wC wE wF wG wH wD:=by
 intro m;induction m with
 | zero=>intros;rfl
 | succ m ih=>
  intro wJ wA wB wC wE wF wG wH wD
  simp only [iter]
  rw [RE]
  simp only [ih,ot]
noncomputable def Mh {R:Type} (F:ai→ae×ai) (N:Nat) (b:Bool) (n:Nat) (k':Kx R):Kx R:=(bZ 1 (dS (pV F N b) s7 n (bl [1,1,1,1,1,1,1] s6) k'))
theorem Mi {R:Type} (F:ai→ae×ai) (N:Nat) (b:Bool) (n:Nat) (k:Kt R) (a0:ai) (a1:Int) (wK:Int) (wL:Int) (wI:Int) (wU:Int) (wV:Bool) (wM:List Int) (wN:Int) (wO:Int) (wP:Int) (wQ:Int) (wR:BA) (wS:List BA) (wT:List ae):Mh F N b n (aC (pV F N b) [.bj,.ro] [false] true [.cell 4 35] [35] [.d .cur a0,.d (.i .i64) a1] k) (.exit 1) (Me wK wL wI wU wV wM wN wO wP wQ wR wS wT)=
 (k [.d .node (⟨wP,wQ,wR,wS,wT⟩:ae),.d .cur (⟨wM,wN,wO⟩:ai)]):=by kernel_rfl
theorem jZ {R:Type} (F:ai→ae×ai) (N:Nat) (b:Bool) (n:Nat) (k:Kt R) (a0:ai) (a1:Int):aM (pV F N b) s7 n s6 [.bj,.ro] [false] true [.cell 4 35] [35] [.d .cur a0,.d (.i .i64) a1] k=
 (cond ((fun c _=>ay c) a0 (6:Int))
 (cond (a1==(0:Int))
 (cond ((fun c _=>ay c) ((ag a0 (6:Int)).2) (4:Int))
 (cond (((ag ((ag a0 (6:Int)).2) (4:Int)).1)==(0:Int))
 (k [.d .node (⟨(0:Int),(0:Int),ByteArray.empty,([]:List BA),([]:List ae)⟩:ae),.d .cur ((ag ((ag a0 (6:Int)).2) (4:Int)).2)])
 (cond (((ag ((ag a0 (6:Int)).2) (4:Int)).1)==(1:Int))
 (cond ((fun c _=>ay c) ((ag ((ag a0 (6:Int)).2) (4:Int)).2) (2:Int))
 (k [.d .node (eN (vv ((aj ((ag ((ag a0 (6:Int)).2) (4:Int)).2) (2:Int)).1))),.d .cur ((aj ((ag ((ag a0 (6:Int)).2) (4:Int)).2) (2:Int)).2)])
 none)
 (cond (((ag ((ag a0 (6:Int)).2) (4:Int)).1)==(2:Int))
 (cond (dW ((ag ((ag a0 (6:Int)).2) (4:Int)).2) ([(0:Int),(7:Int),(-3:Int),(1000:Int),(1000000000000:Int)]:List Int))
 (k [.d .node (eN (DG ((bf ((ag ((ag a0 (6:Int)).2) (4:Int)).2) ([(0:Int),(7:Int),(-3:Int),(1000:Int),(1000000000000:Int)]:List Int)).1))),.d .cur ((bf ((ag ((ag a0 (6:Int)).2) (4:Int)).2) ([(0:Int),(7:Int),(-3:Int),(1000:Int),(1000000000000:Int)]:List Int)).2)])
 none)
 (cond (((ag ((ag a0 (6:Int)).2) (4:Int)).1)==(3:Int))
 (cond (ay ((ag ((ag a0 (6:Int)).2) (4:Int)).2))
 (k [.d .node (eN (vx ((kB ((ag ((ag a0 (6:Int)).2) (4:Int)).2)).1))),.d .cur ((kB ((ag ((ag a0 (6:Int)).2) (4:Int)).2)).2)])
 none)
 (cond ((fun c _=>ay c) ((ag ((ag a0 (6:Int)).2) (4:Int)).2) (4:Int))
 (ot F N b n (fun (wU:Int) (wV:Bool) (wM:List Int) (wN:Int) (wO:Int) (wP:Int) (wQ:Int) (wR:BA) (wS:List BA) (wT:List ae)=>
 (k [.d .node (⟨wP,wQ,wR,wS,wT⟩:ae),.d .cur (⟨wM,wN,wO⟩:ai)])) a1 ((ag ((ag a0 (6:Int)).2) (4:Int)).1) ((ag ((ag ((ag a0 (6:Int)).2) (4:Int)).2) (4:Int)).1) n (0:Int) (ai.b ((ag ((ag ((ag a0 (6:Int)).2) (4:Int)).2) (4:Int)).2)) (ai.i ((ag ((ag ((ag a0 (6:Int)).2) (4:Int)).2) (4:Int)).2)) (ai.h ((ag ((ag ((ag a0 (6:Int)).2) (4:Int)).2) (4:Int)).2)) ((ag ((ag a0 (6:Int)).2) (4:Int)).1) (0:Int) ByteArray.empty ([]:List BA) ([]:List ae))
 none)))))
 none)
 (cond (((ag a0 (6:Int)).1)==(0:Int))
 (k [.d .node (⟨(0:Int),(0:Int),ByteArray.empty,([]:List BA),([]:List ae)⟩:ae),.d .cur ((ag a0 (6:Int)).2)])
 (cond (((ag a0 (6:Int)).1)==(1:Int))
 (cond ((fun c _=>ay c) ((ag a0 (6:Int)).2) (2:Int))
 (k [.d .node (eN (vv ((aj ((ag a0 (6:Int)).2) (2:Int)).1))),.d .cur ((aj ((ag a0 (6:Int)).2) (2:Int)).2)])
 none)
 (cond (((ag a0 (6:Int)).1)==(2:Int))
 (cond (dW ((ag a0 (6:Int)).2) ([(0:Int),(7:Int),(-3:Int),(1000:Int),(1000000000000:Int)]:List Int))
 (k [.d .node (eN (DG ((bf ((ag a0 (6:Int)).2) ([(0:Int),(7:Int),(-3:Int),(1000:Int),(1000000000000:Int)]:List Int)).1))),.d .cur ((bf ((ag a0 (6:Int)).2) ([(0:Int),(7:Int),(-3:Int),(1000:Int),(1000000000000:Int)]:List Int)).2)])
 none)
 (cond (((ag a0 (6:Int)).1)==(3:Int))
 (cond (ay ((ag a0 (6:Int)).2))
 (k [.d .node (eN (vx ((kB ((ag a0 (6:Int)).2)).1))),.d .cur ((kB ((ag a0 (6:Int)).2)).2)])
 none)
 (cond ((fun c _=>ay c) ((ag a0 (6:Int)).2) (4:Int))
 (ot F N b n (fun (wU:Int) (wV:Bool) (wM:List Int) (wN:Int) (wO:Int) (wP:Int) (wQ:Int) (wR:BA) (wS:List BA) (wT:List ae)=>
 (k [.d .node (⟨wP,wQ,wR,wS,wT⟩:ae),.d .cur (⟨wM,wN,wO⟩:ai)])) a1 ((ag a0 (6:Int)).1) ((ag ((ag a0 (6:Int)).2) (4:Int)).1) n (0:Int) (ai.b ((ag ((ag a0 (6:Int)).2) (4:Int)).2)) (ai.i ((ag ((ag a0 (6:Int)).2) (4:Int)).2)) (ai.h ((ag ((ag a0 (6:Int)).2) (4:Int)).2)) ((ag a0 (6:Int)).1) (0:Int) ByteArray.empty ([]:List BA) ([]:List ae))
 none))))))
 none):=by
  refine Eq.trans (b:=(cond ((fun c _=>ay c) a0 (6:Int))
  (cond (a1==(0:Int))
   (cond ((fun c _=>ay c) ((ag a0 (6:Int)).2) (4:Int))
    (cond (((ag ((ag a0 (6:Int)).2) (4:Int)).1)==(0:Int))
     (k [.d .node (⟨(0:Int),(0:Int),ByteArray.empty,([]:List BA),([]:List ae)⟩:ae),.d .cur ((ag ((ag a0 (6:Int)).2) (4:Int)).2)])
     (cond (((ag ((ag a0 (6:Int)).2) (4:Int)).1)==(1:Int))
      (cond ((fun c _=>ay c) ((ag ((ag a0 (6:Int)).2) (4:Int)).2) (2:Int))
       (k [.d .node (eN (vv ((aj ((ag ((ag a0 (6:Int)).2) (4:Int)).2) (2:Int)).1))),.d .cur ((aj ((ag ((ag a0 (6:Int)).2) (4:Int)).2) (2:Int)).2)])
       none)
      (cond (((ag ((ag a0 (6:Int)).2) (4:Int)).1)==(2:Int))
       (cond (dW ((ag ((ag a0 (6:Int)).2) (4:Int)).2) ([(0:Int),(7:Int),(-3:Int),(1000:Int),(1000000000000:Int)]:List Int))
        (k [.d .node (eN (DG ((bf ((ag ((ag a0 (6:Int)).2) (4:Int)).2) ([(0:Int),(7:Int),(-3:Int),(1000:Int),(1000000000000:Int)]:List Int)).1))),.d .cur ((bf ((ag ((ag a0 (6:Int)).2) (4:Int)).2) ([(0:Int),(7:Int),(-3:Int),(1000:Int),(1000000000000:Int)]:List Int)).2)])
        none)
       (cond (((ag ((ag a0 (6:Int)).2) (4:Int)).1)==(3:Int))
        (cond (ay ((ag ((ag a0 (6:Int)).2) (4:Int)).2))
         (k [.d .node (eN (vx ((kB ((ag ((ag a0 (6:Int)).2) (4:Int)).2)).1))),.d .cur ((kB ((ag ((ag a0 (6:Int)).2) (4:Int)).2)).2)])
         none)
        (cond ((fun c _=>ay c) ((ag ((ag a0 (6:Int)).2) (4:Int)).2) (4:Int))
         (iter (fun st k=>ev (pV F N b) s7 n (bl [1,1,1,1,1,1,0,1,0,0] s6) st k) n (yz a1 ((ag ((ag a0 (6:Int)).2) (4:Int)).1) ((ag ((ag ((ag a0 (6:Int)).2) (4:Int)).2) (4:Int)).1) (0:Int) (ai.b ((ag ((ag ((ag a0 (6:Int)).2) (4:Int)).2) (4:Int)).2)) (ai.i ((ag ((ag ((ag a0 (6:Int)).2) (4:Int)).2) (4:Int)).2)) (ai.h ((ag ((ag ((ag a0 (6:Int)).2) (4:Int)).2) (4:Int)).2)) ((ag ((ag a0 (6:Int)).2) (4:Int)).1) (0:Int) ByteArray.empty ([]:List BA) ([]:List ae)) (Mh F N b n (aC (pV F N b) [.bj,.ro] [false] true [.cell 4 35] [35] [.d .cur a0,.d (.i .i64) a1] k)))
         none)))))
    none)
   (cond (((ag a0 (6:Int)).1)==(0:Int))
    (k [.d .node (⟨(0:Int),(0:Int),ByteArray.empty,([]:List BA),([]:List ae)⟩:ae),.d .cur ((ag a0 (6:Int)).2)])
    (cond (((ag a0 (6:Int)).1)==(1:Int))
     (cond ((fun c _=>ay c) ((ag a0 (6:Int)).2) (2:Int))
      (k [.d .node (eN (vv ((aj ((ag a0 (6:Int)).2) (2:Int)).1))),.d .cur ((aj ((ag a0 (6:Int)).2) (2:Int)).2)])
      none)
     (cond (((ag a0 (6:Int)).1)==(2:Int))
      (cond (dW ((ag a0 (6:Int)).2) ([(0:Int),(7:Int),(-3:Int),(1000:Int),(1000000000000:Int)]:List Int))
       (k [.d .node (eN (DG ((bf ((ag a0 (6:Int)).2) ([(0:Int),(7:Int),(-3:Int),(1000:Int),(1000000000000:Int)]:List Int)).1))),.d .cur ((bf ((ag a0 (6:Int)).2) ([(0:Int),(7:Int),(-3:Int),(1000:Int),(1000000000000:Int)]:List Int)).2)])
       none)
      (cond (((ag a0 (6:Int)).1)==(3:Int))
       (cond (ay ((ag a0 (6:Int)).2))
        (k [.d .node (eN (vx ((kB ((ag a0 (6:Int)).2)).1))),.d .cur ((kB ((ag a0 (6:Int)).2)).2)])
        none)
       (cond ((fun c _=>ay c) ((ag a0 (6:Int)).2) (4:Int))
        (iter (fun st k=>ev (pV F N b) s7 n (bl [1,1,1,1,1,1,0,1,0,0] s6) st k) n (yz a1 ((ag a0 (6:Int)).1) ((ag ((ag a0 (6:Int)).2) (4:Int)).1) (0:Int) (ai.b ((ag ((ag a0 (6:Int)).2) (4:Int)).2)) (ai.i ((ag ((ag a0 (6:Int)).2) (4:Int)).2)) (ai.h ((ag ((ag a0 (6:Int)).2) (4:Int)).2)) ((ag a0 (6:Int)).1) (0:Int) ByteArray.empty ([]:List BA) ([]:List ae)) (Mh F N b n (aC (pV F N b) [.bj,.ro] [false] true [.cell 4 35] [35] [.d .cur a0,.d (.i .i64) a1] k)))
        none))))))
  none)) (by kernel_rfl) ?_
  simp only [Mg,Mi]
theorem RF (F:ai→ae×ai) (N:Nat) (b:Bool) (a0:ai) (hg:ay a0=true):∃o:ae×ai,(GT 0 o.1∧ay o.2=true)∧∃n:Nat,∀ {R:Type} (k:Kt R),aM (pV F N b) s7 n s6 [.bj,.ro] [false] true [.cell 4 35] [35] [.d .cur a0,.d (.i .i64) (0:Int)] k=k [.d .node o.1,.d .cur o.2]:=by
 obtain ⟨_,_,g1⟩:=cG a0 6 hg
 obtain ⟨x0,x1,g2⟩:=cG (ag a0 6).2 4 g1
 have x1:=x1 (by omega)
 have hz:((0:Int)==(0:Int))=true:=rfl
 cases e0:((ag (ag a0 6).2 4).1==(0:Int))
 rotate_left
 ·skip
  refine ⟨(?za0,?zb0),?zg0,0,?zr0⟩
  case zr0=>
   intro R k
   rw [jZ]
   simp only [hg,g1,g2,hz,e0,cond_true,cond_false]
   exact rfl
  case zg0=>exact ⟨oO _ rfl rfl (by decide),g2⟩
 cases e1:((ag (ag a0 6).2 4).1==(1:Int))
 rotate_left
 ·have h1:=fb (ag (ag a0 6).2 4).2 2 g2
  refine ⟨(?za1,?zb1),?zg1,0,?zr1⟩
  case zr1=>
   intro R k
   rw [jZ]
   simp only [hg,g1,g2,hz,e0,e1,cond_true,cond_false]
   exact rfl
  case zg1=>exact ⟨BN _ _,h1⟩
 cases e2:((ag (ag a0 6).2 4).1==(2:Int))
 rotate_left
 ·have hp:=cn (l:=([(0:Int),(7:Int),(-3:Int),(1000:Int),(1000000000000:Int)]:List Int)) g2 rfl
  obtain ⟨hm,h1⟩:=lf (ag (ag a0 6).2 4).2 _ hp
  refine ⟨(?za2,?zb2),?zg2,0,?zr2⟩
  case zr2=>
   intro R k
   rw [jZ]
   simp only [hg,g1,g2,hz,e0,e1,e2,hp,cond_true,cond_false]
   exact rfl
  case zg2=>exact ⟨Fm _ (List.all_eq_true.1 (show (([(0:Int),(7:Int),(-3:Int),(1000:Int),(1000000000000:Int)]:List Int).all gL)=true from rfl) _ hm),h1⟩
 cases e3:((ag (ag a0 6).2 4).1==(3:Int))
 rotate_left
 ·obtain ⟨hz,h1⟩:=vY (ag (ag a0 6).2 4).2 g2
  refine ⟨(?za3,?zb3),?zg3,0,?zr3⟩
  case zr3=>
   intro R k
   rw [jZ]
   simp only [hg,g1,g2,hz,e0,e1,e2,e3,cond_true,cond_false]
   exact rfl
  case zg3=>exact ⟨BO _ hz,h1⟩
 exfalso
 rw [beq_eq_false_iff_ne] at e0 e1 e2 e3
 omega
theorem RG (F:ai→ae×ai) (N:Nat) (hN:N+1≤6) (hF:∀c,ay c=true→GT N (F c).1∧ay (F c).2=true) (a0:ai) (hg:ay a0=true):∃o:ae×ai,(GT (N+1) o.1∧ay o.2=true)∧∃n:Nat,∀ {R:Type} (k:Kt R),aM (pV F N true) s7 n s6 [.bj,.ro] [false] true [.cell 4 35] [35] [.d .cur a0,.d (.i .i64) ((N+1:Nat):Int)] k=k [.d .node o.1,.d .cur o.2]:=by
 obtain ⟨x0,x1,g1⟩:=cG a0 6 hg
 have x1:=x1 (by omega)
 have hz:(((N+1:Nat):Int)==(0:Int))=false:=by rw [beq_eq_false_iff_ne];omega
 cases e0:((ag a0 6).1==(0:Int))
 rotate_left
 ·skip
  refine ⟨(?za4,?zb4),?zg4,0,?zr4⟩
  case zr4=>
   intro R k
   rw [jZ]
   simp only [hg,g1,hz,e0,cond_true,cond_false]
   exact rfl
  case zg4=>exact ⟨oO _ rfl rfl (by decide),g1⟩
 cases e1:((ag a0 6).1==(1:Int))
 rotate_left
 ·have h1:=fb (ag a0 6).2 2 g1
  refine ⟨(?za5,?zb5),?zg5,0,?zr5⟩
  case zr5=>
   intro R k
   rw [jZ]
   simp only [hg,g1,hz,e0,e1,cond_true,cond_false]
   exact rfl
  case zg5=>exact ⟨BN _ _,h1⟩
 cases e2:((ag a0 6).1==(2:Int))
 rotate_left
 ·have hp:=cn (l:=([(0:Int),(7:Int),(-3:Int),(1000:Int),(1000000000000:Int)]:List Int)) g1 rfl
  obtain ⟨hm,h1⟩:=lf (ag a0 6).2 _ hp
  refine ⟨(?za6,?zb6),?zg6,0,?zr6⟩
  case zr6=>
   intro R k
   rw [jZ]
   simp only [hg,g1,hz,e0,e1,e2,hp,cond_true,cond_false]
   exact rfl
  case zg6=>exact ⟨Fm _ (List.all_eq_true.1 (show (([(0:Int),(7:Int),(-3:Int),(1000:Int),(1000000000000:Int)]:List Int).all gL)=true from rfl) _ hm),h1⟩
 cases e3:((ag a0 6).1==(3:Int))
 rotate_left
 ·obtain ⟨hz,h1⟩:=vY (ag a0 6).2 g1
  refine ⟨(?za7,?zb7),?zg7,0,?zr7⟩
  case zr7=>
   intro R k
   rw [jZ]
   simp only [hg,g1,hz,e0,e1,e2,e3,cond_true,cond_false]
   exact rfl
  case zg7=>exact ⟨BO _ hz,h1⟩
 obtain ⟨y0,y1,g2⟩:=cG (ag a0 6).2 4 g1
 have y1:=y1 (by omega)
 have ahn:4^N≤4^5:=Nat.pow_le_pow_right (by decide) (by omega)
 have hk:(ag a0 6).1=4∨(ag a0 6).1=5:=by
  rw [beq_eq_false_iff_ne] at e0 e1 e2 e3
  omega
 have hw1:IntKind.wrap .i64 (((N+1:Nat):Int)-(1:Int))=(N:Int):=by rw [cu (by omega) (by omega)];omega
 have key:∀(kind nn:Int),(kind=4∨kind=5)→nn<4→∀(d m:Nat) (i:Nat) (t:ae) (c:ai),nn≤i+d→(i:Int)≤4→(i=0∨(i:Int)≤nn)→d<m→(ak t=true∧Wf t∧t.kind=kind∧aw t≤i*(100*4^N+10))→ay c=true→
   ∃o:ae×ai,(GT (N+1) o.1∧ay o.2=true)∧∀ {R:Type} (X:Int→Bool→(List Int)→Int→Int→Int→Int→BA→(List BA)→(List ae)→Option R) (Z:ae→ai→Option R),
    (∀ i b c1 c2 c3 k0 k1 k2 k3 k4,X i b c1 c2 c3 k0 k1 k2 k3 k4=Z ⟨k0,k1,k2,k3,k4⟩ ⟨c1,c2,c3⟩)→ot F N true 6 X ((N+1:Nat):Int) kind nn m (i:Int) c.b c.i c.h t.kind t.n t.s t.keys t.kids=Z o.1 o.2:=by
  intro kind nn hk hnn d
  have fin:∀(i:Nat) (t:ae),(i:Int)≤4→(i=0∨(i:Int)≤nn)→(ak t=true∧Wf t∧t.kind=kind∧aw t≤i*(100*4^N+10))→GT (N+1) t:=by
   intro i t hi4 na ⟨h1,h2,h3,h4⟩
   refine ⟨h1,?_,h2⟩
   have:i*(100*4^N+10)≤3*(100*4^N+10):=Nat.mul_le_mul_right _ (by omega)
   have h5:1≤4^N:=Nat.one_le_pow _ _ (by decide)
   rw [Nat.pow_succ];omega
  induction d with
  | zero=>
   intro m i t c hi hi4 na hm hI hc
   obtain ⟨m,rfl⟩:∃m',m=m'+1:=⟨m-1,by omega⟩
   refine ⟨(t,c),⟨fin i t hi4 na hI,hc⟩,fun {R} X Z hX=> ?_⟩
   simp only [ot,decide_eq_false (show ¬((i:Int)<nn) by omega),cond_false,hX,aT,bu,dQ]
  | succ d ih=>
   intro m i t c hi hi4 na hm hI hc
   obtain ⟨m,rfl⟩:∃m',m=m'+1:=⟨m-1,by omega⟩
   cases hd:decide ((i:Int)<nn)
   ·refine ⟨(t,c),⟨fin i t hi4 na hI,hc⟩,fun {R} X Z hX=> ?_⟩
    simp only [ot,hd,cond_false,hX,aT,bu,dQ]
   have ct:=of_decide_eq_true hd
   have hw:IntKind.wrap .i64 ((i:Int)+1)=((i+1:Nat):Int):=by rw [cu (by omega) (by omega)];omega
   obtain ⟨⟨q1,q2,q3⟩,q4⟩:=hF c hc
   obtain ⟨h1,h2,h3,h4⟩:=hI
   have hgf:vZ N true c (N:Int)=true:=by simp [vZ,hc]
   have Tx:i*(100*4^N+10)≤3*(100*4^N+10):=Nat.mul_le_mul_right _ (by omega)
   have o8:(i+1)*(100*4^N+10)=i*(100*4^N+10)+(100*4^N+10):=by rw [Nat.add_mul,Nat.one_mul]
   have hln:=(@jd t).2
   rcases hk with hk | hk
   ·have e5:(kind==(5:Int))=false:=by rw [hk];rfl
    have Wu:Nat.ble (t.kids.length+1) bT=true:=Nat.ble_eq_true_of_le (by have:(bT:Nat)=4294967296:=rfl;omega)
    obtain ⟨s1,s2⟩:=QB h1 q1 (by omega)
    obtain ⟨o1,XY,hh1⟩:=ih m (i+1) ⟨t.kind,t.n,t.s,t.keys,t.kids++[(F c).1]⟩ (F c).2 (by omega) (by omega) (by omega) (by omega) ⟨s1,QA h2 q3 (h3.trans hk),h3,by omega⟩ q4
    exact ⟨o1,XY,fun {R} X Z hX=>by
     simp only [ot,hd,hw1,dQ,aT,bu,hgf,Wu,e5,hw,cond_true,cond_false]
     exact hh1 X Z hX⟩
   ·have e5:(kind==(5:Int))=true:=by rw [hk];rfl
    obtain ⟨k1,k2⟩:=tq _ q4
    have hks:c8 (dn (F c).2).1=true:=kq (by omega)
    have Ub:zK t (dn (F c).2).1 (F c).1=true:=by simp only [zK,h1,hks,q1,Bool.and_self]
    obtain ⟨s1,s2⟩:=zJ h1 hks q1 (by omega)
    obtain ⟨w1,w2⟩:=Qz (s:=(dn (F c).2).1) h2 q3 (h3.trans hk)
    obtain ⟨o1,XY,hh1⟩:=ih m (i+1) (fa t (dn (F c).2).1 (F c).1) (dn (F c).2).2 (by omega) (by omega) (by omega) (by omega) ⟨s1,w1,w2.trans hk.symm,by omega⟩ k2
    exact ⟨o1,XY,fun {R} X Z hX=>by
     simp only [ot,hd,hw1,dQ,aT,bu,hgf,e5,q4,Ub,hw,cond_true,cond_false]
     exact hh1 X Z hX⟩
 obtain ⟨o,ho,hh⟩:=key (ag a0 6).1 (ag (ag a0 6).2 4).1 hk y1 4 6 0 ⟨(ag a0 6).1,0,ByteArray.empty,[],[]⟩ (ag (ag a0 6).2 4).2 (by omega) (by omega) (.inl rfl) (by omega)
  ⟨(oO 0 (kt (by omega) (by omega)) rfl (by decide)).1,Wf.Fl _ rfl rfl,rfl,by rw [aW];simp [dw]⟩ g2
 refine ⟨o,ho,6,fun {R} k=> ?_⟩
 rw [jZ]
 simp only [hg,g1,hz,e0,e1,e2,e3,cond_true,cond_false]
 exact hh _ (fun t c=>k [.d .node t,.d .cur c]) (fun _ _ _ _ _ _ _ _ _ _=>rfl)
theorem Ah (c:ai):Nonempty {o:ae×ai // ay c=true→(GT 0 o.1∧ay o.2=true)∧∃n:Nat,∀ {R:Type} (k:Kt R),aM (pV (fun c=>(eI,c)) 0 false) s7 n s6 [.bj,.ro] [false] true [.cell 4 35] [35] [.d .cur c,.d (.i .i64) (0:Int)] k=k [.d .node o.1,.d .cur o.2]}:=by
 by_cases hg:ay c=true
 ·obtain ⟨o,ho⟩:=RF (fun c=>(eI,c)) 0 false c hg
  exact ⟨⟨o,fun _=>ho⟩⟩
 ·exact ⟨⟨(eI,c),fun h=>absurd h hg⟩⟩
theorem Ai (F:ai→ae×ai) (N:Nat) (hF:N≤6→∀c,ay c=true→GT N (F c).1∧ay (F c).2=true) (c:ai):Nonempty {o:ae×ai // N+1≤6→ay c=true→(GT (N+1) o.1∧ay o.2=true)∧∃n:Nat,∀ {R:Type} (k:Kt R),aM (pV F N true) s7 n s6 [.bj,.ro] [false] true [.cell 4 35] [35] [.d .cur c,.d (.i .i64) ((N+1:Nat):Int)] k=k [.d .node o.1,.d .cur o.2]}:=by
 by_cases hN:N+1≤6
 ·by_cases hg:ay c=true
  ·obtain ⟨o,ho⟩:=RG F N hN (hF (by omega)) c hg
   exact ⟨⟨o,fun _ _=>ho⟩⟩
  ·exact ⟨⟨(eI,c),fun _ h=>absurd h hg⟩⟩
 ·exact ⟨⟨(eI,c),fun h=>absurd h hN⟩⟩
noncomputable def ni:(k:Nat)→{F:ai→ae×ai // k≤6→∀c,ay c=true→GT k (F c).1∧ay (F c).2=true}
 | 0=>⟨fun c=>(Classical.choice (Ah c)).val,fun _ c hc=>((Classical.choice (Ah c)).property hc).1⟩
 | k+1=>⟨fun c=>(Classical.choice (Ai (ni k).1 k (ni k).2 c)).val,fun hk c hc=>((Classical.choice (Ai (ni k).1 k (ni k).2 c)).property hk hc).1⟩
noncomputable def dT (c:ai) (d:Int):ae×ai:=(ni d.toNat).1 c
def HQ (c:ai) (d:Int):Bool:=ay c&&(decide (0≤d)&&decide (d≤6))
theorem FZ {c:ai} {d:Int} (h:HQ c d=true):GT d.toNat (dT c d).1∧ay (dT c d).2=true:=by
 simp only [HQ,Bool.and_eq_true,decide_eq_true_eq] at h
 exact (ni d.toNat).2 (by omega) c h.1
theorem D4 {c:ai} {d:Int} (h:ay c=true) (hd:(decide (0≤d)&&decide (d≤6))=true):HQ c d=true:=by
 unfold HQ;rw [h,hd];rfl
noncomputable def q76:Qt
 | [.d .cur a0,.d (.i .i64) a1]=>some (HQ a0 a1,[.d .node (dT a0 a1).1,.d .cur (dT a0 a1).2])
 | _=>none
noncomputable def Wv:Gm.Spec:=Gm.Spec.of [.bj,.ro] [false] true q76
theorem Mj (F:ai→ae×ai) (N:Nat):bV Tryd.prog 76 (HP F N false):=by
 intro R ds k r hr
 obtain ⟨outs,hq,_⟩:=Gm.Spec.qv hr
 unfold RD at hq
 split at hq
 ·simp [vZ] at hq
 ·cases hq
theorem F1:∀k:Nat,k≤6→bV Tryd.prog 76 (HP (ni k).1 k true)
 | 0,_=>by
  have hl:∀x∈[(72,Ip),(76,HP (fun c=>(eI,c)) 0 false),(86,Ay),(93,Uc),(94,Uh),(99,s99),(100,RB),(101,Hu),(102,RC),(103,Rz)],Gm.Good Tryd.prog x:=bJ.2 ⟨rQ,bJ.2 ⟨⟨⟨Mj _ _,_,Tryd.func76,by kernel_rfl,of_decide_eq_true (by kernel_rfl)⟩,Gm.Spec.aB _ _ _ _⟩,bJ.2 ⟨mS,bJ.2 ⟨Ae,bJ.2 ⟨Af,bJ.2 ⟨L8,bJ.2 ⟨FX,bJ.2 ⟨zV,bJ.2 ⟨FY,bJ.2 ⟨FW,im⟩⟩⟩⟩⟩⟩⟩⟩⟩⟩
  refine aK (E:=pV (fun c=>(eI,c)) 0 false) (aV.env hl) (b9.cF hl) Tryd.func76 (by kernel_rfl:Tryd.f76.body=some s6) [35] (by kernel_rfl) ?_
  intro ds outs h
  unfold RD at h
  split at h
  ·simp only [Option.some.injEq,Prod.mk.injEq,vZ,Bool.and_eq_true,beq_iff_eq] at h
   obtain ⟨⟨_,hg,rfl⟩,h⟩:=h
   cases h
   obtain ⟨n,hn⟩:=((Classical.choice (Ah _)).property hg).2
   exact ⟨s7,n,hn⟩
  ·cases h
 | k+1,hk=>by
  have hr:bV Tryd.prog 76 (HP (ni k).1 k true):=fun {R}=>F1 k (by omega) (R:=R)
  have hl:∀x∈[(72,Ip),(76,HP (ni k).1 k true),(86,Ay),(93,Uc),(94,Uh),(99,s99),(100,RB),(101,Hu),(102,RC),(103,Rz)],Gm.Good Tryd.prog x:=bJ.2 ⟨rQ,bJ.2 ⟨⟨⟨hr,_,Tryd.func76,by kernel_rfl,of_decide_eq_true (by kernel_rfl)⟩,Gm.Spec.aB _ _ _ _⟩,bJ.2 ⟨mS,bJ.2 ⟨Ae,bJ.2 ⟨Af,bJ.2 ⟨L8,bJ.2 ⟨FX,bJ.2 ⟨zV,bJ.2 ⟨FY,bJ.2 ⟨FW,im⟩⟩⟩⟩⟩⟩⟩⟩⟩⟩
  refine aK (E:=pV (ni k).1 k true) (aV.env hl) (b9.cF hl) Tryd.func76 (by kernel_rfl:Tryd.f76.body=some s6) [35] (by kernel_rfl) ?_
  intro ds outs h
  unfold RD at h
  split at h
  ·simp only [Option.some.injEq,Prod.mk.injEq,vZ,Bool.and_eq_true,beq_iff_eq] at h
   obtain ⟨⟨_,hg,rfl⟩,h⟩:=h
   cases h
   obtain ⟨n,hn⟩:=((Classical.choice (Ai (ni k).1 k (ni k).2 _)).property hk hg).2
   exact ⟨s7,n,hn⟩
  ·cases h
theorem D5:Gm.Good Tryd.prog (76,Wv):=by
 refine ⟨⟨j6 (q:=q76) ?_,_,Tryd.func76,by kernel_rfl,of_decide_eq_true (by kernel_rfl)⟩,Gm.Spec.aB _ _ _ _⟩
 intro ds outs h
 unfold q76 at h
 split at h
 ·rename_i a0 a1
  simp only [Option.some.injEq,Prod.mk.injEq,HQ,Bool.and_eq_true,decide_eq_true_eq] at h
  obtain ⟨⟨hg,h0,h6⟩,h⟩:=h
  refine ⟨_,F1 a1.toNat (by omega),?_⟩
  rw [← h]
  have:vZ a1.toNat true a0 a1=true:=by simp only [vZ,hg,Bool.true_and,beq_iff_eq];omega
  show some (vZ a1.toNat true a0 a1,_)=_
  rw [this];rfl
 ·cases h
theorem v7 {c:ai} (hg:ay c=true):HQ c 3=true:=D4 hg rfl
theorem mT {c:ai} (hg:ay c=true):rL (dT c 3).1=true:=(FZ (v7 hg)).1.rL
theorem lI {c:ai} (hg:ay c=true):ay (dT c 3).2=true:=(FZ (v7 hg)).2
theorem fY {c:ai} {n:Int} (hc:ay c=true) (hn:decide (n>(0:Int))=true):(decide ((0:Int)≤(ag c n).1)&&decide ((ag c n).1<n))=true:=by
 obtain ⟨h1,h2,_⟩:=cG c n hc
 rw [decide_eq_true h1,decide_eq_true (h2 (of_decide_eq_true hn))];rfl
theorem kC {t:ae} {c:ai} (h:rL t=true) (hc:ay c=true) (hn:decide ((t.kids.length:Int)>(0:Int))=true):rL (ar (t:= .node) t.kids (Int.toNat (ag c (t.kids.length:Int)).1))=true:=by
 obtain ⟨h1,h2,_⟩:=cG c (t.kids.length:Int) hc
 have h2:=h2 (of_decide_eq_true hn)
 obtain ⟨h3,h4⟩:=gM.1 h
 have hm:ar (t:= .node) t.kids (Int.toNat (ag c (t.kids.length:Int)).1)∈t.kids:=tn (t:= .node) h1 h2
 exact gM.2 ⟨iK h3 hm,Nat.le_trans (Fg hm) h4⟩
theorem lg {c:ai} {l:List BA} (hg:ay c=true) (hn:(!l.isEmpty&&Nat.ble l.length 1048576)=true) (h:(l.all fun x=>Nat.ble x.size 50)=true):Nat.ble (bE c l).1.size 50=true:=
  List.all_eq_true.1 h _ (jh c l (ca hg hn)).1
end Go.Proofs.YtglijihijmkpaaaDoor
