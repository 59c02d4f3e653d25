/- What the functions compute, part 1. No conditions. -/
import Derived.Test.YtalnkjjnohgjkaaGreatGm5
import Derived.Test.YtalnkjjnohgjkaaGreatRows
import Derived.Lib.Strings
import Derived.Lib.Slices
import Derived.Lib.SliceRun
import Derived.Lib.Walk
import Derived.WalkKit
import Derived.Deep.RegionLaw
import Derived.Lib.AppendZeros
import Derived.Laws.Externs
namespace Go.Proofs.YtalnkjjnohgjkaaGreat
open Go Go.Gm
def bQ:Ek:={ code:=[(2,(.i .i64)),(3,(.i .i64)),(4,.bool),(5,(.i .u8)),(6,(.i .u8)),(9,.str),(10,.str),(11,.str),(12,(.i .u64)),(21,(.i .i32)),(22,(.sl (.i .u8))),(24,(.sl .str)),(25,(.sl .node)),(27,.node),(30,(.sl .pop)),(33,.pop),(59,.cur),(62,(.sl (.i .i64))),(66,(.sl (.sl .str))),(85,(.i .u64)),(91,(.i .i64)),(100,(.i .u32)),(102,(.i .u64)),(107,(.i .u64)),(129,(.i .u8)),(130,(.i .u8)),(133,(.i .i32)),(134,(.i .i32))],eqs:=[],yq:=[(27,[(0,3),(1,3),(2,9),(3,24),(4,25)]),(33,[(0,3),(1,24),(2,24),(3,27)]),(59,[(0,22),(1,3),(2,3)])] }
theorem aiI:dt (bQ.env []) Tryz.prog 2 (.i .i64):=(by kernel_rfl:Tryz.prog.underlying 2=some (.int .i64))
theorem aiJ:dt (bQ.env []) Tryz.prog 3 (.i .i64):=(by kernel_rfl:Tryz.prog.underlying 3=some (.int .i64))
theorem aiK:dt (bQ.env []) Tryz.prog 4 .bool:=(by kernel_rfl:Tryz.prog.underlying 4=some .bool)
theorem aiL:dt (bQ.env []) Tryz.prog 5 (.i .u8):=(by kernel_rfl:Tryz.prog.underlying 5=some (.int .u8))
theorem aiM:dt (bQ.env []) Tryz.prog 6 (.i .u8):=(by kernel_rfl:Tryz.prog.underlying 6=some (.int .u8))
theorem aiN:dt (bQ.env []) Tryz.prog 9 .str:=(by kernel_rfl:Tryz.prog.underlying 9=some .string)
theorem aed:dt (bQ.env []) Tryz.prog 10 .str:=(by kernel_rfl:Tryz.prog.underlying 10=some .string)
theorem aee:dt (bQ.env []) Tryz.prog 11 .str:=(by kernel_rfl:Tryz.prog.underlying 11=some .string)
theorem aef:dt (bQ.env []) Tryz.prog 12 (.i .u64):=(by kernel_rfl:Tryz.prog.underlying 12=some (.int .u64))
theorem aeg:dt (bQ.env []) Tryz.prog 21 (.i .i32):=(by kernel_rfl:Tryz.prog.underlying 21=some (.int .i32))
theorem aeh:dt (bQ.env []) Tryz.prog 22 (.sl (.i .u8)):=⟨5,by kernel_rfl,by kernel_rfl⟩
theorem aei:dt (bQ.env []) Tryz.prog 24 (.sl .str):=⟨9,by kernel_rfl,by kernel_rfl⟩
theorem aej:dt (bQ.env []) Tryz.prog 25 (.sl .node):=⟨27,by kernel_rfl,by kernel_rfl⟩
theorem aek:dt (bQ.env []) Tryz.prog 27 .node:=⟨_,Tryz.underlying27⟩
theorem ael:dt (bQ.env []) Tryz.prog 30 (.sl .pop):=⟨33,by kernel_rfl,by kernel_rfl⟩
theorem aem:dt (bQ.env []) Tryz.prog 33 .pop:=⟨_,Tryz.underlying33⟩
theorem aen:dt (bQ.env []) Tryz.prog 59 .cur:=⟨_,Tryz.underlying59⟩
theorem aeo:dt (bQ.env []) Tryz.prog 62 (.sl (.i .i64)):=⟨3,by kernel_rfl,by kernel_rfl⟩
theorem aep:dt (bQ.env []) Tryz.prog 66 (.sl (.sl .str)):=⟨24,by kernel_rfl,by kernel_rfl⟩
theorem aeq:dt (bQ.env []) Tryz.prog 85 (.i .u64):=(by kernel_rfl:Tryz.prog.underlying 85=some (.int .u64))
theorem aer:dt (bQ.env []) Tryz.prog 91 (.i .i64):=(by kernel_rfl:Tryz.prog.underlying 91=some (.int .i64))
theorem ZC:dt (bQ.env []) Tryz.prog 100 (.i .u32):=(by kernel_rfl:Tryz.prog.underlying 100=some (.int .u32))
theorem ZD:dt (bQ.env []) Tryz.prog 102 (.i .u64):=(by kernel_rfl:Tryz.prog.underlying 102=some (.int .u64))
theorem ZE:dt (bQ.env []) Tryz.prog 107 (.i .u64):=(by kernel_rfl:Tryz.prog.underlying 107=some (.int .u64))
theorem ZF:dt (bQ.env []) Tryz.prog 129 (.i .u8):=(by kernel_rfl:Tryz.prog.underlying 129=some (.int .u8))
theorem ZG:dt (bQ.env []) Tryz.prog 130 (.i .u8):=(by kernel_rfl:Tryz.prog.underlying 130=some (.int .u8))
theorem ZH:dt (bQ.env []) Tryz.prog 133 (.i .i32):=(by kernel_rfl:Tryz.prog.underlying 133=some (.int .i32))
theorem ZI:dt (bQ.env []) Tryz.prog 134 (.i .i32):=(by kernel_rfl:Tryz.prog.underlying 134=some (.int .i32))
theorem aes:∃fs:Array Field,Tryz.prog.underlying 27=some (.struct fs)∧[(0,3),(1,3),(2,9),(3,24),(4,25)]=fs.toList.map (fun f=>(f.offset,f.type))∧(∀ y∈([(0,3),(1,3),(2,9),(3,24),(4,25)]:List (Nat×Nat)),(au bQ.code y.2).isSome)∧(fs.toList.mapM (fun f=>(Tryz.prog.info? f.type).map fun i=>(f.offset,i.size))).isSome:=
 ⟨_,Tryz.underlying27,by kernel_rfl,List.all_eq_true.1 (by kernel_rfl),by kernel_rfl⟩
theorem aet:∃fs:Array Field,Tryz.prog.underlying 33=some (.struct fs)∧[(0,3),(1,24),(2,24),(3,27)]=fs.toList.map (fun f=>(f.offset,f.type))∧(∀ y∈([(0,3),(1,24),(2,24),(3,27)]:List (Nat×Nat)),(au bQ.code y.2).isSome)∧(fs.toList.mapM (fun f=>(Tryz.prog.info? f.type).map fun i=>(f.offset,i.size))).isSome:=
 ⟨_,Tryz.underlying33,by kernel_rfl,List.all_eq_true.1 (by kernel_rfl),by kernel_rfl⟩
theorem aeu:∃fs:Array Field,Tryz.prog.underlying 59=some (.struct fs)∧[(0,22),(1,3),(2,3)]=fs.toList.map (fun f=>(f.offset,f.type))∧(∀ y∈([(0,22),(1,3),(2,3)]:List (Nat×Nat)),(au bQ.code y.2).isSome)∧(fs.toList.mapM (fun f=>(Tryz.prog.info? f.type).map fun i=>(f.offset,i.size))).isSome:=
 ⟨_,Tryz.underlying59,by kernel_rfl,List.all_eq_true.1 (by kernel_rfl),by kernel_rfl⟩
theorem aL:bQ.Ok Tryz.prog:={
 info:=Fa (by kernel_rfl)
 vv:=bt.2 ⟨aiI,bt.2 ⟨aiJ,bt.2 ⟨aiK,bt.2 ⟨aiL,bt.2 ⟨aiM,bt.2 ⟨aiN,bt.2 ⟨aed,bt.2 ⟨aee,bt.2 ⟨aef,bt.2 ⟨aeg,bt.2 ⟨aeh,bt.2 ⟨aei,bt.2 ⟨aej,bt.2 ⟨aek,bt.2 ⟨ael,bt.2 ⟨aem,bt.2 ⟨aen,bt.2 ⟨aeo,bt.2 ⟨aep,bt.2 ⟨aeq,bt.2 ⟨aer,bt.2 ⟨ZC,bt.2 ⟨ZD,bt.2 ⟨ZE,bt.2 ⟨ZF,bt.2 ⟨ZG,bt.2 ⟨ZH,bt.2 ⟨ZI,gw⟩⟩⟩⟩⟩⟩⟩⟩⟩⟩⟩⟩⟩⟩⟩⟩⟩⟩⟩⟩⟩⟩⟩⟩⟩⟩⟩⟩
 yq:=bt.2 ⟨aes,bt.2 ⟨aet,bt.2 ⟨aeu,gw⟩⟩⟩
 sts:=bt.2 ⟨fun h=>by first | (cases h;done) | (simp;done),bt.2 ⟨fun h=>by first | (cases h;done) | (simp;done),bt.2 ⟨fun h=>by first | (cases h;done) | (simp;done),bt.2 ⟨fun h=>by first | (cases h;done) | (simp;done),bt.2 ⟨fun h=>by first | (cases h;done) | (simp;done),bt.2 ⟨fun h=>by first | (cases h;done) | (simp;done),bt.2 ⟨fun h=>by first | (cases h;done) | (simp;done),bt.2 ⟨fun h=>by first | (cases h;done) | (simp;done),bt.2 ⟨fun h=>by first | (cases h;done) | (simp;done),bt.2 ⟨fun h=>by first | (cases h;done) | (simp;done),bt.2 ⟨fun h=>by first | (cases h;done) | (simp;done),bt.2 ⟨fun h=>by first | (cases h;done) | (simp;done),bt.2 ⟨fun h=>by first | (cases h;done) | (simp;done),bt.2 ⟨fun _=>by simp[bQ],bt.2 ⟨fun h=>by first | (cases h;done) | (simp;done),bt.2 ⟨fun _=>by simp[bQ],bt.2 ⟨fun _=>by simp[bQ],bt.2 ⟨fun h=>by first | (cases h;done) | (simp;done),bt.2 ⟨fun h=>by first | (cases h;done) | (simp;done),bt.2 ⟨fun h=>by first | (cases h;done) | (simp;done),bt.2 ⟨fun h=>by first | (cases h;done) | (simp;done),bt.2 ⟨fun h=>by first | (cases h;done) | (simp;done),bt.2 ⟨fun h=>by first | (cases h;done) | (simp;done),bt.2 ⟨fun h=>by first | (cases h;done) | (simp;done),bt.2 ⟨fun h=>by first | (cases h;done) | (simp;done),bt.2 ⟨fun h=>by first | (cases h;done) | (simp;done),bt.2 ⟨fun h=>by first | (cases h;done) | (simp;done),bt.2 ⟨fun h=>by first | (cases h;done) | (simp;done),gw⟩⟩⟩⟩⟩⟩⟩⟩⟩⟩⟩⟩⟩⟩⟩⟩⟩⟩⟩⟩⟩⟩⟩⟩⟩⟩⟩⟩
 eqs:=gw
 ord:=by kernel_rfl }
noncomputable def HP(y0:List Int)(y1:Int)(y2:Int):St:=⟨[(0,.c (.one (.rk (.i .u8) y0))),(3,.c (.one (.v (.int .i64 y1)))),(4,.c (.one (.v (.int .i64 y2))))],[],[]⟩
noncomputable def Ab(y0:List Int)(y1:Int)(y2:Int)(y3:Bool):St:=⟨[(0,.c (.one (.rk (.i .u8) y0))),(3,.c (.one (.v (.int .i64 y1)))),(4,.c (.one (.v (.int .i64 y2)))),(15,.c (.one (.v (.bool y3))))],[],[]⟩
noncomputable def Bz:Code:=(Tryz.f13.body).getD .skip
def DO:Nat→Kp:=fa [⟨[0],[],[],[]⟩,⟨[0,3],[],[],[]⟩,⟨[0,3,4],[],[],[]⟩,⟨[0,3,4,15],[],[],[]⟩,⟨[0,3,4],[],[],[]⟩,⟨[0,3,4],[],[],[]⟩,⟨[2],[],[],[]⟩]
noncomputable def xR:Env:=bQ.env []
noncomputable def tZ{R:Type}(n:Nat)(x0:Int→Int→Bool→Option R)(x1:Int→Int→Option R)(wB:List Int):Nat→Int→Int→Option R
  |0,_,_=>none
  |m+1,wD,wA=>
    (cond (decide (wA<(wB.length:Int)))
   (cond (decide (wA<(4000:Int)))
    (cond ((decide ((0:Int)≤wA))&&(decide (wA<(wB.length:Int))))
     (tZ n x0 x1 wB m (IntKind.wrap .i64 ((BitVec.toNat (BitVec.ofInt (IntKind.bits .i64) (IntKind.wrap .i64 ((IntKind.wrap .i64 ((IntKind.wrap .i64 (wD*(131:Int)))+(IntKind.wrap .i64 (al (t:=(.i .u8)) wB (Int.toNat wA)))))+(7:Int))) &&& BitVec.ofInt (IntKind.bits .i64) (1073741823:Int)):Nat):Int)) (IntKind.wrap .i64 (wA+(1:Int))))
     none)
    (x0 wD wA (decide (wA<(4000:Int)))))
   (x1 wD wA))
theorem Uh{R:Type}(n:Nat)(k':Kx R)(wB:List Int)(wD:Int)(wA:Int):ev xR DO n (bC [1,1,0,1,0,0] Bz) (HP wB wD wA) k'=
 (cond (decide (wA<(wB.length:Int)))
 (cond (decide (wA<(4000:Int)))
 (cond ((decide ((0:Int)≤wA))&&(decide (wA<(wB.length:Int))))
 (k' .normal (HP wB (IntKind.wrap .i64 ((BitVec.toNat (BitVec.ofInt (IntKind.bits .i64) (IntKind.wrap .i64 ((IntKind.wrap .i64 ((IntKind.wrap .i64 (wD*(131:Int)))+(IntKind.wrap .i64 (al (t:=(.i .u8)) wB (Int.toNat wA)))))+(7:Int))) &&& BitVec.ofInt (IntKind.bits .i64) (1073741823:Int)):Nat):Int)) (IntKind.wrap .i64 (wA+(1:Int)))))
 none)
 (k' (.exit 0) (Ab wB wD wA (decide (wA<(4000:Int))))))
 (k' (.exit 0) (Ab wB wD wA false))):=by kernel_rfl
theorem M'{R:Type}(n:Nat)(k':Kx R)(wB:List Int):∀(m:Nat)(wD:Int)(wA:Int),iter (fun st k=>ev xR DO n (bC [1,1,0,1,0,0] Bz) st k) m (HP wB wD wA) k'=tZ n (fun(wC:Int)(wE:Int)(wF:Bool)=>k' (.exit 0) (Ab wB wC wE wF)) (fun(wC:Int)(wE:Int)=>k' (.exit 0) (Ab wB wC wE false)) wB m wD wA:=by
 intro m;induction m with
 |zero=>intros;rfl
 |succ m ih=>
  intro wD wA
  simp only[iter]
  rw[Uh]
  simp only[ih,tZ]
noncomputable def Na{R:Type}(n:Nat)(k':Kx R):Kx R:=(b8 0 (eP xR DO n (bC [1,1,1] Bz) k'))
theorem Nb{R:Type}(n:Nat)(k:Kt R)(a0:List Int)(wB:List Int)(wC:Int)(wE:Int)(wF:Bool):Na n (aI xR [.kp] [true] true [.tmp 2] [39] [.d (.sl (.i .u8)) a0] k) (.exit 0) (Ab wB wC wE wF)=
 (k [.d .cur (⟨wB,(0:Int),wC⟩:aj)]):=by kernel_rfl
theorem Nc{R:Type}(n:Nat)(k:Kt R)(a0:List Int)(wB:List Int)(wC:Int)(wE:Int):Na n (aI xR [.kp] [true] true [.tmp 2] [39] [.d (.sl (.i .u8)) a0] k) (.exit 0) (Ab wB wC wE false)=
 (k [.d .cur (⟨wB,(0:Int),wC⟩:aj)]):=by kernel_rfl
theorem Ui{R:Type}(n:Nat)(k:Kt R)(a0:List Int):aG xR DO n Bz [.kp] [true] true [.tmp 2] [39] [.d (.sl (.i .u8)) a0] k=
 (tZ n (fun(wC:Int)(wE:Int)(wF:Bool)=>
 (k [.d .cur (⟨a0,(0:Int),wC⟩:aj)])) (fun(wC:Int)(wE:Int)=>
 (k [.d .cur (⟨a0,(0:Int),wC⟩:aj)])) a0 n (IntKind.wrap .i64 ((27212:Int)+(a0.length:Int))) (0:Int)):=by
 refine Eq.trans (b:=(iter (fun st k=>ev xR DO n (bC [1,1,0,1,0,0] Bz) st k) n (HP a0 (IntKind.wrap .i64 ((27212:Int)+(a0.length:Int))) (0:Int)) (Na n (aI xR [.kp] [true] true [.tmp 2] [39] [.d (.sl (.i .u8)) a0] k)))) (by kernel_rfl) ?_
 simp only[M',Nb,Nc]
def XJ(a0:List Int)(o:aj):Prop:=(fun _ o=>aA o=true) a0 o∧∃n:Nat,∀{R:Type}(k:Kt R),aG xR DO n Bz [.kp] [true] true [.tmp 2] [39] [.d (.sl (.i .u8)) a0] k=k [.d .cur o]
theorem ZJ(a0:List Int)(hg:eG a0=true):∃o:aj,(fun _ o=>aA o=true) a0 o∧∃n:Nat,∀{R:Type}(k:Kt R),aG xR DO n Bz [.kp] [true] true [.tmp 2] [39] [.d (.sl (.i .u8)) a0] k=k [.d .cur o]:=by
 have hl:a0.length≤1048576:=iD hg
 have key:∀(d:Nat)(m:Nat)(h:Int)(i:Nat),i+d=4000→d<m→∃h':Int,∀{R:Type}(X:Int→Int→Bool→Option R)(Y:Int→Int→Option R)(Z:Int→Option R),(∀ x y z,X x y z=Z x)→(∀ x y,Y x y=Z x)→tZ 4001 X Y a0 m h (i:Int)=Z h':=by
  intro d
  induction d with
  |zero=>
   intro m h i hi hm
   obtain⟨m,rfl⟩:∃m',m=m'+1:=⟨m-1,by omega⟩
   refine⟨h,fun {R} X Y Z hX hY=> ?_⟩
   simp only[tZ,decide_eq_false (show ¬((i:Int)<4000) by omega),cond_false]
   cases decide ((i:Int)<(a0.length:Int))<;>simp only[cond_true,cond_false,hX,hY]
  |succ d ih=>
   intro m h i hi hm
   obtain⟨m,rfl⟩:∃m',m=m'+1:=⟨m-1,by omega⟩
   cases hd:decide ((i:Int)<(a0.length:Int))
   ·refine⟨h,fun {R} X Y Z hX hY=> ?_⟩
    simp only[tZ,hd,cond_false,hY]
   ·obtain⟨h',hh⟩:=ih m _ (i+1) (by omega) (by omega)
    refine⟨h',fun {R} X Y Z hX hY=> ?_⟩
    simp only[tZ,hd,decide_eq_true (show (i:Int)<4000 by omega),decide_eq_true (show (0:Int)≤(i:Int) by omega),Bool.and_self,cond_true,cn (x:=(i:Int)+1) (by omega) (by omega)]
    exact hh X Y Z hX hY
 obtain⟨h',hh⟩:=key 4000 4001 (IntKind.wrap .i64 ((27212:Int)+(a0.length:Int))) 0 rfl (by omega)
 refine⟨⟨a0,0,h'⟩,rL.2 ⟨Int.le_refl _,hl⟩,4001,fun {R} k=> ?_⟩
 rw[Ui]
 exact hh _ _ (fun x=>k [.d .cur ⟨a0,0,x⟩]) (fun _ _ _=>rfl) (fun _ _=>rfl)
theorem Nd(a0:List Int):Nonempty {o:aj // eG a0=true→XJ a0 o}:=by
 by_cases hg:eG a0=true
 ·obtain⟨o,ho⟩:=ZJ a0 hg
  exact⟨⟨o,fun _=>ho⟩⟩
 ·exact⟨⟨((zero .cur)),fun h=>absurd h hg⟩⟩
noncomputable def aO(a0:List Int):aj:=(Classical.choice (Nd a0)).val
theorem Nf(a0:List Int)(hg:eG a0=true):XJ a0 (aO a0):=(Classical.choice (Nd a0)).property hg
theorem Ac(a0:List Int)(hg:eG a0=true):(fun _ o=>aA o=true) a0 (aO a0):=(Nf a0 hg).1
theorem Ng(a0:List Int)(hg:eG a0=true):∃keep rounds,∀{R:Type}(k:Kt R),aG xR keep rounds Bz [.kp] [true] true [.tmp 2] [39] [.d (.sl (.i .u8)) a0] k=k [.d .cur (aO a0)]:=by
 obtain⟨n,hn⟩:=(Nf a0 hg).2
 exact⟨DO,n,hn⟩
noncomputable def q13:Qt
 | [.d (.sl (.i .u8)) a0]=>some ((eG a0),[.d .cur (aO a0)])
 |_=>none
noncomputable def s13:Gm.Spec:=Gm.Spec.of [.kp] [true] true q13
theorem Nh:Gm.Good Tryz.prog (13,s13):=by
 have hl:∀x∈([]:List (Nat×Gm.Spec)),Gm.Good Tryz.prog x:=fun _ h=>by cases h
 refine⟨⟨aD (aL.env hl) (bQ.cq hl) Tryz.func13 (by kernel_rfl:Tryz.f13.body=some Bz) [39] (by kernel_rfl) ?_,_,Tryz.func13,by kernel_rfl,of_decide_eq_true (by kernel_rfl)⟩,Gm.Spec.ax _ _ _ _⟩
 intro ds outs h
 unfold q13 at h
 split at h
 ·simp only[Option.some.injEq,Prod.mk.injEq] at h;obtain⟨hg,h⟩:=h;cases h;exact Ng _ hg
 ·cases h
noncomputable def Ni:Code:=(Tryz.f54.body).getD .skip
def Uj:Nat→Kp:=fa [⟨[0],[],[],[]⟩,⟨[0],[],[],[]⟩,⟨[0,3],[],[],[]⟩,⟨[0,3,34],[],[],[]⟩,⟨[0,3],[],[],[]⟩,⟨[0,3],[],[],[]⟩,⟨[0,2],[],[],[]⟩]
noncomputable def Uk:Env:=bQ.env []
theorem HQ{R:Type}(n:Nat)(k:Kt R)(a0:aj):aG Uk Uj n Ni [.bG] [false] true [.tmp 2] [3] [.d .cur a0] k=
 (cond (decide ((aj.i a0)<((aj.b a0).length:Int)))
 (cond ((decide ((0:Int)≤(aj.i a0)))&&(decide ((aj.i a0)<((aj.b a0).length:Int))))
 (k [.d (.i .i64) (IntKind.wrap .i64 ((BitVec.toNat (BitVec.ofInt (IntKind.bits .i64) (IntKind.wrap .i64 ((IntKind.wrap .i64 ((BitVec.toNat (BitVec.ofInt (IntKind.bits .i64) (IntKind.wrap .i64 ((BitVec.toNat (BitVec.ofInt (IntKind.bits .i64) (Int.fdiv (IntKind.wrap .i64 ((IntKind.wrap .i64 ((aj.h a0)*(6364136223846793005:Int)))+(1442695040888963407:Int))) (2^(min (Int.toNat (33:Int)) (IntKind.bits .i64)))) ^^^ BitVec.ofInt (IntKind.bits .i64) (Int.fdiv (IntKind.wrap .i64 ((IntKind.wrap .i64 ((aj.h a0)*(6364136223846793005:Int)))+(1442695040888963407:Int))) (2^(min (Int.toNat (45:Int)) (IntKind.bits .i64))))):Nat):Int)) &&& BitVec.ofInt (IntKind.bits .i64) (255:Int)):Nat):Int))+(IntKind.wrap .i64 (al (t:=(.i .u8)) (aj.b a0) (Int.toNat (aj.i a0)))))) &&& BitVec.ofInt (IntKind.bits .i64) (255:Int)):Nat):Int)),.d .cur (⟨(aj.b a0),(IntKind.wrap .i64 ((aj.i a0)+(1:Int))),(IntKind.wrap .i64 ((IntKind.wrap .i64 ((aj.h a0)*(6364136223846793005:Int)))+(1442695040888963407:Int)))⟩:aj)])
 none)
 (k [.d (.i .i64) (IntKind.wrap .i64 ((BitVec.toNat (BitVec.ofInt (IntKind.bits .i64) (IntKind.wrap .i64 ((BitVec.toNat (BitVec.ofInt (IntKind.bits .i64) (Int.fdiv (IntKind.wrap .i64 ((IntKind.wrap .i64 ((aj.h a0)*(6364136223846793005:Int)))+(1442695040888963407:Int))) (2^(min (Int.toNat (33:Int)) (IntKind.bits .i64)))) ^^^ BitVec.ofInt (IntKind.bits .i64) (Int.fdiv (IntKind.wrap .i64 ((IntKind.wrap .i64 ((aj.h a0)*(6364136223846793005:Int)))+(1442695040888963407:Int))) (2^(min (Int.toNat (45:Int)) (IntKind.bits .i64))))):Nat):Int)) &&& BitVec.ofInt (IntKind.bits .i64) (255:Int)):Nat):Int)),.d .cur (⟨(aj.b a0),(aj.i a0),(IntKind.wrap .i64 ((IntKind.wrap .i64 ((aj.h a0)*(6364136223846793005:Int)))+(1442695040888963407:Int)))⟩:aj)])):=by kernel_rfl
def XK(a0:aj)(o:Int×aj):Prop:=(fun _ o=>(0≤o.1∧o.1≤255)∧aA o.2=true) a0 o∧∃n:Nat,∀{R:Type}(k:Kt R),aG Uk Uj n Ni [.bG] [false] true [.tmp 2] [3] [.d .cur a0] k=k [.d (.i .i64) o.1,.d .cur o.2]
theorem ZK(a0:aj)(hg:aA a0=true):∃o:Int×aj,(fun _ o=>(0≤o.1∧o.1≤255)∧aA o.2=true) a0 o∧∃n:Nat,∀{R:Type}(k:Kt R),aG Uk Uj n Ni [.bG] [false] true [.tmp 2] [3] [.d .cur a0] k=k [.d (.i .i64) o.1,.d .cur o.2]:=by
 obtain⟨h0,hl⟩:=rL.1 hg
 cases hd:decide (aj.i a0<((aj.b a0).length:Int))
 ·refine⟨(?az0,?bz0),?FM,0,?FN⟩
  case FN=>
   intro R k
   rw[HQ]
   simp only[hd,Bool.and_self,cond_true,cond_false]
   exact rfl
  case FM=>exact⟨Hz _,rL.2 ⟨h0,hl⟩⟩
 ·have bU:=of_decide_eq_true hd
  refine⟨(?az1,?bz1),?gz1,0,?rz1⟩
  case rz1=>
   intro R k
   rw[HQ]
   simp only[hd,decide_eq_true h0,Bool.and_self,cond_true,cond_false]
   exact rfl
  case gz1=>
   refine⟨Hz _,rL.2 ⟨?_,hl⟩⟩
   show 0≤IntKind.wrap .i64 (aj.i a0+1)
   rw[cn (by omega) (by omega)];omega
theorem Nj(a0:aj):Nonempty {o:Int×aj // aA a0=true→XK a0 o}:=by
 by_cases hg:aA a0=true
 ·obtain⟨o,ho⟩:=ZK a0 hg
  exact⟨⟨o,fun _=>ho⟩⟩
 ·exact⟨⟨((zero (.i .i64)),(zero .cur)),fun h=>absurd h hg⟩⟩
noncomputable def cF(a0:aj):Int×aj:=(Classical.choice (Nj a0)).val
theorem Nk(a0:aj)(hg:aA a0=true):XK a0 (cF a0):=(Classical.choice (Nj a0)).property hg
theorem nO(a0:aj)(hg:aA a0=true):(fun _ o=>(0≤o.1∧o.1≤255)∧aA o.2=true) a0 (cF a0):=(Nk a0 hg).1
theorem Nl(a0:aj)(hg:aA a0=true):∃keep rounds,∀{R:Type}(k:Kt R),aG Uk keep rounds Ni [.bG] [false] true [.tmp 2] [3] [.d .cur a0] k=k [.d (.i .i64) ((cF a0).1),.d .cur ((cF a0).2)]:=by
 obtain⟨n,hn⟩:=(Nk a0 hg).2
 exact⟨Uj,n,hn⟩
noncomputable def q54:Qt
 | [.d .cur a0]=>some ((aA a0),[.d (.i .i64) ((cF a0).1),.d .cur ((cF a0).2)])
 |_=>none
noncomputable def s54:Gm.Spec:=Gm.Spec.of [.bG] [false] true q54
theorem ZL:Gm.Good Tryz.prog (54,s54):=by
 have hl:∀x∈([]:List (Nat×Gm.Spec)),Gm.Good Tryz.prog x:=fun _ h=>by cases h
 refine⟨⟨aD (aL.env hl) (bQ.cq hl) Tryz.func54 (by kernel_rfl:Tryz.f54.body=some Ni) [3] (by kernel_rfl) ?_,_,Tryz.func54,by kernel_rfl,of_decide_eq_true (by kernel_rfl)⟩,Gm.Spec.ax _ _ _ _⟩
 intro ds outs h
 unfold q54 at h
 split at h
 ·simp only[Option.some.injEq,Prod.mk.injEq] at h;obtain⟨hg,h⟩:=h;cases h;exact Nl _ hg
 ·cases h
noncomputable def Nn:Code:=(Tryz.f32.body).getD .skip
def Ul:Nat→Kp:=fa [⟨[0,1],[],[],[]⟩,⟨[0,1,10],[],[],[]⟩,⟨[0,4],[],[],[]⟩,⟨[0,1,12],[],[],[]⟩,⟨[0,4],[],[],[]⟩,⟨[0,1,5],[],[],[]⟩,⟨[0,1,5,6],[],[],[]⟩,⟨[0,1,5,6,7],[],[],[]⟩,⟨[0,1,5,6,7,8],[],[],[]⟩,⟨[0,4],[],[],[]⟩]
noncomputable def Um:Env:=bQ.env [(54,s54)]
theorem BB{R:Type}(n:Nat)(k:Kt R)(a0:aj)(a1:Int):aG Um Ul n Nn [.bG,.ro] [false] true [.tmp 4] [3] [.d .cur a0,.d (.i .i64) a1] k=
 (cond (decide (a1≤(0:Int)))
 (k [.d (.i .i64) (0:Int),.d .cur a0])
 (cond (decide (a1≤(256:Int)))
 (cond (aA a0)
 (cond (decide (a1=0))
 none
 (k [.d (.i .i64) (Int.tmod ((cF a0).1) a1),.d .cur ((cF a0).2)]))
 none)
 (cond (aA a0)
 (cond (aA ((cF a0).2))
 (cond (aA ((cF ((cF a0).2)).2))
 (cond (aA ((cF ((cF ((cF a0).2)).2)).2))
 (cond (decide (a1=0))
 none
 (k [.d (.i .i64) (Int.tmod (IntKind.wrap .i64 ((IntKind.wrap .i64 ((IntKind.wrap .i64 ((IntKind.wrap .i64 (((cF a0).1)*(16777216:Int)))+(IntKind.wrap .i64 (((cF ((cF a0).2)).1)*(65536:Int)))))+(IntKind.wrap .i64 (((cF ((cF ((cF a0).2)).2)).1)*(256:Int)))))+((cF ((cF ((cF ((cF a0).2)).2)).2)).1))) a1),.d .cur ((cF ((cF ((cF ((cF a0).2)).2)).2)).2)]))
 none)
 none)
 none)
 none))):=by kernel_rfl
def XL(a0:aj)(a1:Int)(o:Int×aj):Prop:=(fun _ n o=>0≤o.1∧(0<n→o.1<n)∧aA o.2=true) a0 a1 o∧∃n:Nat,∀{R:Type}(k:Kt R),aG Um Ul n Nn [.bG,.ro] [false] true [.tmp 4] [3] [.d .cur a0,.d (.i .i64) a1] k=k [.d (.i .i64) o.1,.d .cur o.2]
theorem ZM(a0:aj)(a1:Int)(hg:(fun c _=>aA c) a0 a1=true):∃o:Int×aj,(fun _ n o=>0≤o.1∧(0<n→o.1<n)∧aA o.2=true) a0 a1 o∧∃n:Nat,∀{R:Type}(k:Kt R),aG Um Ul n Nn [.bG,.ro] [false] true [.tmp 4] [3] [.d .cur a0,.d (.i .i64) a1] k=k [.d (.i .i64) o.1,.d .cur o.2]:=by
 have hg:aA a0=true:=hg
 cases h1:decide (a1≤(0:Int))
 ·have hn:=of_decide_eq_false h1
  have hz:decide (a1=0)=false:=decide_eq_false (by omega)
  obtain⟨b1,g1⟩:=nO a0 hg
  cases h2:decide (a1≤(256:Int))
  ·obtain⟨b2,g2⟩:=nO _ g1
   obtain⟨b3,g3⟩:=nO _ g2
   obtain⟨b4,g4⟩:=nO _ g3
   refine⟨(?az0,?bz0),?FM,0,?FN⟩
   case FN=>
    intro R k
    rw[BB]
    simp only[h1,h2,hz,hg,g1,g2,g3,Bool.and_self,cond_true,cond_false]
    exact rfl
   case FM=>
    have:=HA (Zj b1 b2 b3 b4) (show 0<a1 by omega)
    exact⟨this.1,fun _=>this.2,g4⟩
  ·refine⟨(?az1,?bz1),?gz1,0,?rz1⟩
   case rz1=>
    intro R k
    rw[BB]
    simp only[h1,h2,hz,hg,Bool.and_self,cond_true,cond_false]
    exact rfl
   case gz1=>
    have:=HA b1.1 (show 0<a1 by omega)
    exact⟨this.1,fun _=>this.2,g1⟩
 ·have hn:=of_decide_eq_true h1
  refine⟨(?az2,?bz2),?gz2,0,?rz2⟩
  case rz2=>
   intro R k
   rw[BB]
   simp only[h1,Bool.and_self,cond_true,cond_false]
   exact rfl
  case gz2=>exact⟨Int.le_refl _,fun h=>by omega,hg⟩
theorem No(a0:aj)(a1:Int):Nonempty {o:Int×aj // (fun c _=>aA c) a0 a1=true→XL a0 a1 o}:=by
 by_cases hg:(fun c _=>aA c) a0 a1=true
 ·obtain⟨o,ho⟩:=ZM a0 a1 hg
  exact⟨⟨o,fun _=>ho⟩⟩
 ·exact⟨⟨((zero (.i .i64)),(zero .cur)),fun h=>absurd h hg⟩⟩
noncomputable def af(a0:aj)(a1:Int):Int×aj:=(Classical.choice (No a0 a1)).val
theorem Np(a0:aj)(a1:Int)(hg:(fun c _=>aA c) a0 a1=true):XL a0 a1 (af a0 a1):=(Classical.choice (No a0 a1)).property hg
theorem cu(a0:aj)(a1:Int)(hg:(fun c _=>aA c) a0 a1=true):(fun _ n o=>0≤o.1∧(0<n→o.1<n)∧aA o.2=true) a0 a1 (af a0 a1):=(Np a0 a1 hg).1
theorem cc(a0:aj)(a1:Int)(hg:aA a0=true):aA (af a0 a1).2=true:=by
  have h:=cu a0 a1 hg
  first | exact h | exact h.2 | exact h.2.2 | exact h.2.2.2
theorem Nq(a0:aj)(a1:Int)(hg:(fun c _=>aA c) a0 a1=true):∃keep rounds,∀{R:Type}(k:Kt R),aG Um keep rounds Nn [.bG,.ro] [false] true [.tmp 4] [3] [.d .cur a0,.d (.i .i64) a1] k=k [.d (.i .i64) ((af a0 a1).1),.d .cur ((af a0 a1).2)]:=by
 obtain⟨n,hn⟩:=(Np a0 a1 hg).2
 exact⟨Ul,n,hn⟩
noncomputable def q32:Qt
 | [.d .cur a0,.d (.i .i64) a1]=>some (((fun c _=>aA c) a0 a1),[.d (.i .i64) ((af a0 a1).1),.d .cur ((af a0 a1).2)])
 |_=>none
noncomputable def Cb:Gm.Spec:=Gm.Spec.of [.bG,.ro] [false] true q32
theorem nP:Gm.Good Tryz.prog (32,Cb):=by
 have hl:∀x∈[(54,s54)],Gm.Good Tryz.prog x:=bt.2 ⟨ZL,gw⟩
 refine⟨⟨aD (aL.env hl) (bQ.cq hl) Tryz.func32 (by kernel_rfl:Tryz.f32.body=some Nn) [3] (by kernel_rfl) ?_,_,Tryz.func32,by kernel_rfl,of_decide_eq_true (by kernel_rfl)⟩,Gm.Spec.ax _ _ _ _⟩
 intro ds outs h
 unfold q32 at h
 split at h
 ·simp only[Option.some.injEq,Prod.mk.injEq] at h;obtain⟨hg,h⟩:=h;cases h;exact Nq _ _ hg
 ·cases h
noncomputable def Nr:Code:=(Tryz.f15.body).getD .skip
def Un:Nat→Kp:=fa [⟨[0,1],[],[],[]⟩,⟨[0,4],[],[],[]⟩]
noncomputable def Uo:Env:=bQ.env [(32,Cb)]
theorem Up{R:Type}(n:Nat)(k:Kt R)(a0:aj)(a1:Int):aG Uo Un n Nr [.bG,.ro] [false] true [.tmp 4] [4] [.d .cur a0,.d (.i .i64) a1] k=
 (cond ((fun c _=>aA c) a0 a1)
 (k [.d .bool (((af a0 a1).1)==(0:Int)),.d .cur ((af a0 a1).2)])
 none):=by kernel_rfl
def XM(a0:aj)(a1:Int)(o:Bool×aj):Prop:=(fun _ _ o=>aA o.2=true) a0 a1 o∧∃n:Nat,∀{R:Type}(k:Kt R),aG Uo Un n Nr [.bG,.ro] [false] true [.tmp 4] [4] [.d .cur a0,.d (.i .i64) a1] k=k [.d .bool o.1,.d .cur o.2]
theorem ZN(a0:aj)(a1:Int)(hg:(fun c _=>aA c) a0 a1=true):∃o:Bool×aj,(fun _ _ o=>aA o.2=true) a0 a1 o∧∃n:Nat,∀{R:Type}(k:Kt R),aG Uo Un n Nr [.bG,.ro] [false] true [.tmp 4] [4] [.d .cur a0,.d (.i .i64) a1] k=k [.d .bool o.1,.d .cur o.2]:=by
 have hg:aA a0=true:=hg
 obtain⟨_,_,g1⟩:=cu a0 a1 hg
 refine⟨(?az0,?bz0),?FM,0,?FN⟩
 case FN=>
  intro R k
  rw[Up]
  simp only[hg,cond_true]
  exact rfl
 case FM=>exact g1
theorem Ns(a0:aj)(a1:Int):Nonempty {o:Bool×aj // (fun c _=>aA c) a0 a1=true→XM a0 a1 o}:=by
 by_cases hg:(fun c _=>aA c) a0 a1=true
 ·obtain⟨o,ho⟩:=ZN a0 a1 hg
  exact⟨⟨o,fun _=>ho⟩⟩
 ·exact⟨⟨((zero .bool),(zero .cur)),fun h=>absurd h hg⟩⟩
noncomputable def bu(a0:aj)(a1:Int):Bool×aj:=(Classical.choice (Ns a0 a1)).val
theorem Nt(a0:aj)(a1:Int)(hg:(fun c _=>aA c) a0 a1=true):XM a0 a1 (bu a0 a1):=(Classical.choice (Ns a0 a1)).property hg
theorem nQ(a0:aj)(a1:Int)(hg:(fun c _=>aA c) a0 a1=true):(fun _ _ o=>aA o.2=true) a0 a1 (bu a0 a1):=(Nt a0 a1 hg).1
theorem bc(a0:aj)(a1:Int)(hg:aA a0=true):aA (bu a0 a1).2=true:=by
  have h:=nQ a0 a1 hg
  first | exact h | exact h.2 | exact h.2.2 | exact h.2.2.2
theorem Nu(a0:aj)(a1:Int)(hg:(fun c _=>aA c) a0 a1=true):∃keep rounds,∀{R:Type}(k:Kt R),aG Uo keep rounds Nr [.bG,.ro] [false] true [.tmp 4] [4] [.d .cur a0,.d (.i .i64) a1] k=k [.d .bool ((bu a0 a1).1),.d .cur ((bu a0 a1).2)]:=by
 obtain⟨n,hn⟩:=(Nt a0 a1 hg).2
 exact⟨Un,n,hn⟩
noncomputable def q15:Qt
 | [.d .cur a0,.d (.i .i64) a1]=>some (((fun c _=>aA c) a0 a1),[.d .bool ((bu a0 a1).1),.d .cur ((bu a0 a1).2)])
 |_=>none
noncomputable def SM:Gm.Spec:=Gm.Spec.of [.bG,.ro] [false] true q15
theorem xS:Gm.Good Tryz.prog (15,SM):=by
 have hl:∀x∈[(32,Cb)],Gm.Good Tryz.prog x:=bt.2 ⟨nP,gw⟩
 refine⟨⟨aD (aL.env hl) (bQ.cq hl) Tryz.func15 (by kernel_rfl:Tryz.f15.body=some Nr) [4] (by kernel_rfl) ?_,_,Tryz.func15,by kernel_rfl,of_decide_eq_true (by kernel_rfl)⟩,Gm.Spec.ax _ _ _ _⟩
 intro ds outs h
 unfold q15 at h
 split at h
 ·simp only[Option.some.injEq,Prod.mk.injEq] at h;obtain⟨hg,h⟩:=h;cases h;exact Nu _ _ hg
 ·cases h
noncomputable def Nv:Code:=(Tryz.f39.body).getD .skip
def Uq:Nat→Kp:=fa [⟨[0,1],[],[],[]⟩,⟨[0,4],[],[],[]⟩]
noncomputable def Ur:Env:=bQ.env [(32,Cb)]
theorem Us{R:Type}(n:Nat)(k:Kt R)(a0:aj)(a1:List BA):aG Ur Uq n Nv [.bG,.ro] [false] true [.tmp 4] [9] [.d .cur a0,.d (.sl .str) a1] k=
 (cond ((fun c _=>aA c) a0 (a1.length:Int))
 (cond ((decide ((0:Int)≤((af a0 (a1.length:Int)).1)))&&(decide (((af a0 (a1.length:Int)).1)<(a1.length:Int))))
 (k [.d .str (al (t:= .str) a1 (Int.toNat ((af a0 (a1.length:Int)).1))),.d .cur ((af a0 (a1.length:Int)).2)])
 none)
 none):=by kernel_rfl
def XN(a0:aj)(a1:List BA)(o:BA×aj):Prop:=(fun _ l o=>o.1∈l∧aA o.2=true) a0 a1 o∧∃n:Nat,∀{R:Type}(k:Kt R),aG Ur Uq n Nv [.bG,.ro] [false] true [.tmp 4] [9] [.d .cur a0,.d (.sl .str) a1] k=k [.d .str o.1,.d .cur o.2]
theorem ZO(a0:aj)(a1:List BA)(hg:eQ a0 a1=true):∃o:BA×aj,(fun _ l o=>o.1∈l∧aA o.2=true) a0 a1 o∧∃n:Nat,∀{R:Type}(k:Kt R),aG Ur Uq n Nv [.bG,.ro] [false] true [.tmp 4] [9] [.d .cur a0,.d (.sl .str) a1] k=k [.d .str o.1,.d .cur o.2]:=by
 obtain⟨hg,dn⟩:=Bool.and_eq_true_iff.1 hg
 obtain⟨dn,hl⟩:=Bool.and_eq_true_iff.1 dn
 obtain⟨h0,h1,g1⟩:=cu a0 (a1.length:Int) hg
 have h1:=h1 (Mt dn)
 refine⟨(?az0,?bz0),?FM,0,?FN⟩
 case FN=>
  intro R k
  rw[Us]
  simp only[hg,Ms h0 h1,cond_true]
  exact rfl
 case FM=>exact⟨rN (t:= .str) h0 h1,g1⟩
theorem Nw(a0:aj)(a1:List BA):Nonempty {o:BA×aj // eQ a0 a1=true→XN a0 a1 o}:=by
 by_cases hg:eQ a0 a1=true
 ·obtain⟨o,ho⟩:=ZO a0 a1 hg
  exact⟨⟨o,fun _=>ho⟩⟩
 ·exact⟨⟨((zero .str),(zero .cur)),fun h=>absurd h hg⟩⟩
noncomputable def bI(a0:aj)(a1:List BA):BA×aj:=(Classical.choice (Nw a0 a1)).val
theorem Nx(a0:aj)(a1:List BA)(hg:eQ a0 a1=true):XN a0 a1 (bI a0 a1):=(Classical.choice (Nw a0 a1)).property hg
theorem jY(a0:aj)(a1:List BA)(hg:eQ a0 a1=true):(fun _ l o=>o.1∈l∧aA o.2=true) a0 a1 (bI a0 a1):=(Nx a0 a1 hg).1
theorem iW(a0:aj)(a1:List BA)(hg:eQ a0 a1=true):aA (bI a0 a1).2=true:=by
  have h:=jY a0 a1 hg
  first | exact h | exact h.2 | exact h.2.2 | exact h.2.2.2
theorem Ny(a0:aj)(a1:List BA)(hg:eQ a0 a1=true):∃keep rounds,∀{R:Type}(k:Kt R),aG Ur keep rounds Nv [.bG,.ro] [false] true [.tmp 4] [9] [.d .cur a0,.d (.sl .str) a1] k=k [.d .str ((bI a0 a1).1),.d .cur ((bI a0 a1).2)]:=by
 obtain⟨n,hn⟩:=(Nx a0 a1 hg).2
 exact⟨Uq,n,hn⟩
noncomputable def q39:Qt
 | [.d .cur a0,.d (.sl .str) a1]=>some ((eQ a0 a1),[.d .str ((bI a0 a1).1),.d .cur ((bI a0 a1).2)])
 |_=>none
noncomputable def Ut:Gm.Spec:=Gm.Spec.of [.bG,.ro] [false] true q39
theorem BD:Gm.Good Tryz.prog (39,Ut):=by
 have hl:∀x∈[(32,Cb)],Gm.Good Tryz.prog x:=bt.2 ⟨nP,gw⟩
 refine⟨⟨aD (aL.env hl) (bQ.cq hl) Tryz.func39 (by kernel_rfl:Tryz.f39.body=some Nv) [9] (by kernel_rfl) ?_,_,Tryz.func39,by kernel_rfl,of_decide_eq_true (by kernel_rfl)⟩,Gm.Spec.ax _ _ _ _⟩
 intro ds outs h
 unfold q39 at h
 split at h
 ·simp only[Option.some.injEq,Prod.mk.injEq] at h;obtain⟨hg,h⟩:=h;cases h;exact Ny _ _ hg
 ·cases h
noncomputable def Nz:Code:=(Tryz.f38.body).getD .skip
def Uu:Nat→Kp:=fa [⟨[0,1],[],[],[]⟩,⟨[0,4],[],[],[]⟩]
noncomputable def Uv:Env:=bQ.env [(32,Cb)]
theorem Uw{R:Type}(n:Nat)(k:Kt R)(a0:aj)(a1:List Int):aG Uv Uu n Nz [.bG,.ro] [false] true [.tmp 4] [3] [.d .cur a0,.d (.sl (.i .i64)) a1] k=
 (cond ((fun c _=>aA c) a0 (a1.length:Int))
 (cond ((decide ((0:Int)≤((af a0 (a1.length:Int)).1)))&&(decide (((af a0 (a1.length:Int)).1)<(a1.length:Int))))
 (k [.d (.i .i64) (al (t:=(.i .i64)) a1 (Int.toNat ((af a0 (a1.length:Int)).1))),.d .cur ((af a0 (a1.length:Int)).2)])
 none)
 none):=by kernel_rfl
def XO(a0:aj)(a1:List Int)(o:Int×aj):Prop:=(fun _ l o=>o.1∈l∧aA o.2=true) a0 a1 o∧∃n:Nat,∀{R:Type}(k:Kt R),aG Uv Uu n Nz [.bG,.ro] [false] true [.tmp 4] [3] [.d .cur a0,.d (.sl (.i .i64)) a1] k=k [.d (.i .i64) o.1,.d .cur o.2]
theorem ZP(a0:aj)(a1:List Int)(hg:er a0 a1=true):∃o:Int×aj,(fun _ l o=>o.1∈l∧aA o.2=true) a0 a1 o∧∃n:Nat,∀{R:Type}(k:Kt R),aG Uv Uu n Nz [.bG,.ro] [false] true [.tmp 4] [3] [.d .cur a0,.d (.sl (.i .i64)) a1] k=k [.d (.i .i64) o.1,.d .cur o.2]:=by
 obtain⟨hg,dn⟩:=Bool.and_eq_true_iff.1 hg
 obtain⟨dn,hl⟩:=Bool.and_eq_true_iff.1 dn
 obtain⟨h0,h1,g1⟩:=cu a0 (a1.length:Int) hg
 have h1:=h1 (Mt dn)
 refine⟨(?az0,?bz0),?FM,0,?FN⟩
 case FN=>
  intro R k
  rw[Uw]
  simp only[hg,Ms h0 h1,cond_true]
  exact rfl
 case FM=>exact⟨rN (t:=(.i .i64)) h0 h1,g1⟩
theorem NA(a0:aj)(a1:List Int):Nonempty {o:Int×aj // er a0 a1=true→XO a0 a1 o}:=by
 by_cases hg:er a0 a1=true
 ·obtain⟨o,ho⟩:=ZP a0 a1 hg
  exact⟨⟨o,fun _=>ho⟩⟩
 ·exact⟨⟨((zero (.i .i64)),(zero .cur)),fun h=>absurd h hg⟩⟩
noncomputable def bp(a0:aj)(a1:List Int):Int×aj:=(Classical.choice (NA a0 a1)).val
theorem NB(a0:aj)(a1:List Int)(hg:er a0 a1=true):XO a0 a1 (bp a0 a1):=(Classical.choice (NA a0 a1)).property hg
theorem mg(a0:aj)(a1:List Int)(hg:er a0 a1=true):(fun _ l o=>o.1∈l∧aA o.2=true) a0 a1 (bp a0 a1):=(NB a0 a1 hg).1
theorem gT(a0:aj)(a1:List Int)(hg:er a0 a1=true):aA (bp a0 a1).2=true:=by
  have h:=mg a0 a1 hg
  first | exact h | exact h.2 | exact h.2.2 | exact h.2.2.2
theorem NC(a0:aj)(a1:List Int)(hg:er a0 a1=true):∃keep rounds,∀{R:Type}(k:Kt R),aG Uv keep rounds Nz [.bG,.ro] [false] true [.tmp 4] [3] [.d .cur a0,.d (.sl (.i .i64)) a1] k=k [.d (.i .i64) ((bp a0 a1).1),.d .cur ((bp a0 a1).2)]:=by
 obtain⟨n,hn⟩:=(NB a0 a1 hg).2
 exact⟨Uu,n,hn⟩
theorem nR{c:aj}{l:List BA}(hg:aA c=true)(hn:(!l.isEmpty&&Nat.ble l.length 1048576)=true)(h:(l.all bH)=true):bH (bI c l).1=true:=
  Mw (jY c l (dX hg hn)).1 h
theorem pH{c:aj}{l:List Int}(hg:aA c=true)(hn:(!l.isEmpty&&Nat.ble l.length 1048576)=true)(h:(l.all gj)=true):gj (bp c l).1=true:=
  List.all_eq_true.1 h _ (mg c l (fb hg hn)).1
theorem pI{c:aj}{n:Int}(hg:aA c=true)(h:0<n)(h2:n≤9223372036854775807):gj (af c n).1=true:=by
 obtain⟨h0,h1,_⟩:=cu c n hg
 have:=h1 h
 exact lG (by omega) (by omega)
noncomputable def q38:Qt
 | [.d .cur a0,.d (.sl (.i .i64)) a1]=>some ((er a0 a1),[.d (.i .i64) ((bp a0 a1).1),.d .cur ((bp a0 a1).2)])
 |_=>none
noncomputable def s38:Gm.Spec:=Gm.Spec.of [.bG,.ro] [false] true q38
theorem FO:Gm.Good Tryz.prog (38,s38):=by
 have hl:∀x∈[(32,Cb)],Gm.Good Tryz.prog x:=bt.2 ⟨nP,gw⟩
 refine⟨⟨aD (aL.env hl) (bQ.cq hl) Tryz.func38 (by kernel_rfl:Tryz.f38.body=some Nz) [3] (by kernel_rfl) ?_,_,Tryz.func38,by kernel_rfl,of_decide_eq_true (by kernel_rfl)⟩,Gm.Spec.ax _ _ _ _⟩
 intro ds outs h
 unfold q38 at h
 split at h
 ·simp only[Option.some.injEq,Prod.mk.injEq] at h;obtain⟨hg,h⟩:=h;cases h;exact NC _ _ hg
 ·cases h
noncomputable def ZQ:Code:=(Tryz.f88.body).getD .skip
def aeA:Nat→Kp:=fa [⟨[1],[],[],[]⟩,⟨[2],[],[],[]⟩]
noncomputable def aeB:Env:=bQ.env []
theorem Ux{R:Type}(n:Nat)(k:Kt R)(a0:ae):aG aeB aeA n ZQ [.ro] [false] true [.tmp 2] [4] [.d .node a0] k=
 (cond ((ae.kind a0)==(5:Int))
 (k [.d .bool (((ae.keys a0).length:Int)==((ae.kids a0).length:Int))])
 (k [.d .bool false])):=by kernel_rfl
theorem ND(a0:ae):∃keep rounds,∀{R:Type}(k:Kt R),aG aeB keep rounds ZQ [.ro] [false] true [.tmp 2] [4] [.d .node a0] k=k [.d .bool (aE a0)]:=by
 refine⟨aeA,0,fun k=> ?_⟩
 rw[Ux];unfold aE
 cases a0.kind==(5:Int)<;>rfl
noncomputable def q88:Qt
 | [.d .node a0]=>some (true,[.d .bool (aE a0)])
 |_=>none
noncomputable def ZR:Gm.Spec:=Gm.Spec.of [.ro] [false] true q88
theorem FP:Gm.Good Tryz.prog (88,ZR):=by
 have hl:∀x∈([]:List (Nat×Gm.Spec)),Gm.Good Tryz.prog x:=fun _ h=>by cases h
 refine⟨⟨aD (aL.env hl) (bQ.cq hl) Tryz.func88 (by kernel_rfl:Tryz.f88.body=some ZQ) [4] (by kernel_rfl) ?_,_,Tryz.func88,by kernel_rfl,of_decide_eq_true (by kernel_rfl)⟩,Gm.Spec.ax _ _ _ _⟩
 intro ds outs h
 unfold q88 at h
 split at h
 ·cases h;exact ND _
 ·cases h
noncomputable def ZS:Code:=(Tryz.f25.body).getD .skip
def aeC:Nat→Kp:=fa [⟨[1],[],[],[]⟩,⟨[2],[],[],[]⟩]
noncomputable def aeD:Env:=bQ.env []
theorem Uy{R:Type}(n:Nat)(k:Kt R)(a0:ae):aG aeD aeC n ZS [.ro] [false] true [.tmp 2] [4] [.d .node a0] k=
 (cond ((ae.kind a0)==(5:Int))
 (k [.d .bool (((ae.keys a0).length:Int)==((ae.kids a0).length:Int))])
 (k [.d .bool false])):=by kernel_rfl
theorem NF(a0:ae):∃keep rounds,∀{R:Type}(k:Kt R),aG aeD keep rounds ZS [.ro] [false] true [.tmp 2] [4] [.d .node a0] k=k [.d .bool (aE a0)]:=by
 refine⟨aeC,0,fun k=> ?_⟩
 rw[Uy];unfold aE
 cases a0.kind==(5:Int)<;>rfl
noncomputable def q25:Qt
 | [.d .node a0]=>some (true,[.d .bool (aE a0)])
 |_=>none
noncomputable def s25:Gm.Spec:=Gm.Spec.of [.ro] [false] true q25
theorem ZT:Gm.Good Tryz.prog (25,s25):=by
 have hl:∀x∈([]:List (Nat×Gm.Spec)),Gm.Good Tryz.prog x:=fun _ h=>by cases h
 refine⟨⟨aD (aL.env hl) (bQ.cq hl) Tryz.func25 (by kernel_rfl:Tryz.f25.body=some ZS) [4] (by kernel_rfl) ?_,_,Tryz.func25,by kernel_rfl,of_decide_eq_true (by kernel_rfl)⟩,Gm.Spec.ax _ _ _ _⟩
 intro ds outs h
 unfold q25 at h
 split at h
 ·cases h;exact NF _
 ·cases h
noncomputable def ZU:Code:=(Tryz.f69.body).getD .skip
def aeE:Nat→Kp:=fa [⟨[0,1,2],[],[],[]⟩,⟨[6],[],[],[]⟩]
noncomputable def aeF:Env:=bQ.env []
theorem Uz{R:Type}(n:Nat)(k:Kt R)(a0:Int)(a1:Int)(a2:Int):aG aeF aeE n ZU [.ro,.ro,.ro] [false] true [.tmp 6] [4] [.d (.i .i64) a0,.d (.i .i64) a1,.d (.i .i64) a2] k=
 (cond (decide (a0≥a1))
 (k [.d .bool (decide (a0≤a2))])
 (k [.d .bool false])):=by kernel_rfl
theorem NG(a0:Int)(a1:Int)(a2:Int):∃keep rounds,∀{R:Type}(k:Kt R),aG aeF keep rounds ZU [.ro,.ro,.ro] [false] true [.tmp 6] [4] [.d (.i .i64) a0,.d (.i .i64) a1,.d (.i .i64) a2] k=k [.d .bool (om a0 a1 a2)]:=by
 refine⟨aeE,0,fun k=> ?_⟩
 rw[Uz];unfold om
 cases decide (a0≥a1)<;>rfl
noncomputable def q69:Qt
 | [.d (.i .i64) a0,.d (.i .i64) a1,.d (.i .i64) a2]=>some (true,[.d .bool (om a0 a1 a2)])
 |_=>none
noncomputable def ZV:Gm.Spec:=Gm.Spec.of [.ro,.ro,.ro] [false] true q69
theorem FQ:Gm.Good Tryz.prog (69,ZV):=by
 have hl:∀x∈([]:List (Nat×Gm.Spec)),Gm.Good Tryz.prog x:=fun _ h=>by cases h
 refine⟨⟨aD (aL.env hl) (bQ.cq hl) Tryz.func69 (by kernel_rfl:Tryz.f69.body=some ZU) [4] (by kernel_rfl) ?_,_,Tryz.func69,by kernel_rfl,of_decide_eq_true (by kernel_rfl)⟩,Gm.Spec.ax _ _ _ _⟩
 intro ds outs h
 unfold q69 at h
 split at h
 ·cases h;exact NG _ _ _
 ·cases h
noncomputable def HR(y0:BA)(y1:Int)(y2:Int):St:=⟨[(0,.c (.one (.v (.string y0)))),(5,.c (.one (.v (.int .i64 y1)))),(6,.c (.one (.v (.int .i64 y2))))],[],[]⟩
noncomputable def NH:St:=⟨[(2,.c (.one (.v (.bool false))))],[],[]⟩
noncomputable def NI(y0:BA)(y1:Int)(y2:Int)(y3:Bool):St:=⟨[(0,.c (.one (.v (.string y0)))),(5,.c (.one (.v (.int .i64 y1)))),(6,.c (.one (.v (.int .i64 y2)))),(7,.c (.one (.v (.bool y3))))],[],[]⟩
noncomputable def FR:Code:=(Tryz.f70.body).getD .skip
def JW:Nat→Kp:=fa [⟨[0],[],[],[]⟩,⟨[0,5,6],[],[],[]⟩,⟨[0,5,6,7],[],[],[]⟩,⟨[0,3,5,6],[],[],[]⟩,⟨[0,5,6,14],[],[],[]⟩,⟨[2],[],[],[]⟩,⟨[0,5,6],[],[],[]⟩,⟨[2],[],[],[]⟩]
noncomputable def BE:Env:=bQ.env [(69,ZV)]
noncomputable def xT{R:Type}(n:Nat)(x0:Option R)(x1:Int→Bool→Option R)(wB:BA)(wC:Int):Nat→Int→Option R
  |0,_=>none
  |m+1,wA=>
    (cond (decide (wA<wC))
   (cond ((decide ((0:Int)≤wA))&&(decide (wA<(ByteArray.size wB:Int))))
    (cond (!(om (IntKind.wrap .i64 (((ByteArray.data wB).getD (Int.toNat wA) 0).toNat:Int)) (32:Int) (126:Int)))
     (x0)
     (xT n x0 x1 wB wC m (IntKind.wrap .i64 (wA+(1:Int)))))
    none)
   (x1 wA (decide (wA<wC))))
theorem UA{R:Type}(n:Nat)(k':Kx R)(wB:BA)(wC:Int)(wA:Int):ev BE JW n (bC [1,0,1,0,0] FR) (HR wB wC wA) k'=
 (cond (decide (wA<wC))
 (cond ((decide ((0:Int)≤wA))&&(decide (wA<(ByteArray.size wB:Int))))
 (cond (!(om (IntKind.wrap .i64 (((ByteArray.data wB).getD (Int.toNat wA) 0).toNat:Int)) (32:Int) (126:Int)))
 (k' .ret NH)
 (k' .normal (HR wB wC (IntKind.wrap .i64 (wA+(1:Int))))))
 none)
 (k' (.exit 0) (NI wB wC wA (decide (wA<wC))))):=by kernel_rfl
theorem NJ{R:Type}(n:Nat)(k':Kx R)(wB:BA)(wC:Int):∀(m:Nat)(wA:Int),iter (fun st k=>ev BE JW n (bC [1,0,1,0,0] FR) st k) m (HR wB wC wA) k'=xT n (k' .ret NH) (fun(wD:Int)(wE:Bool)=>k' (.exit 0) (NI wB wC wD wE)) wB wC m wA:=by
 intro m;induction m with
 |zero=>intros;rfl
 |succ m ih=>
  intro wA
  simp only[iter]
  rw[UA]
  simp only[ih,xT]
noncomputable def NK{R:Type}(n:Nat)(k':Kx R):Kx R:=(b8 0 (eP BE JW n (bC [1,1] FR) k'))
theorem NL{R:Type}(n:Nat)(k:Kt R)(a0:BA):NK n (aI BE [.ro] [false] true [.tmp 2] [4] [.d .str a0] k) .ret NH=
 (k [.d .bool false]):=by kernel_rfl
theorem NM{R:Type}(n:Nat)(k:Kt R)(a0:BA)(wB:BA)(wC:Int)(wD:Int)(wE:Bool):NK n (aI BE [.ro] [false] true [.tmp 2] [4] [.d .str a0] k) (.exit 0) (NI wB wC wD wE)=
 (k [.d .bool (decide ((ByteArray.size wB:Int)≤(400:Int)))]):=by kernel_rfl
theorem UB{R:Type}(n:Nat)(k:Kt R)(a0:BA):aG BE JW n FR [.ro] [false] true [.tmp 2] [4] [.d .str a0] k=
 (xT n (k [.d .bool false]) (fun(wD:Int)(wE:Bool)=>
 (k [.d .bool (decide ((ByteArray.size a0:Int)≤(400:Int)))])) a0 (ByteArray.size a0:Int) n (0:Int)):=by
 refine Eq.trans (b:=(iter (fun st k=>ev BE JW n (bC [1,0,1,0,0] FR) st k) n (HR a0 (ByteArray.size a0:Int) (0:Int)) (NK n (aI BE [.ro] [false] true [.tmp 2] [4] [.d .str a0] k)))) (by kernel_rfl) ?_
 simp only[NJ,NL,NM]
theorem NN(a0:BA)(hg:oO a0=true):∃keep rounds,∀{R:Type}(k:Kt R),aG BE keep rounds FR [.ro] [false] true [.tmp 2] [4] [.d .str a0] k=k [.d .bool (jP a0)]:=by
 have hl:a0.size≤9223372036854775807:=iD hg
 refine⟨JW,a0.size+1,fun {R} k=> ?_⟩
 rw[UB]
 refine Eq.trans (jq (n:=a0.size) (F:=fun m i=>xT (a0.size+1) _ _ a0 (a0.size:Int) m i) (p:=fun j=>om (tf a0 j) 32 126) (good:=_) (bad:=k [.d .bool false])
  (fun m j hj=> ?_) (fun m=>by simp only[xT,iX,cond_false];rfl) a0.size 0 (a0.size+1) (by omega) (by omega)) ?_
 ·obtain⟨h1,h0,hw,ht⟩:=idx hj (by omega)
  have hc:0≤tf a0 j∧tf a0 j<256:=by
   unfold tf
   have:=UInt8.toNat_lt (a0.data.getD j 0)
   omega
  simp only[xT,h1,h0,hw,ht,Bool.and_self,cond_true]
  change 0≤(((ByteArray.data a0).getD j 0).toNat:Int)∧(((ByteArray.data a0).getD j 0).toNat:Int)<256 at hc
  show _=cond (om (((ByteArray.data a0).getD j 0).toNat:Int) 32 126) _ _
  generalize (((ByteArray.data a0).getD j 0).toNat:Int)=c at *
  rw[cn (by omega) (by omega)]
  cases om c 32 126<;>rfl
 ·unfold jP
  cases rE (fun j=>om (tf a0 j) 32 126) 0 a0.size<;>rfl
noncomputable def q70:Qt
 | [.d .str a0]=>some ((oO a0),[.d .bool (jP a0)])
 |_=>none
noncomputable def s70:Gm.Spec:=Gm.Spec.of [.ro] [false] true q70
theorem ZW:Gm.Good Tryz.prog (70,s70):=by
 have hl:∀x∈[(69,ZV)],Gm.Good Tryz.prog x:=bt.2 ⟨FQ,gw⟩
 refine⟨⟨aD (aL.env hl) (bQ.cq hl) Tryz.func70 (by kernel_rfl:Tryz.f70.body=some FR) [4] (by kernel_rfl) ?_,_,Tryz.func70,by kernel_rfl,of_decide_eq_true (by kernel_rfl)⟩,Gm.Spec.ax _ _ _ _⟩
 intro ds outs h
 unfold q70 at h
 split at h
 ·simp only[Option.some.injEq,Prod.mk.injEq] at h;obtain⟨hg,h⟩:=h;cases h;exact NN _ hg
 ·cases h
noncomputable def HS(y0:List BA)(y1:BA)(y2:Int)(y3:Int):St:=⟨[(0,.c (.one (.ro .str y0))),(1,.c (.one (.v (.string y1)))),(7,.c (.one (.v (.int .i64 y2)))),(8,.c (.one (.v (.int .i64 y3))))],[],[]⟩
noncomputable def NO(y0:Int):St:=⟨[(4,.c (.one (.v (.int .i64 y0))))],[],[]⟩
noncomputable def NP(y0:List BA)(y1:BA)(y2:Int)(y3:Int)(y4:Bool):St:=⟨[(0,.c (.one (.ro .str y0))),(1,.c (.one (.v (.string y1)))),(7,.c (.one (.v (.int .i64 y2)))),(8,.c (.one (.v (.int .i64 y3)))),(9,.c (.one (.v (.bool y4))))],[],[]⟩
noncomputable def FT:Code:=(Tryz.f52.body).getD .skip
def JX:Nat→Kp:=fa [⟨[0,1],[],[],[]⟩,⟨[0,1,7,8],[],[],[]⟩,⟨[0,1,7,8,9],[],[],[]⟩,⟨[0,1,5,7,8],[],[],[]⟩,⟨[0,1,5,7,8,16],[],[],[]⟩,⟨[4],[],[],[]⟩,⟨[0,1,7,8],[],[],[]⟩,⟨[4],[],[],[]⟩]
noncomputable def BF:Env:=bQ.env []
noncomputable def xU{R:Type}(n:Nat)(x0:Int→Option R)(x1:Int→Bool→Option R)(wA:List BA)(wC:BA)(wO:Int):Nat→Int→Option R
  |0,_=>none
  |m+1,wM=>
    (cond (decide (wM<wO))
   (cond ((decide ((0:Int)≤wM))&&(decide (wM<(wA.length:Int))))
    (cond (cy wC (al (t:= .str) wA (Int.toNat wM)))
     (x0 wM)
     (xU n x0 x1 wA wC wO m (IntKind.wrap .i64 (wM+(1:Int)))))
    none)
   (x1 wM (decide (wM<wO))))
theorem UC{R:Type}(n:Nat)(k':Kx R)(wA:List BA)(wC:BA)(wO:Int)(wM:Int):ev BF JX n (bC [1,0,1,0,0] FT) (HS wA wC wO wM) k'=
 (cond (decide (wM<wO))
 (cond ((decide ((0:Int)≤wM))&&(decide (wM<(wA.length:Int))))
 (cond (cy wC (al (t:= .str) wA (Int.toNat wM)))
 (k' .ret (NO wM))
 (k' .normal (HS wA wC wO (IntKind.wrap .i64 (wM+(1:Int))))))
 none)
 (k' (.exit 0) (NP wA wC wO wM (decide (wM<wO))))):=by kernel_rfl
theorem NQ{R:Type}(n:Nat)(k':Kx R)(wA:List BA)(wC:BA)(wO:Int):∀(m:Nat)(wM:Int),iter (fun st k=>ev BF JX n (bC [1,0,1,0,0] FT) st k) m (HS wA wC wO wM) k'=xU n (fun(wJ:Int)=>k' .ret (NO wJ)) (fun(wT:Int)(wU:Bool)=>k' (.exit 0) (NP wA wC wO wT wU)) wA wC wO m wM:=by
 intro m;induction m with
 |zero=>intros;rfl
 |succ m ih=>
  intro wM
  simp only[iter]
  rw[UC]
  simp only[ih,xU]
noncomputable def NR{R:Type}(n:Nat)(k':Kx R):Kx R:=(b8 0 (eP BF JX n (bC [1,1] FT) k'))
theorem NS{R:Type}(n:Nat)(k:Kt R)(a0:List BA)(a1:BA)(wJ:Int):NR n (aI BF [.ro,.ro] [false] true [.tmp 4] [3] [.d (.sl .str) a0,.d .str a1] k) .ret (NO wJ)=
 (k [.d (.i .i64) wJ]):=by kernel_rfl
theorem NT{R:Type}(n:Nat)(k:Kt R)(a0:List BA)(a1:BA)(wA:List BA)(wC:BA)(wO:Int)(wT:Int)(wU:Bool):NR n (aI BF [.ro,.ro] [false] true [.tmp 4] [3] [.d (.sl .str) a0,.d .str a1] k) (.exit 0) (NP wA wC wO wT wU)=
 (k [.d (.i .i64) (-1:Int)]):=by kernel_rfl
theorem UD{R:Type}(n:Nat)(k:Kt R)(a0:List BA)(a1:BA):aG BF JX n FT [.ro,.ro] [false] true [.tmp 4] [3] [.d (.sl .str) a0,.d .str a1] k=
 (xU n (fun(wJ:Int)=>
 (k [.d (.i .i64) wJ])) (fun(wT:Int)(wU:Bool)=>
 (k [.d (.i .i64) (-1:Int)])) a0 a1 (a0.length:Int) n (0:Int)):=by
 refine Eq.trans (b:=(iter (fun st k=>ev BF JX n (bC [1,0,1,0,0] FT) st k) n (HS a0 a1 (a0.length:Int) (0:Int)) (NR n (aI BF [.ro,.ro] [false] true [.tmp 4] [3] [.d (.sl .str) a0,.d .str a1] k)))) (by kernel_rfl) ?_
 simp only[NQ,NS,NT]
theorem NU(a0:List BA)(a1:BA)(hg:fk a0=true):∃keep rounds,∀{R:Type}(k:Kt R),aG BF keep rounds FT [.ro,.ro] [false] true [.tmp 4] [3] [.d (.sl .str) a0,.d .str a1] k=k [.d (.i .i64) (fx a0 a1)]:=by
 have hl:=ng hg
 refine⟨JX,a0.length+1,fun k=> ?_⟩
 rw[UD]
 refine Eq.trans (jM (n:=a0.length) (F:=fun m i=>xU (a0.length+1) _ _ a0 a1 (a0.length:Int) m i) (p:=fun j=>cy a1 (al (t:= .str) a0 j)) (hit:=fun i=>k [.d (.i .i64) i]) (miss:=k [.d (.i .i64) (-1:Int)])
  (fun m j hj=> ?_) (fun m=>by simp only[xU,iX,cond_false]) a0.length 0 (a0.length+1) (by omega) (by omega)) ?_
 ·obtain⟨h1,h0,hw,ht⟩:=idx hj (by omega)
  simp only[xU,h1,h0,hw,ht,Bool.and_self,cond_true]
 ·show _=k [.d (.i .i64) (oP _)]
  cases aZ (fun j=>cy a1 (al (t:= .str) a0 j)) 0 a0.length<;>rfl
noncomputable def q52:Qt
 | [.d (.sl .str) a0,.d .str a1]=>some (((fun(x:List BA)(_:BA)=>fk x) a0 a1),[.d (.i .i64) (fx a0 a1)])
 |_=>none
noncomputable def UE:Gm.Spec:=Gm.Spec.of [.ro,.ro] [false] true q52
theorem BG:Gm.Good Tryz.prog (52,UE):=by
 have hl:∀x∈([]:List (Nat×Gm.Spec)),Gm.Good Tryz.prog x:=fun _ h=>by cases h
 refine⟨⟨aD (aL.env hl) (bQ.cq hl) Tryz.func52 (by kernel_rfl:Tryz.f52.body=some FT) [3] (by kernel_rfl) ?_,_,Tryz.func52,by kernel_rfl,of_decide_eq_true (by kernel_rfl)⟩,Gm.Spec.ax _ _ _ _⟩
 intro ds outs h
 unfold q52 at h
 split at h
 ·simp only[Option.some.injEq,Prod.mk.injEq] at h;obtain⟨hg,h⟩:=h;cases h;exact NU _ _ hg
 ·cases h
noncomputable def DP(y0:Int)(y1:Bool)(y2:BA):St:=⟨[(0,.c (.one (.v (.int .i64 y0)))),(3,.c (.one (.v (.bool y1)))),(4,.c (.one (.v (.string y2))))],[],[]⟩
noncomputable def NV(y0:Int)(y1:Bool)(y2:BA)(y3:Bool):St:=⟨[(0,.c (.one (.v (.int .i64 y0)))),(3,.c (.one (.v (.bool y1)))),(4,.c (.one (.v (.string y2)))),(11,.c (.one (.v (.bool y3))))],[],[]⟩
noncomputable def FU:Code:=(Tryz.f29.body).getD .skip
def JY:Nat→Kp:=fa [⟨[0],[],[],[]⟩,⟨[0,7],[],[],[]⟩,⟨[2],[],[],[]⟩,⟨[0,3],[],[],[]⟩,⟨[0,3,4],[],[],[]⟩,⟨[0,3,4,11],[],[],[]⟩,⟨[0,3,4,5],[],[],[]⟩,⟨[0,3,4,5,15],[],[],[]⟩,⟨[0,3,4,5],[],[],[]⟩,⟨[0,3,4],[],[],[]⟩,⟨[0,3,4],[],[],[]⟩,⟨[4,27],[],[],[]⟩,⟨[2],[],[],[]⟩,⟨[2],[],[],[]⟩]
noncomputable def DQ:Env:=bQ.env []
noncomputable def so{R:Type}(n:Nat)(x0:Int→BA→Bool→Option R)(wQ:Bool):Nat→Int→BA→Option R
  |0,_,_=>none
  |m+1,wA,wD=>
    (cond (wA !=(0:Int))
   (cond (decide ((Int.tmod wA (10:Int))<(0:Int)))
    (cond (decide (ByteArray.size (bytesOf ([(IntKind.wrap .u8 (IntKind.wrap .i64 ((48:Int)+(IntKind.wrap .i64 ((0:Int)-(Int.tmod wA (10:Int)))))))]:List Int))+ByteArray.size wD≤9223372036854775807))
     (so n x0 wQ m (IntKind.wrap .i64 (Int.tdiv wA (10:Int))) ((bytesOf ([(IntKind.wrap .u8 (IntKind.wrap .i64 ((48:Int)+(IntKind.wrap .i64 ((0:Int)-(Int.tmod wA (10:Int)))))))]:List Int))++wD))
     none)
    (cond (decide (ByteArray.size (bytesOf ([(IntKind.wrap .u8 (IntKind.wrap .i64 ((48:Int)+(Int.tmod wA (10:Int)))))]:List Int))+ByteArray.size wD≤9223372036854775807))
     (so n x0 wQ m (IntKind.wrap .i64 (Int.tdiv wA (10:Int))) ((bytesOf ([(IntKind.wrap .u8 (IntKind.wrap .i64 ((48:Int)+(Int.tmod wA (10:Int)))))]:List Int))++wD))
     none))
   (x0 wA wD (wA !=(0:Int))))
theorem UF{R:Type}(n:Nat)(k':Kx R)(wA:Int)(wQ:Bool)(wD:BA):ev DQ JY n (bC [1,1,1,1,0,0,0] FU) (DP wA wQ wD) k'=
 (cond (wA !=(0:Int))
 (cond (decide ((Int.tmod wA (10:Int))<(0:Int)))
 (cond (decide (ByteArray.size (bytesOf ([(IntKind.wrap .u8 (IntKind.wrap .i64 ((48:Int)+(IntKind.wrap .i64 ((0:Int)-(Int.tmod wA (10:Int)))))))]:List Int))+ByteArray.size wD≤9223372036854775807))
 (k' .normal (DP (IntKind.wrap .i64 (Int.tdiv wA (10:Int))) wQ ((bytesOf ([(IntKind.wrap .u8 (IntKind.wrap .i64 ((48:Int)+(IntKind.wrap .i64 ((0:Int)-(Int.tmod wA (10:Int)))))))]:List Int))++wD)))
 none)
 (cond (decide (ByteArray.size (bytesOf ([(IntKind.wrap .u8 (IntKind.wrap .i64 ((48:Int)+(Int.tmod wA (10:Int)))))]:List Int))+ByteArray.size wD≤9223372036854775807))
 (k' .normal (DP (IntKind.wrap .i64 (Int.tdiv wA (10:Int))) wQ ((bytesOf ([(IntKind.wrap .u8 (IntKind.wrap .i64 ((48:Int)+(Int.tmod wA (10:Int)))))]:List Int))++wD)))
 none))
 (k' (.exit 0) (NV wA wQ wD (wA !=(0:Int))))):=by kernel_rfl
theorem NW{R:Type}(n:Nat)(k':Kx R)(wQ:Bool):∀(m:Nat)(wA:Int)(wD:BA),iter (fun st k=>ev DQ JY n (bC [1,1,1,1,0,0,0] FU) st k) m (DP wA wQ wD) k'=so n (fun(wV:Int)(wJ:BA)(wW:Bool)=>k' (.exit 0) (NV wV wQ wJ wW)) wQ m wA wD:=by
 intro m;induction m with
 |zero=>intros;rfl
 |succ m ih=>
  intro wA wD
  simp only[iter]
  rw[UF]
  simp only[ih,so]
noncomputable def XP{R:Type}(n:Nat)(k':Kx R):Kx R:=(b8 0 (eP DQ JY n (bC [1,1,1,1,1] FU) k'))
theorem NX{R:Type}(n:Nat)(k:Kt R)(a0:Int)(wQ:Bool)(wV:Int)(wJ:BA)(wW:Bool):XP n (aI DQ [.ro] [false] true [.tmp 2] [9] [.d (.i .i64) a0] k) (.exit 0) (NV wV wQ wJ wW)=
 (cond wQ
 (cond (decide (ByteArray.size (bs [45])+ByteArray.size wJ≤9223372036854775807))
 (k [.d .str ((bs [45])++wJ)])
 none)
 (k [.d .str wJ])):=by kernel_rfl
theorem UG{R:Type}(n:Nat)(k:Kt R)(a0:Int):aG DQ JY n FU [.ro] [false] true [.tmp 2] [9] [.d (.i .i64) a0] k=
 (cond (a0==(0:Int))
 (k [.d .str (bs [48])])
 (so n (fun(wV:Int)(wJ:BA)(wW:Bool)=>
 (cond (decide (a0<(0:Int)))
 (cond (decide (ByteArray.size (bs [45])+ByteArray.size wJ≤9223372036854775807))
 (k [.d .str ((bs [45])++wJ)])
 none)
 (k [.d .str wJ]))) (decide (a0<(0:Int))) n a0 ByteArray.empty)):=by
 refine Eq.trans (b:=(cond (a0==(0:Int))
 (k [.d .str (bs [48])])
 (iter (fun st k=>ev DQ JY n (bC [1,1,1,1,0,0,0] FU) st k) n (DP a0 (decide (a0<(0:Int))) ByteArray.empty) (XP n (aI DQ [.ro] [false] true [.tmp 2] [9] [.d (.i .i64) a0] k))))) (by kernel_rfl) ?_
 simp only[NW,NX]
theorem NY(a0:Int)(hg:gj a0=true):∃keep rounds,∀{R:Type}(k:Kt R),aG DQ keep rounds FU [.ro] [false] true [.tmp 2] [9] [.d (.i .i64) a0] k=k [.d .str (bw a0)]:=by
 have fP:=hg
 rw[lZ] at hg
 refine⟨JY,25,fun {R} k=> ?_⟩
 rw[UG]
 by_cases hz:a0=0
 ·subst hz
  have e:bw 0=bs [48]:=by rw[show (0:Int)=((0:Nat):Int) from rfl,im,hU (by omega)];rfl
  rw[e];rfl
 have hz':(a0==(0:Int))=false:=by rw[beq_eq_false_iff_ne];exact hz
 rw[hz',cond_false]
 have key:∀(d m:Nat)(n:Int)(out:BA),n.natAbs<10^d→d≤20→d<m→(n≤9223372036854775807∧ -9223372036854775808≤n)→out.size+d≤100→∀X:Int→BA→Bool→Option R,(∀ o b,X 0 o b=X 0 o false)→
   so 25 X (decide (a0<(0:Int))) m n out=X 0 (Jq n.natAbs out) false:=by
  intro d
  induction d with
  |zero=>
   intro m n out hn hd hm hw hs X hX
   obtain⟨m,rfl⟩:∃m',m=m'+1:=⟨m-1,by omega⟩
   have:n=0:=by omega
   subst this
   simp only[so]
   rfl
  |succ d ih=>
   intro m n out hn hd hm hw hs X hX
   obtain⟨m,rfl⟩:∃m',m=m'+1:=⟨m-1,by omega⟩
   by_cases h0:n=0
   ·subst h0
    simp only[so]
    rfl
   have h0':(n !=(0:Int))=true:=by rw[bne_iff_ne];exact h0
   have GV:n.natAbs/10<10^d:=by rw[Nat.pow_succ] at hn;omega
   have hb:=Mp (n.natAbs%10) (by omega)
   have dy:ByteArray.size ⟨#[UInt8.ofNat (48+n.natAbs%10)]⟩=1:=rfl
   simp only[so,h0',cond_true]
   by_cases h1:n<0
   ·have t1:IntKind.wrap .i64 (Int.tdiv n 10) = -((n.natAbs/10:Nat):Int):=by rw[tdiv_neg h1];exact cn (by omega) (by omega)
    have t2:Int.tmod n 10 = -((n.natAbs%10:Nat):Int):=tmod_neg h1
    have e1:IntKind.wrap .i64 ((0:Int) - -((n.natAbs%10:Nat):Int))=((n.natAbs%10:Nat):Int):=by rw[cn (by omega) (by omega)];omega
    rw[t1,t2,e1,hb]
    have fin:=ih m (-((n.natAbs/10:Nat):Int)) (⟨#[UInt8.ofNat (48+n.natAbs%10)]⟩++out) (by omega) (by omega) (by omega) (by omega) (by rw[ByteArray.size_append];omega) X hX
    rw[show (-((n.natAbs/10:Nat):Int)).natAbs=n.natAbs/10 by omega,zN (by omega)] at fin
    rw[← fin]
    have hle:=th (a:=⟨#[UInt8.ofNat (48+n.natAbs%10)]⟩) (b:=out) (by omega)
    by_cases h2 : -((n.natAbs%10:Nat):Int)<0
    ·simp only[h2,decide_true,cond_true,hle]
    ·have h3:n.natAbs%10=0:=by omega
     simp only[h2,decide_false,cond_false]
     have hb0:bytesOf [IntKind.wrap .u8 (IntKind.wrap .i64 ((48:Int) + -((n.natAbs%10:Nat):Int)))]=⟨#[UInt8.ofNat (48+n.natAbs%10)]⟩:=by rw[h3];rfl
     rw[hb0,hle,cond_true]
   ·have t1:IntKind.wrap .i64 (Int.tdiv n 10)=((n.natAbs/10:Nat):Int):=by rw[oS (by omega)];exact cn (by omega) (by omega)
    have t2:Int.tmod n 10=((n.natAbs%10:Nat):Int):=C' (by omega)
    rw[t1,t2,hb]
    have fin:=ih m (((n.natAbs/10:Nat):Int)) (⟨#[UInt8.ofNat (48+n.natAbs%10)]⟩++out) (by omega) (by omega) (by omega) (by omega) (by rw[ByteArray.size_append];omega) X hX
    rw[show (((n.natAbs/10:Nat):Int)).natAbs=n.natAbs/10 by omega,zN (by omega)] at fin
    rw[← fin]
    have hle:=th (a:=⟨#[UInt8.ofNat (48+n.natAbs%10)]⟩) (b:=out) (by omega)
    have h2 : ¬((n.natAbs%10:Nat):Int)<0:=by omega
    simp only[h2,decide_false,cond_false,cond_true,hle]
 refine Eq.trans (key 20 25 a0 ByteArray.empty (by have:(10:Nat)^20=100000000000000000000:=rfl;omega) (by omega) (by omega) (by omega) (by show 0+20≤100;omega) _ (fun _ _=>rfl)) ?_
 have e:Jq a0.natAbs ByteArray.empty=⟨(ef a0.natAbs).toArray⟩:=by
  unfold Jq;rw[if_neg (by omega)];apply qC;simp
 rw[e]
 by_cases h1:a0<0
 ·have hs:=ld fP
  have ed:bw a0=bs [45]++⟨(ef a0.natAbs).toArray⟩:=by
   unfold bw;rw[if_pos h1];apply qC;rw[w7];simp[bs]
  have uj:(bs [45]).size+ByteArray.size ⟨(ef a0.natAbs).toArray⟩≤9223372036854775807:=by
   rw[ed,ByteArray.size_append] at hs;omega
  simp only[h1,decide_true,cond_true,th uj,ed]
 ·have ed:bw a0=⟨(ef a0.natAbs).toArray⟩:=by
   unfold bw;rw[if_neg h1];simp
  simp only[h1,decide_false,cond_false,ed]
noncomputable def q29:Qt
 | [.d (.i .i64) a0]=>some ((gj a0),[.d .str (bw a0)])
 |_=>none
noncomputable def UH:Gm.Spec:=Gm.Spec.of [.ro] [false] true q29
theorem BH:Gm.Good Tryz.prog (29,UH):=by
 have hl:∀x∈([]:List (Nat×Gm.Spec)),Gm.Good Tryz.prog x:=fun _ h=>by cases h
 refine⟨⟨aD (aL.env hl) (bQ.cq hl) Tryz.func29 (by kernel_rfl:Tryz.f29.body=some FU) [9] (by kernel_rfl) ?_,_,Tryz.func29,by kernel_rfl,of_decide_eq_true (by kernel_rfl)⟩,Gm.Spec.ax _ _ _ _⟩
 intro ds outs h
 unfold q29 at h
 split at h
 ·simp only[Option.some.injEq,Prod.mk.injEq] at h;obtain⟨hg,h⟩:=h;cases h;exact NY _ hg
 ·cases h
noncomputable def q22:Qt
 | [.d (.i .i64) a0]=>some ((gj a0),[.d .str (bw a0)])
 |_=>none
noncomputable def ZX:List Dt→Nat
 | [.d (.i .i64) a0]=>iq a0
 |_=>0
noncomputable def aeH(N:Nat):Gm.Spec:=Gm.Spec.of [.ro] [false] true (qA ZX N q22)
noncomputable def ZY:Code:=(Tryz.f22.body).getD .skip
def aeI:Nat→Kp:=fa [⟨[0],[],[],[]⟩,⟨[0,3],[],[],[]⟩,⟨[2],[],[],[]⟩,⟨[0,14],[],[],[]⟩,⟨[2],[],[],[]⟩,⟨[0,25],[],[],[]⟩,⟨[2],[],[],[]⟩,⟨[2],[],[],[]⟩]
noncomputable def ZZ(N:Nat):Env:=bQ.env [(22,aeH N)]
theorem UI{R:Type}(N:Nat)(n:Nat)(k:Kt R)(a0:Int):aG (ZZ N) aeI n ZY [.ro] [false] true [.tmp 2] [9] [.d (.i .i64) a0] k=
 (cond (decide (a0<(0:Int)))
 (cond (decide (a0>(-10:Int)))
 (cond ((gj (IntKind.wrap .i64 (0-a0)))&&(Nat.blt (iq (IntKind.wrap .i64 (0-a0))) N))
 (cond (decide (ByteArray.size (bs [45])+ByteArray.size (bw (IntKind.wrap .i64 (0-a0)))≤9223372036854775807))
 (k [.d .str ((bs [45])++(bw (IntKind.wrap .i64 (0-a0))))])
 none)
 none)
 (cond (decide (a0<(0:Int)))
 (cond ((gj (IntKind.wrap .i64 (Int.tdiv a0 (10:Int))))&&(Nat.blt (iq (IntKind.wrap .i64 (Int.tdiv a0 (10:Int)))) N))
 (cond ((gj (IntKind.wrap .i64 (0-(Int.tmod a0 (10:Int)))))&&(Nat.blt (iq (IntKind.wrap .i64 (0-(Int.tmod a0 (10:Int))))) N))
 (cond (decide (ByteArray.size (bw (IntKind.wrap .i64 (Int.tdiv a0 (10:Int))))+ByteArray.size (bw (IntKind.wrap .i64 (0-(Int.tmod a0 (10:Int)))))≤9223372036854775807))
 (k [.d .str ((bw (IntKind.wrap .i64 (Int.tdiv a0 (10:Int))))++(bw (IntKind.wrap .i64 (0-(Int.tmod a0 (10:Int))))))])
 none)
 none)
 none)
 (cond (decide (a0<(10:Int)))
 (k [.d .str (Utf8.encode (IntKind.wrap .i32 (IntKind.wrap .i64 ((48:Int)+a0))))])
 (cond ((gj (IntKind.wrap .i64 (Int.tdiv a0 (10:Int))))&&(Nat.blt (iq (IntKind.wrap .i64 (Int.tdiv a0 (10:Int)))) N))
 (cond (decide (ByteArray.size (bw (IntKind.wrap .i64 (Int.tdiv a0 (10:Int))))+ByteArray.size (Utf8.encode (IntKind.wrap .i32 (IntKind.wrap .i64 ((48:Int)+(Int.tmod a0 (10:Int))))))≤9223372036854775807))
 (k [.d .str ((bw (IntKind.wrap .i64 (Int.tdiv a0 (10:Int))))++(Utf8.encode (IntKind.wrap .i32 (IntKind.wrap .i64 ((48:Int)+(Int.tmod a0 (10:Int)))))))])
 none)
 none))))
 (cond (decide (a0<(0:Int)))
 (cond ((gj (IntKind.wrap .i64 (Int.tdiv a0 (10:Int))))&&(Nat.blt (iq (IntKind.wrap .i64 (Int.tdiv a0 (10:Int)))) N))
 (cond ((gj (IntKind.wrap .i64 (0-(Int.tmod a0 (10:Int)))))&&(Nat.blt (iq (IntKind.wrap .i64 (0-(Int.tmod a0 (10:Int))))) N))
 (cond (decide (ByteArray.size (bw (IntKind.wrap .i64 (Int.tdiv a0 (10:Int))))+ByteArray.size (bw (IntKind.wrap .i64 (0-(Int.tmod a0 (10:Int)))))≤9223372036854775807))
 (k [.d .str ((bw (IntKind.wrap .i64 (Int.tdiv a0 (10:Int))))++(bw (IntKind.wrap .i64 (0-(Int.tmod a0 (10:Int))))))])
 none)
 none)
 none)
 (cond (decide (a0<(10:Int)))
 (k [.d .str (Utf8.encode (IntKind.wrap .i32 (IntKind.wrap .i64 ((48:Int)+a0))))])
 (cond ((gj (IntKind.wrap .i64 (Int.tdiv a0 (10:Int))))&&(Nat.blt (iq (IntKind.wrap .i64 (Int.tdiv a0 (10:Int)))) N))
 (cond (decide (ByteArray.size (bw (IntKind.wrap .i64 (Int.tdiv a0 (10:Int))))+ByteArray.size (Utf8.encode (IntKind.wrap .i32 (IntKind.wrap .i64 ((48:Int)+(Int.tmod a0 (10:Int))))))≤9223372036854775807))
 (k [.d .str ((bw (IntKind.wrap .i64 (Int.tdiv a0 (10:Int))))++(Utf8.encode (IntKind.wrap .i32 (IntKind.wrap .i64 ((48:Int)+(Int.tmod a0 (10:Int)))))))])
 none)
 none)))):=by kernel_rfl
theorem NZ(N:Nat)(a0:Int)(hg:gj a0=true)(hm:ZX [.d (.i .i64) a0]=N):∃keep rounds,∀{R:Type}(k:Kt R),aG (ZZ N) keep rounds ZY [.ro] [false] true [.tmp 2] [9] [.d (.i .i64) a0] k=k [.d .str (bw a0)]:=by
 refine⟨aeI,0,fun k=> ?_⟩
 rw[UI]
 have hm:iq a0=N:=hm
 subst hm
 have fP:=hg
 rw[lZ] at hg
 by_cases h1:a0<0
 ·by_cases h2:a0 > -10
  ·have o1:gj (IntKind.wrap .i64 (0-a0))=true:=by rw[cn (by omega) (by omega),lZ];omega
   have m1:Nat.blt (iq (IntKind.wrap .i64 (0-a0))) (iq a0)=true:=by
    rw[cn (by omega) (by omega),Nat.blt_eq];unfold iq;rw[if_pos h1,if_neg (by omega)];omega
   have s1:=ld o1
   have b1:(bs [45]).size=1:=rfl
   simp only[h1,h2,o1,m1,decide_true,cond_true,Bool.and_self,th (show (bs [45]).size+(bw (IntKind.wrap .i64 (0-a0))).size≤9223372036854775807 by omega),Da h1 h2]
  ·have t1:IntKind.wrap .i64 (Int.tdiv a0 10)=Int.tdiv a0 10:=by rw[tdiv_neg h1];exact cn (by omega) (by omega)
   have o1:gj (Int.tdiv a0 10)=true:=by rw[tdiv_neg h1,lZ];omega
   have m1:Nat.blt (iq (Int.tdiv a0 10)) (iq a0)=true:=by
    rw[tdiv_neg h1,Nat.blt_eq];unfold iq;rw[if_pos h1];split<;>omega
   have e2:IntKind.wrap .i64 (0-(Int.tmod a0 10))=((a0.natAbs%10:Nat):Int):=by
    rw[tmod_neg h1,cn (by omega) (by omega)];omega
   have o2:gj (IntKind.wrap .i64 (0-(Int.tmod a0 10)))=true:=by rw[e2,lZ];omega
   have m2:Nat.blt (iq (IntKind.wrap .i64 (0-(Int.tmod a0 10)))) (iq a0)=true:=by
    rw[e2,Nat.blt_eq];unfold iq;rw[if_pos h1,if_neg (by omega)];omega
   have s1:=ld o1
   have s2:=ld o2
   simp only[h1,h2,t1,o1,m1,o2,m2,decide_true,decide_false,cond_true,cond_false,Bool.and_self,th (show (bw (Int.tdiv a0 10)).size+(bw (IntKind.wrap .i64 (0-(Int.tmod a0 10)))).size≤9223372036854775807 by omega),TO h2]
 ·by_cases h2:a0<10
  ·simp only[h1,h2,decide_true,decide_false,cond_true,cond_false,Mn (show 0≤a0 by omega) h2]
  ·have t1:IntKind.wrap .i64 (Int.tdiv a0 10)=Int.tdiv a0 10:=by rw[oS (by omega)];exact cn (by omega) (by omega)
   have o1:gj (Int.tdiv a0 10)=true:=by rw[oS (by omega),lZ];omega
   have m1:Nat.blt (iq (Int.tdiv a0 10)) (iq a0)=true:=by
    rw[oS (by omega),Nat.blt_eq];unfold iq;rw[if_neg h1,if_neg (by omega)];omega
   have s1:=ld o1
   have s2:(Utf8.encode (IntKind.wrap .i32 (IntKind.wrap .i64 ((48:Int)+(Int.tmod a0 10))))).size≤4:=encode_size_le _
   simp only[h1,h2,t1,o1,m1,decide_true,decide_false,cond_true,cond_false,Bool.and_self,th (show (bw (Int.tdiv a0 10)).size+(Utf8.encode (IntKind.wrap .i32 (IntKind.wrap .i64 ((48:Int)+(Int.tmod a0 10))))).size≤9223372036854775807 by omega),TN h2]
noncomputable def s22:Gm.Spec:=Gm.Spec.of [.ro] [false] true q22
theorem N0:Gm.Good Tryz.prog (22,s22):=by
 refine⟨⟨gJ ZX fun N hr=> ?_,_,Tryz.func22,by kernel_rfl,of_decide_eq_true (by kernel_rfl)⟩,Gm.Spec.ax _ _ _ _⟩
 have hl:∀x∈[(22,aeH N)],Gm.Good Tryz.prog x:=bt.2 ⟨⟨⟨hr,_,Tryz.func22,by kernel_rfl,of_decide_eq_true (by kernel_rfl)⟩,Gm.Spec.ax _ _ _ _⟩,gw⟩
 intro R
 refine aD (E:=ZZ N) (aL.env hl) (bQ.cq hl) Tryz.func22 (by kernel_rfl:Tryz.f22.body=some ZY) [9] (by kernel_rfl) ?_
 intro ds outs h
 obtain⟨h,hm⟩:=dg h
 unfold q22 at h
 split at h
 ·simp only[Option.some.injEq,Prod.mk.injEq] at h;obtain⟨hg,h⟩:=h;cases h;exact NZ N _ hg hm
 ·cases h
noncomputable def tv(y0:BA)(y1:BA)(y2:Int)(y3:Int)(y4:Int):St:=⟨[(0,.c (.one (.v (.string y0)))),(4,.c (.one (.v (.string y1)))),(5,.c (.one (.v (.int .i64 y2)))),(25,.c (.one (.v (.int .i64 y3)))),(26,.c (.one (.v (.int .i64 y4))))],[],[]⟩
noncomputable def BI:St:=⟨[(2,.c (.one (.v (.int .i64 (0:Int))))),(3,.c (.one (.v (.bool false))))],[],[]⟩
noncomputable def FV(y0:BA)(y1:BA)(y2:Int)(y3:Int)(y4:Int)(y5:Bool):St:=⟨[(0,.c (.one (.v (.string y0)))),(4,.c (.one (.v (.string y1)))),(5,.c (.one (.v (.int .i64 y2)))),(25,.c (.one (.v (.int .i64 y3)))),(26,.c (.one (.v (.int .i64 y4)))),(27,.c (.one (.v (.bool y5))))],[],[]⟩
noncomputable def su:Code:=(Tryz.f106.body).getD .skip
def ua:Nat→Kp:=fa [⟨[0],[],[],[]⟩,⟨[0,4],[],[],[]⟩,⟨[0,4,14],[],[],[]⟩,⟨[0,4],[],[],[]⟩,⟨[0,4,23],[],[],[]⟩,⟨[2,3],[],[],[]⟩,⟨[0,4,5],[],[],[]⟩,⟨[0,4,5,25,26],[],[],[]⟩,⟨[0,4,5,25,26,27],[],[],[]⟩,⟨[0,4,5,6,25,26],[],[],[]⟩,⟨[0,4,5,6,25,26,38],[],[],[]⟩,⟨[2,3],[],[],[]⟩,⟨[0,4,5,25,26],[],[],[]⟩,⟨[0,4,5,25,26],[],[],[]⟩,⟨[0,5,52],[],[],[]⟩,⟨[0,5],[],[],[]⟩,⟨[5,63],[],[],[]⟩,⟨[2,3],[],[],[]⟩,⟨[2,3],[],[],[]⟩]
noncomputable def nq:Env:=bQ.env [(22,s22),(69,ZV)]
noncomputable def lN{R:Type}(n:Nat)(x0:Option R)(x1:Int→Int→Bool→Option R)(wA:BA)(wD:BA)(wP:Int):Nat→Int→Int→Option R
  |0,_,_=>none
  |m+1,wE,wH=>
    (cond (decide (wH<wP))
   (cond ((decide ((0:Int)≤wH))&&(decide (wH<(ByteArray.size wD:Int))))
    (cond (decide ((((ByteArray.data wD).getD (Int.toNat wH) 0).toNat:Int)<(48:Int)))
     (x0)
     (cond ((decide ((0:Int)≤wH))&&(decide (wH<(ByteArray.size wD:Int))))
      (cond (decide ((((ByteArray.data wD).getD (Int.toNat wH) 0).toNat:Int)>(57:Int)))
       (x0)
       (cond ((decide ((0:Int)≤wH))&&(decide (wH<(ByteArray.size wD:Int))))
        (lN n x0 x1 wA wD wP m (IntKind.wrap .i64 ((IntKind.wrap .i64 ((10:Int)*wE))+(IntKind.wrap .i64 (IntKind.wrap .u8 ((((ByteArray.data wD).getD (Int.toNat wH) 0).toNat:Int)-(48:Int)))))) (IntKind.wrap .i64 (wH+(1:Int))))
        none))
      none))
    none)
   (x1 wE wH (decide (wH<wP))))
theorem N1{R:Type}(n:Nat)(k':Kx R)(wA:BA)(wD:BA)(wE:Int)(wP:Int)(wH:Int):ev nq ua n (bC [1,1,1,1,1,0,1,0,0] su) (tv wA wD wE wP wH) k'=
 (cond (decide (wH<wP))
 (cond ((decide ((0:Int)≤wH))&&(decide (wH<(ByteArray.size wD:Int))))
 (cond (decide ((((ByteArray.data wD).getD (Int.toNat wH) 0).toNat:Int)<(48:Int)))
 (k' .ret BI)
 (cond ((decide ((0:Int)≤wH))&&(decide (wH<(ByteArray.size wD:Int))))
 (cond (decide ((((ByteArray.data wD).getD (Int.toNat wH) 0).toNat:Int)>(57:Int)))
 (k' .ret BI)
 (cond ((decide ((0:Int)≤wH))&&(decide (wH<(ByteArray.size wD:Int))))
 (k' .normal (tv wA wD (IntKind.wrap .i64 ((IntKind.wrap .i64 ((10:Int)*wE))+(IntKind.wrap .i64 (IntKind.wrap .u8 ((((ByteArray.data wD).getD (Int.toNat wH) 0).toNat:Int)-(48:Int)))))) wP (IntKind.wrap .i64 (wH+(1:Int)))))
 none))
 none))
 none)
 (k' (.exit 0) (FV wA wD wE wP wH (decide (wH<wP))))):=by kernel_rfl
theorem JZ{R:Type}(n:Nat)(k':Kx R)(wA:BA)(wD:BA)(wP:Int):∀(m:Nat)(wE:Int)(wH:Int),iter (fun st k=>ev nq ua n (bC [1,1,1,1,1,0,1,0,0] su) st k) m (tv wA wD wE wP wH) k'=lN n (k' .ret BI) (fun(wB:Int)(wR:Int)(wS:Bool)=>k' (.exit 0) (FV wA wD wB wP wR wS)) wA wD wP m wE wH:=by
 intro m;induction m with
 |zero=>intros;rfl
 |succ m ih=>
  intro wE wH
  simp only[iter]
  rw[N1]
  simp only[ih,lN]
noncomputable def xV{R:Type}(n:Nat)(k':Kx R):Kx R:=(b8 0 (eP nq ua n (bC [1,1,1,1,1,1] su) k'))
theorem J0{R:Type}(n:Nat)(k:Kt R)(a0:BA):xV n (aI nq [.ro] [false,false] true [.tmp 2,.tmp 3] [3,4] [.d .str a0] k) .ret BI=
 (k [.d (.i .i64) (0:Int),.d .bool false]):=by kernel_rfl
theorem J1{R:Type}(n:Nat)(k:Kt R)(a0:BA)(wA:BA)(wD:BA)(wP:Int)(wB:Int)(wR:Int)(wS:Bool):xV n (aI nq [.ro] [false,false] true [.tmp 2,.tmp 3] [3,4] [.d .str a0] k) (.exit 0) (FV wA wD wB wP wR wS)=
 (cond (decide ((ByteArray.size wD:Int)<(ByteArray.size wA:Int)))
 (cond (!(om (IntKind.wrap .i64 (0-wB)) (-1000000000000:Int) (1000000000000:Int)))
 (k [.d (.i .i64) (0:Int),.d .bool false])
 (cond (gj (IntKind.wrap .i64 (0-wB)))
 (cond (!(cy (bw (IntKind.wrap .i64 (0-wB))) wA))
 (k [.d (.i .i64) (0:Int),.d .bool false])
 (k [.d (.i .i64) (IntKind.wrap .i64 (0-wB)),.d .bool true]))
 none))
 (cond (!(om wB (-1000000000000:Int) (1000000000000:Int)))
 (k [.d (.i .i64) (0:Int),.d .bool false])
 (cond (gj wB)
 (cond (!(cy (bw wB) wA))
 (k [.d (.i .i64) (0:Int),.d .bool false])
 (k [.d (.i .i64) wB,.d .bool true]))
 none))):=by kernel_rfl
theorem N2{R:Type}(n:Nat)(k:Kt R)(a0:BA):aG nq ua n su [.ro] [false,false] true [.tmp 2,.tmp 3] [3,4] [.d .str a0] k=
 (cond (!(cy a0 ByteArray.empty))
 (cond (decide ((0:Int)<(ByteArray.size a0:Int)))
 (cond ((((ByteArray.data a0).getD 0 0).toNat:Int)==(45:Int))
 (cond ((decide ((1:Int)≤(ByteArray.size a0:Int)))&&(decide ((ByteArray.size a0:Int)≤(ByteArray.size a0:Int))))
 (cond (cy (ByteArray.extract a0 1 (Int.toNat (ByteArray.size a0:Int))) ByteArray.empty)
 (k [.d (.i .i64) (0:Int),.d .bool false])
 (cond (decide ((ByteArray.size (ByteArray.extract a0 1 (Int.toNat (ByteArray.size a0:Int))):Int)>(13:Int)))
 (k [.d (.i .i64) (0:Int),.d .bool false])
 (lN n (k [.d (.i .i64) (0:Int),.d .bool false]) (fun(wB:Int)(wR:Int)(wS:Bool)=>
 (cond (decide ((ByteArray.size (ByteArray.extract a0 1 (Int.toNat (ByteArray.size a0:Int))):Int)<(ByteArray.size a0:Int)))
 (cond (!(om (IntKind.wrap .i64 (0-wB)) (-1000000000000:Int) (1000000000000:Int)))
 (k [.d (.i .i64) (0:Int),.d .bool false])
 (cond (gj (IntKind.wrap .i64 (0-wB)))
 (cond (!(cy (bw (IntKind.wrap .i64 (0-wB))) a0))
 (k [.d (.i .i64) (0:Int),.d .bool false])
 (k [.d (.i .i64) (IntKind.wrap .i64 (0-wB)),.d .bool true]))
 none))
 (cond (!(om wB (-1000000000000:Int) (1000000000000:Int)))
 (k [.d (.i .i64) (0:Int),.d .bool false])
 (cond (gj wB)
 (cond (!(cy (bw wB) a0))
 (k [.d (.i .i64) (0:Int),.d .bool false])
 (k [.d (.i .i64) wB,.d .bool true]))
 none)))) a0 (ByteArray.extract a0 1 (Int.toNat (ByteArray.size a0:Int))) (ByteArray.size (ByteArray.extract a0 1 (Int.toNat (ByteArray.size a0:Int))):Int) n (0:Int) (0:Int))))
 none)
 (cond (cy a0 ByteArray.empty)
 (k [.d (.i .i64) (0:Int),.d .bool false])
 (cond (decide ((ByteArray.size a0:Int)>(13:Int)))
 (k [.d (.i .i64) (0:Int),.d .bool false])
 (lN n (k [.d (.i .i64) (0:Int),.d .bool false]) (fun(wB:Int)(wR:Int)(wS:Bool)=>
 (cond (decide ((ByteArray.size a0:Int)<(ByteArray.size a0:Int)))
 (cond (!(om (IntKind.wrap .i64 (0-wB)) (-1000000000000:Int) (1000000000000:Int)))
 (k [.d (.i .i64) (0:Int),.d .bool false])
 (cond (gj (IntKind.wrap .i64 (0-wB)))
 (cond (!(cy (bw (IntKind.wrap .i64 (0-wB))) a0))
 (k [.d (.i .i64) (0:Int),.d .bool false])
 (k [.d (.i .i64) (IntKind.wrap .i64 (0-wB)),.d .bool true]))
 none))
 (cond (!(om wB (-1000000000000:Int) (1000000000000:Int)))
 (k [.d (.i .i64) (0:Int),.d .bool false])
 (cond (gj wB)
 (cond (!(cy (bw wB) a0))
 (k [.d (.i .i64) (0:Int),.d .bool false])
 (k [.d (.i .i64) wB,.d .bool true]))
 none)))) a0 a0 (ByteArray.size a0:Int) n (0:Int) (0:Int)))))
 none)
 (cond (cy a0 ByteArray.empty)
 (k [.d (.i .i64) (0:Int),.d .bool false])
 (cond (decide ((ByteArray.size a0:Int)>(13:Int)))
 (k [.d (.i .i64) (0:Int),.d .bool false])
 (lN n (k [.d (.i .i64) (0:Int),.d .bool false]) (fun(wB:Int)(wR:Int)(wS:Bool)=>
 (cond (decide ((ByteArray.size a0:Int)<(ByteArray.size a0:Int)))
 (cond (!(om (IntKind.wrap .i64 (0-wB)) (-1000000000000:Int) (1000000000000:Int)))
 (k [.d (.i .i64) (0:Int),.d .bool false])
 (cond (gj (IntKind.wrap .i64 (0-wB)))
 (cond (!(cy (bw (IntKind.wrap .i64 (0-wB))) a0))
 (k [.d (.i .i64) (0:Int),.d .bool false])
 (k [.d (.i .i64) (IntKind.wrap .i64 (0-wB)),.d .bool true]))
 none))
 (cond (!(om wB (-1000000000000:Int) (1000000000000:Int)))
 (k [.d (.i .i64) (0:Int),.d .bool false])
 (cond (gj wB)
 (cond (!(cy (bw wB) a0))
 (k [.d (.i .i64) (0:Int),.d .bool false])
 (k [.d (.i .i64) wB,.d .bool true]))
 none)))) a0 a0 (ByteArray.size a0:Int) n (0:Int) (0:Int))))):=by
  refine Eq.trans (b:=(cond (!(cy a0 ByteArray.empty))
  (cond (decide ((0:Int)<(ByteArray.size a0:Int)))
   (cond ((((ByteArray.data a0).getD 0 0).toNat:Int)==(45:Int))
    (cond ((decide ((1:Int)≤(ByteArray.size a0:Int)))&&(decide ((ByteArray.size a0:Int)≤(ByteArray.size a0:Int))))
     (cond (cy (ByteArray.extract a0 1 (Int.toNat (ByteArray.size a0:Int))) ByteArray.empty)
      (k [.d (.i .i64) (0:Int),.d .bool false])
      (cond (decide ((ByteArray.size (ByteArray.extract a0 1 (Int.toNat (ByteArray.size a0:Int))):Int)>(13:Int)))
       (k [.d (.i .i64) (0:Int),.d .bool false])
       (iter (fun st k=>ev nq ua n (bC [1,1,1,1,1,0,1,0,0] su) st k) n (tv a0 (ByteArray.extract a0 1 (Int.toNat (ByteArray.size a0:Int))) (0:Int) (ByteArray.size (ByteArray.extract a0 1 (Int.toNat (ByteArray.size a0:Int))):Int) (0:Int)) (xV n (aI nq [.ro] [false,false] true [.tmp 2,.tmp 3] [3,4] [.d .str a0] k)))))
     none)
    (cond (cy a0 ByteArray.empty)
     (k [.d (.i .i64) (0:Int),.d .bool false])
     (cond (decide ((ByteArray.size a0:Int)>(13:Int)))
      (k [.d (.i .i64) (0:Int),.d .bool false])
      (iter (fun st k=>ev nq ua n (bC [1,1,1,1,1,0,1,0,0] su) st k) n (tv a0 a0 (0:Int) (ByteArray.size a0:Int) (0:Int)) (xV n (aI nq [.ro] [false,false] true [.tmp 2,.tmp 3] [3,4] [.d .str a0] k))))))
   none)
  (cond (cy a0 ByteArray.empty)
   (k [.d (.i .i64) (0:Int),.d .bool false])
   (cond (decide ((ByteArray.size a0:Int)>(13:Int)))
    (k [.d (.i .i64) (0:Int),.d .bool false])
    (iter (fun st k=>ev nq ua n (bC [1,1,1,1,1,0,1,0,0] su) st k) n (tv a0 a0 (0:Int) (ByteArray.size a0:Int) (0:Int)) (xV n (aI nq [.ro] [false,false] true [.tmp 2,.tmp 3] [3,4] [.d .str a0] k))))))) (by kernel_rfl) ?_
  simp only[JZ,J0,J1]
theorem J2(a0:BA):∃keep rounds,∀{R:Type}(k:Kt R),aG nq keep rounds su [.ro] [false,false] true [.tmp 2,.tmp 3] [3,4] [.d .str a0] k=k [.d (.i .i64) ((jQ a0).1),.d .bool ((jQ a0).2)]:=by
  refine⟨ua,14,fun {R} k=> ?_⟩
  rw[N2]
  show _=k [.d (.i .i64) (jQ a0).1,.d .bool (jQ a0).2]
  have key:∀(t:BA)(bad:Option R)(fin:Int→Int→Bool→Option R),t.size≤13→lN 14 bad fin a0 t (t.size:Int) 14 (0:Int) (0:Int)=Sum.elim (fun _=>bad) (fun n=>fin n (t.size:Int) false) (fj jr t.data.toList 0):=by
    intro t bad fin ht
    have hlen:t.data.toList.length=t.size:=rfl
    refine Eq.trans (td (xs:=t.data.toList) (F:=fun m j a=>lN 14 bad fin a0 t (t.size:Int) m a (j:Int)) (step:=jr) (out:=fun _=>bad) (good:=fun n=>fin n (t.size:Int) false) (fun _=>True) (fun _ _ _ _ _ _=>trivial) (fun m j a x hx _=> ?_) (fun m a _=> ?_) t.size 0 14 0 (by omega) (by omega) trivial) (by rw[List.drop_zero])
    · have hj:j<t.size:=by have:=aP hx;omega
      obtain⟨h1,h0,hw,htt⟩:=idx hj (by omega)
      have hc:(ByteArray.data t).getD j 0=x:=by
        rw[Array.getElem?_toList] at hx
        rw[Array.getD_eq_getD_getElem?,hx];rfl
      simp only[lN,h1,h0,hw,htt,hc,Bool.and_self,cond_true]
      unfold jr
      cases decide ((x.toNat:Int)<(48:Int))<;>cases decide ((x.toNat:Int)>(57:Int))<;>rfl
    · simp only[lN,hlen,iX,cond_false]
  have fin:∀t:BA,cond (cy t ByteArray.empty) (k [.d (.i .i64) (0:Int),.d .bool false]) (cond (decide ((ByteArray.size t:Int)>(13:Int))) (k [.d (.i .i64) (0:Int),.d .bool false])
      (lN 14 (k [.d (.i .i64) (0:Int),.d .bool false]) (fun(wB:Int)(wR:Int)(wS:Bool)=>
        (cond (decide ((ByteArray.size t:Int)<(ByteArray.size a0:Int)))
          (cond (!(om (IntKind.wrap .i64 (0-wB)) (-1000000000000:Int) (1000000000000:Int)))
            (k [.d (.i .i64) (0:Int),.d .bool false])
            (cond (gj (IntKind.wrap .i64 (0-wB)))
              (cond (!(cy (bw (IntKind.wrap .i64 (0-wB))) a0))
                (k [.d (.i .i64) (0:Int),.d .bool false])
                (k [.d (.i .i64) (IntKind.wrap .i64 (0-wB)),.d .bool true]))
              none))
          (cond (!(om wB (-1000000000000:Int) (1000000000000:Int)))
            (k [.d (.i .i64) (0:Int),.d .bool false])
            (cond (gj wB)
              (cond (!(cy (bw wB) a0))
                (k [.d (.i .i64) (0:Int),.d .bool false])
                (k [.d (.i .i64) wB,.d .bool true]))
              none)))) a0 t (ByteArray.size t:Int) 14 (0:Int) (0:Int)))=
      (fun r:Int×Bool=>k [.d (.i .i64) r.1,.d .bool r.2]) (cond (cy t ByteArray.empty) ((0:Int),false) (cond (decide ((t.size:Int)>13)) ((0:Int),false) (Sum.elim (fun _=>((0:Int),false)) (qE a0 t) (fj jr t.data.toList 0)))):=by
    intro t
    cases cy t ByteArray.empty
    rotate_left
    · rfl
    by_cases h13:(ByteArray.size t:Int)>(13:Int)
    · rw[decide_eq_true h13];rfl
    rw[decide_eq_false h13,key t _ _ (by omega)]
    simp only[cond_false]
    have one:∀n:Int,(cond (!(om n (-1000000000000:Int) (1000000000000:Int)))
            (k [.d (.i .i64) (0:Int),.d .bool false])
            (cond (gj n)
              (cond (!(cy (bw n) a0))
                (k [.d (.i .i64) (0:Int),.d .bool false])
                (k [.d (.i .i64) n,.d .bool true]))
              none))=(fun r:Int×Bool=>k [.d (.i .i64) r.1,.d .bool r.2]) (cond (om n (-1000000000000) 1000000000000) (cond (cy (bw n) a0) (n,true) ((0:Int),false)) ((0:Int),false)):=by
      intro n
      cases k7:om n (-1000000000000:Int) (1000000000000:Int)
      · rfl
      have:=Hy.1 k7
      rw[lG (n:=n) (by omega) (by omega)]
      cases cy (bw n) a0<;>rfl
    cases fj jr t.data.toList 0 with
    |inl _=>rfl
    |inr m=>
      simp only[Sum.elim_inr,qE]
      cases decide ((ByteArray.size t:Int)<(ByteArray.size a0:Int))
      · exact one m
      · exact one (IntKind.wrap .i64 (0-m))
  cases he:cy a0 ByteArray.empty
  rotate_left
  · have hT:qD a0=a0:=by unfold qD;rw[he];rfl
    unfold jQ
    rw[hT]
    simp only[Bool.not_true,cond_false]
    have f:=fin a0
    rw[he] at f
    rw[he]
    exact f
  have n9:0<a0.size:=by
    rcases Nat.eq_zero_or_pos a0.size with h | h
    · exact absurd (c9.2 (Js h)) (by rw[he];decide)
    · exact h
  have d1:decide ((0:Int)<(ByteArray.size a0:Int))=true:=decide_eq_true (by omega)
  have d2:decide ((1:Int)≤(ByteArray.size a0:Int))=true:=decide_eq_true (by omega)
  have d3:decide ((ByteArray.size a0:Int)≤(ByteArray.size a0:Int))=true:=decide_eq_true (by omega)
  simp only[d1,d2,d3,Bool.not_false,Bool.and_self,cond_true,Int.toNat_natCast]
  cases hb:((((ByteArray.data a0).getD 0 0).toNat:Int)==(45:Int))
  · have hT:qD a0=a0:=by unfold qD;rw[he,hb];rfl
    unfold jQ
    rw[hT]
    simp only[cond_false]
    have f:=fin a0
    rw[he] at f
    rw[he]
    exact f
  · have hT:qD a0=ByteArray.extract a0 1 a0.size:=by unfold qD;rw[he,hb];rfl
    unfold jQ
    rw[hT]
    simp only[cond_true]
    exact fin _
noncomputable def aeK:Qt
 | [.d .str a0]=>some (true,[.d (.i .i64) ((jQ a0).1),.d .bool ((jQ a0).2)])
 |_=>none
noncomputable def Z0:Gm.Spec:=Gm.Spec.of [.ro] [false,false] true aeK
theorem UJ:Gm.Good Tryz.prog (106,Z0):=by
 have hl:∀x∈[(22,s22),(69,ZV)],Gm.Good Tryz.prog x:=bt.2 ⟨N0,bt.2 ⟨FQ,gw⟩⟩
 refine⟨⟨aD (aL.env hl) (bQ.cq hl) Tryz.func106 (by kernel_rfl:Tryz.f106.body=some su) [3,4] (by kernel_rfl) ?_,_,Tryz.func106,by kernel_rfl,of_decide_eq_true (by kernel_rfl)⟩,Gm.Spec.ax _ _ _ _⟩
 intro ds outs h
 unfold aeK at h
 split at h
 ·cases h;exact J2 _
 ·cases h
noncomputable def Z1:Code:=(Tryz.f90.body).getD .skip
def aeL:Nat→Kp:=fa [⟨[0],[],[],[]⟩,⟨[4,5],[],[],[]⟩,⟨[2,3],[],[],[]⟩]
noncomputable def aeM:Env:=bQ.env [(106,Z0)]
theorem UK{R:Type}(n:Nat)(k:Kt R)(a0:BA):aG aeM aeL n Z1 [.ro] [false,false] true [.tmp 2,.tmp 3] [3,4] [.d .str a0] k=
 (cond ((jQ a0).2)
 (k [.d (.i .i64) ((jQ a0).1),.d .bool (decide (((jQ a0).1)≥(0:Int)))])
 (k [.d (.i .i64) ((jQ a0).1),.d .bool false])):=by kernel_rfl
theorem N3(a0:BA):∃keep rounds,∀{R:Type}(k:Kt R),aG aeM keep rounds Z1 [.ro] [false,false] true [.tmp 2,.tmp 3] [3,4] [.d .str a0] k=k [.d (.i .i64) ((fA a0).1),.d .bool ((fA a0).2)]:=by
 refine⟨aeL,0,fun {R} k=> ?_⟩
 rw[UK]
 show _=k [.d (.i .i64) (fA a0).1,.d .bool (fA a0).2]
 unfold fA
 cases (jQ a0).2<;>rfl
noncomputable def q90:Qt
 | [.d .str a0]=>some (true,[.d (.i .i64) ((fA a0).1),.d .bool ((fA a0).2)])
 |_=>none
noncomputable def s90:Gm.Spec:=Gm.Spec.of [.ro] [false,false] true q90
theorem N4:Gm.Good Tryz.prog (90,s90):=by
 have hl:∀x∈[(106,Z0)],Gm.Good Tryz.prog x:=bt.2 ⟨UJ,gw⟩
 refine⟨⟨aD (aL.env hl) (bQ.cq hl) Tryz.func90 (by kernel_rfl:Tryz.f90.body=some Z1) [3,4] (by kernel_rfl) ?_,_,Tryz.func90,by kernel_rfl,of_decide_eq_true (by kernel_rfl)⟩,Gm.Spec.ax _ _ _ _⟩
 intro ds outs h
 unfold q90 at h
 split at h
 ·cases h;exact N3 _
 ·cases h
noncomputable def Z2:Code:=(Tryz.f93.body).getD .skip
def aeO:Nat→Kp:=fa [⟨[1,2],[],[],[]⟩,⟨[1,2,10],[],[],[]⟩,⟨[2,5],[],[],[]⟩,⟨[5,19],[],[],[]⟩,⟨[4],[],[],[]⟩,⟨[4],[],[],[]⟩,⟨[2,6,7],[],[],[]⟩,⟨[6,39],[],[],[]⟩,⟨[4],[],[],[]⟩,⟨[4],[],[],[]⟩]
noncomputable def aeP:Env:=bQ.env [(52,UE),(90,s90)]
theorem UL{R:Type}(n:Nat)(k:Kt R)(a0:ae)(a1:BA):aG aeP aeO n Z2 [.ro,.ro] [false] true [.tmp 4] [3] [.d .node a0,.d .str a1] k=
 (cond ((ae.kind a0)==(5:Int))
 (cond ((fun(x:List BA)(_:BA)=>fk x) (ae.keys a0) a1)
 (cond (decide ((fx (ae.keys a0) a1)≥((ae.kids a0).length:Int)))
 (k [.d (.i .i64) (-1:Int)])
 (k [.d (.i .i64) (fx (ae.keys a0) a1)]))
 none)
 (cond ((ae.kind a0) !=(4:Int))
 (k [.d (.i .i64) (-1:Int)])
 (cond (!((fA a1).2))
 (k [.d (.i .i64) (-1:Int)])
 (cond (decide (((fA a1).1)≥((ae.kids a0).length:Int)))
 (k [.d (.i .i64) (-1:Int)])
 (k [.d (.i .i64) ((fA a1).1)]))))):=by kernel_rfl
theorem N5(a0:ae)(a1:BA)(hg:ag a0=true):∃keep rounds,∀{R:Type}(k:Kt R),aG aeP keep rounds Z2 [.ro,.ro] [false] true [.tmp 4] [3] [.d .node a0,.d .str a1] k=k [.d (.i .i64) (aw a0 a1)]:=by
 have fP:=hg
 rw[bf] at hg
 simp only[Bool.and_eq_true] at hg
 obtain⟨_,_,_,lQ,lg⟩:=hg
 have p9:=aR lQ
 have ot:=aR lg
 refine⟨aeO,0,fun {R} k=> ?_⟩
 rw[UL]
 simp only[lF lQ,cond_true]
 cases h5:a0.kind==(5:Int)
 ·have e:aw a0 a1=cond (a0.kind==(4:Int)) (oP (aZ (fun j=>cy (bw (j:Int)) a1) 0 a0.kids.length)) (-1):=by unfold aw;rw[h5];rfl
  rw[e,←Fk ot]
  simp only[bne,cond_false]
  cases a0.kind==(4:Int)
  ·rfl
  cases (fA a1).2
  ·rfl
  cases decide ((fA a1).1≥(a0.kids.length:Int))<;>rfl
 ·have e:aw a0 a1=bj a0 a1:=by unfold aw;rw[h5];rfl
  rw[e,←Fm h5]
  simp only[cond_true]
  cases decide (fx a0.keys a1≥(a0.kids.length:Int))<;>rfl
noncomputable def q93:Qt
 | [.d .node a0,.d .str a1]=>some (((fun(x:ae)(_:BA)=>ag x) a0 a1),[.d (.i .i64) (aw a0 a1)])
 |_=>none
noncomputable def UM:Gm.Spec:=Gm.Spec.of [.ro,.ro] [false] true q93
theorem BJ:Gm.Good Tryz.prog (93,UM):=by
 have hl:∀x∈[(52,UE),(90,s90)],Gm.Good Tryz.prog x:=bt.2 ⟨BG,bt.2 ⟨N4,gw⟩⟩
 refine⟨⟨aD (aL.env hl) (bQ.cq hl) Tryz.func93 (by kernel_rfl:Tryz.f93.body=some Z2) [3] (by kernel_rfl) ?_,_,Tryz.func93,by kernel_rfl,of_decide_eq_true (by kernel_rfl)⟩,Gm.Spec.ax _ _ _ _⟩
 intro ds outs h
 unfold q93 at h
 split at h
 ·simp only[Option.some.injEq,Prod.mk.injEq] at h;obtain⟨hg,h⟩:=h;cases h;exact N5 _ _ hg
 ·cases h
noncomputable def HT(y0:BA)(y1:Int)(y2:Int)(y3:Int)(y4:BA)(y5:List BA)(y6:List ae):St:=⟨[(1,.c (.one (.v (.string y0)))),(2,.c (.one (.pt 2 0))),(5,.c (.one (.v (.int .i64 y1))))],[(2,⟨.node,[.v (.int .i64 y2),.v (.int .i64 y3),.v (.string y4),.ro .str y5,.ro .node y6]⟩)],[]⟩
noncomputable def N6(y0:Int):St:=⟨[(4,.c (.one (.v (.int .i64 y0))))],[],[]⟩
noncomputable def xW(y0:BA)(y1:Int)(y2:Bool)(y3:Int)(y4:Int)(y5:BA)(y6:List BA)(y7:List ae):St:=⟨[(1,.c (.one (.v (.string y0)))),(2,.c (.one (.pt 2 0))),(5,.c (.one (.v (.int .i64 y1)))),(22,.c (.one (.v (.bool y2))))],[(2,⟨.node,[.v (.int .i64 y3),.v (.int .i64 y4),.v (.string y5),.ro .str y6,.ro .node y7]⟩)],[]⟩
noncomputable def FW:Code:=(Tryz.f64.body).getD .skip
def J3:Nat→Kp:=fa [⟨[1,2],[],[],[]⟩,⟨[1,2,5],[],[],[]⟩,⟨[1,2,5,22],[],[],[]⟩,⟨[1,2,5],[],[],[]⟩,⟨[1,2,5,31],[],[],[]⟩,⟨[4],[],[],[]⟩,⟨[4],[],[],[]⟩]
noncomputable def yQ:Env:=bQ.env []
noncomputable def sw{R:Type}(n:Nat)(x0:Int→Option R)(x1:Int→Bool→Option R)(x2:Int→Option R)(wC:BA)(wI:Int)(wK:Int)(wL:BA)(wF:List BA)(wG:List ae):Nat→Int→Option R
  |0,_=>none
  |m+1,wE=>
    (cond (decide (wE<(wF.length:Int)))
   (cond (decide (wE<(wG.length:Int)))
    (cond (wI==(5:Int))
     (cond ((decide ((0:Int)≤wE))&&(decide (wE<(wF.length:Int))))
      (cond (cy (al (t:= .str) wF (Int.toNat wE)) wC)
       (x0 wE)
       (sw n x0 x1 x2 wC wI wK wL wF wG m (IntKind.wrap .i64 (wE+(1:Int)))))
      none)
     (x1 wE (wI==(5:Int))))
    (x2 wE))
   (x2 wE))
theorem UN{R:Type}(n:Nat)(k':Kx R)(wC:BA)(wE:Int)(wI:Int)(wK:Int)(wL:BA)(wF:List BA)(wG:List ae):ev yQ J3 n (bC [1,0,1,0,0] FW) (HT wC wE wI wK wL wF wG) k'=
 (cond (decide (wE<(wF.length:Int)))
 (cond (decide (wE<(wG.length:Int)))
 (cond (wI==(5:Int))
 (cond ((decide ((0:Int)≤wE))&&(decide (wE<(wF.length:Int))))
 (cond (cy (al (t:= .str) wF (Int.toNat wE)) wC)
 (k' .ret (N6 wE))
 (k' .normal (HT wC (IntKind.wrap .i64 (wE+(1:Int))) wI wK wL wF wG)))
 none)
 (k' (.exit 0) (xW wC wE (wI==(5:Int)) wI wK wL wF wG)))
 (k' (.exit 0) (xW wC wE false wI wK wL wF wG)))
 (k' (.exit 0) (xW wC wE false wI wK wL wF wG))):=by kernel_rfl
theorem N7{R:Type}(n:Nat)(k':Kx R)(wC:BA)(wI:Int)(wK:Int)(wL:BA)(wF:List BA)(wG:List ae):∀(m:Nat)(wE:Int),iter (fun st k=>ev yQ J3 n (bC [1,0,1,0,0] FW) st k) m (HT wC wE wI wK wL wF wG) k'=sw n (fun(wJ:Int)=>k' .ret (N6 wJ)) (fun(wB:Int)(wX:Bool)=>k' (.exit 0) (xW wC wB wX wI wK wL wF wG)) (fun(wB:Int)=>k' (.exit 0) (xW wC wB false wI wK wL wF wG)) wC wI wK wL wF wG m wE:=by
 intro m;induction m with
 |zero=>intros;rfl
 |succ m ih=>
  intro wE
  simp only[iter]
  rw[UN]
  simp only[ih,sw]
noncomputable def HU{R:Type}(n:Nat)(k':Kx R):Kx R:=(b8 0 (eP yQ J3 n (bC [1,1] FW) k'))
theorem N8{R:Type}(n:Nat)(k:Kt R)(a0:ae)(a1:BA)(wJ:Int):HU n (aI yQ [.ro,.ro] [false] true [.tmp 4] [3] [.d .node a0,.d .str a1] k) .ret (N6 wJ)=
 (k [.d (.i .i64) wJ]):=by kernel_rfl
theorem N9{R:Type}(n:Nat)(k:Kt R)(a0:ae)(a1:BA)(wC:BA)(wI:Int)(wK:Int)(wL:BA)(wF:List BA)(wG:List ae)(wB:Int)(wX:Bool):HU n (aI yQ [.ro,.ro] [false] true [.tmp 4] [3] [.d .node a0,.d .str a1] k) (.exit 0) (xW wC wB wX wI wK wL wF wG)=
 (k [.d (.i .i64) (-1:Int)]):=by kernel_rfl
theorem N'{R:Type}(n:Nat)(k:Kt R)(a0:ae)(a1:BA)(wC:BA)(wI:Int)(wK:Int)(wL:BA)(wF:List BA)(wG:List ae)(wB:Int):HU n (aI yQ [.ro,.ro] [false] true [.tmp 4] [3] [.d .node a0,.d .str a1] k) (.exit 0) (xW wC wB false wI wK wL wF wG)=
 (k [.d (.i .i64) (-1:Int)]):=by kernel_rfl
theorem UO{R:Type}(n:Nat)(k:Kt R)(a0:ae)(a1:BA):aG yQ J3 n FW [.ro,.ro] [false] true [.tmp 4] [3] [.d .node a0,.d .str a1] k=
 (sw n (fun(wJ:Int)=>
 (k [.d (.i .i64) wJ])) (fun(wB:Int)(wX:Bool)=>
 (k [.d (.i .i64) (-1:Int)])) (fun(wB:Int)=>
 (k [.d (.i .i64) (-1:Int)])) a1 (ae.kind a0) (ae.n a0) (ae.s a0) (ae.keys a0) (ae.kids a0) n (0:Int)):=by
 refine Eq.trans (b:=(iter (fun st k=>ev yQ J3 n (bC [1,0,1,0,0] FW) st k) n (HT a1 (0:Int) (ae.kind a0) (ae.n a0) (ae.s a0) (ae.keys a0) (ae.kids a0)) (HU n (aI yQ [.ro,.ro] [false] true [.tmp 4] [3] [.d .node a0,.d .str a1] k)))) (by kernel_rfl) ?_
 simp only[N7,N8,N9,N']
theorem Oa(a0:ae)(a1:BA)(hg:ag a0=true):∃keep rounds,∀{R:Type}(k:Kt R),aG yQ keep rounds FW [.ro,.ro] [false] true [.tmp 4] [3] [.d .node a0,.d .str a1] k=k [.d (.i .i64) (bj a0 a1)]:=by
 have fP:=hg
 rw[bf] at hg
 simp only[Bool.and_eq_true] at hg
 obtain⟨_,_,_,lQ,lg⟩:=hg
 have p9:=aR lQ
 have ot:=aR lg
 refine⟨J3,a0.keys.length+1,fun {R} k=> ?_⟩
 rw[UO]
 show _=k [.d (.i .i64) (bj a0 a1)]
 unfold bj
 cases h5:a0.kind==(5:Int)
 ·rw[sw]
  simp only[h5,cond_false]
  cases decide ((0:Int)<(a0.keys.length:Int))<;>cases decide ((0:Int)<(a0.kids.length:Int))<;>rfl
 refine Eq.trans (jM (n:=min a0.keys.length a0.kids.length) (F:=fun m i=>sw (a0.keys.length+1) _ _ _ a1 a0.kind a0.n a0.s a0.keys a0.kids m i) (p:=fun j=>cy (al (t:= .str) a0.keys j) a1) (hit:=fun i=>k [.d (.i .i64) i]) (miss:=k [.d (.i .i64) (-1:Int)])
  (fun m j hj=> ?_) (fun m=> ?_) (min a0.keys.length a0.kids.length) 0 (a0.keys.length+1) (by omega) (by omega)) ?_
 ·obtain⟨h1,h0,hw,ht⟩:=idx (show j<a0.keys.length by omega) (by omega)
  have h2:decide ((j:Int)<(a0.kids.length:Int))=true:=decide_eq_true (by omega)
  simp only[sw,h1,h0,h2,hw,ht,h5,Bool.and_self,cond_true]
 ·by_cases hle:a0.keys.length≤a0.kids.length
  ·rw[Nat.min_eq_left hle]
   simp only[sw,iX,cond_false]
  ·rw[Nat.min_eq_right (by omega)]
   have h2:decide ((a0.kids.length:Int)<(a0.keys.length:Int))=true:=decide_eq_true (by omega)
   simp only[sw,h2,iX,cond_false,cond_true]
 ·simp only[cond_true]
  show _=k [.d (.i .i64) (oP _)]
  cases aZ (fun j=>cy (al (t:= .str) a0.keys j) a1) 0 (min a0.keys.length a0.kids.length)<;>rfl
noncomputable def q64:Qt
 | [.d .node a0,.d .str a1]=>some (((fun(x:ae)(_:BA)=>ag x) a0 a1),[.d (.i .i64) (bj a0 a1)])
 |_=>none
noncomputable def Z3:Gm.Spec:=Gm.Spec.of [.ro,.ro] [false] true q64
theorem FX:Gm.Good Tryz.prog (64,Z3):=by
 have hl:∀x∈([]:List (Nat×Gm.Spec)),Gm.Good Tryz.prog x:=fun _ h=>by cases h
 refine⟨⟨aD (aL.env hl) (bQ.cq hl) Tryz.func64 (by kernel_rfl:Tryz.f64.body=some FW) [3] (by kernel_rfl) ?_,_,Tryz.func64,by kernel_rfl,of_decide_eq_true (by kernel_rfl)⟩,Gm.Spec.ax _ _ _ _⟩
 intro ds outs h
 unfold q64 at h
 split at h
 ·simp only[Option.some.injEq,Prod.mk.injEq] at h;obtain⟨hg,h⟩:=h;cases h;exact Oa _ _ hg
 ·cases h
noncomputable def HV(y0:BA)(y1:Int)(y2:Int)(y3:Int)(y4:BA)(y5:List BA)(y6:List ae):St:=⟨[(1,.c (.one (.v (.string y0)))),(2,.c (.one (.pt 2 0))),(6,.c (.one (.v (.int .i64 y1))))],[(2,⟨.node,[.v (.int .i64 y2),.v (.int .i64 y3),.v (.string y4),.ro .str y5,.ro .node y6]⟩)],[]⟩
noncomputable def Ob(y0:Int):St:=⟨[(4,.c (.one (.v (.int .i64 y0))))],[],[]⟩
noncomputable def Oc(y0:BA)(y1:Int)(y2:Bool)(y3:Int)(y4:Int)(y5:BA)(y6:List BA)(y7:List ae):St:=⟨[(1,.c (.one (.v (.string y0)))),(2,.c (.one (.pt 2 0))),(6,.c (.one (.v (.int .i64 y1)))),(21,.c (.one (.v (.bool y2))))],[(2,⟨.node,[.v (.int .i64 y3),.v (.int .i64 y4),.v (.string y5),.ro .str y6,.ro .node y7]⟩)],[]⟩
noncomputable def FY:Code:=(Tryz.f41.body).getD .skip
def J4:Nat→Kp:=fa [⟨[1,2],[],[],[]⟩,⟨[1,2,8],[],[],[]⟩,⟨[1,2,8,9],[],[],[]⟩,⟨[5],[],[],[]⟩,⟨[4],[],[],[]⟩,⟨[1,2,15],[],[],[]⟩,⟨[1,2,6],[],[],[]⟩,⟨[1,2,6,21],[],[],[]⟩,⟨[1,2,6],[],[],[]⟩,⟨[1,2,6,27],[],[],[]⟩,⟨[4],[],[],[]⟩,⟨[4],[],[],[]⟩]
noncomputable def BK:Env:=bQ.env [(29,UH),(64,Z3)]
noncomputable def xX{R:Type}(n:Nat)(x0:Int→Option R)(x1:Int→Bool→Option R)(wC:BA)(wI:Int)(wK:Int)(wL:BA)(wF:List BA)(wG:List ae):Nat→Int→Option R
  |0,_=>none
  |m+1,wN=>
    (cond (decide (wN<(wG.length:Int)))
   (cond (gj wN)
    (cond (cy (bw wN) wC)
     (x0 wN)
     (xX n x0 x1 wC wI wK wL wF wG m (IntKind.wrap .i64 (wN+(1:Int)))))
    none)
   (x1 wN (decide (wN<(wG.length:Int)))))
theorem UP{R:Type}(n:Nat)(k':Kx R)(wC:BA)(wN:Int)(wI:Int)(wK:Int)(wL:BA)(wF:List BA)(wG:List ae):ev BK J4 n (bC [1,0,1,0,1,1,1,0,1,0,0] FY) (HV wC wN wI wK wL wF wG) k'=
 (cond (decide (wN<(wG.length:Int)))
 (cond (gj wN)
 (cond (cy (bw wN) wC)
 (k' .ret (Ob wN))
 (k' .normal (HV wC (IntKind.wrap .i64 (wN+(1:Int))) wI wK wL wF wG)))
 none)
 (k' (.exit 1) (Oc wC wN (decide (wN<(wG.length:Int))) wI wK wL wF wG))):=by kernel_rfl
theorem Od{R:Type}(n:Nat)(k':Kx R)(wC:BA)(wI:Int)(wK:Int)(wL:BA)(wF:List BA)(wG:List ae):∀(m:Nat)(wN:Int),iter (fun st k=>ev BK J4 n (bC [1,0,1,0,1,1,1,0,1,0,0] FY) st k) m (HV wC wN wI wK wL wF wG) k'=xX n (fun(wJ:Int)=>k' .ret (Ob wJ)) (fun(wY:Int)(wZ:Bool)=>k' (.exit 1) (Oc wC wY wZ wI wK wL wF wG)) wC wI wK wL wF wG m wN:=by
 intro m;induction m with
 |zero=>intros;rfl
 |succ m ih=>
  intro wN
  simp only[iter]
  rw[UP]
  simp only[ih,xX]
noncomputable def Oe{R:Type}(n:Nat)(k':Kx R):Kx R:=(b8 1 (b8 0 (eP BK J4 n (bC [1,1] FY) k')))
theorem Og{R:Type}(n:Nat)(k:Kt R)(a0:ae)(a1:BA)(wJ:Int):Oe n (aI BK [.ro,.ro] [false] true [.tmp 4] [3] [.d .node a0,.d .str a1] k) .ret (Ob wJ)=
 (k [.d (.i .i64) wJ]):=by kernel_rfl
theorem Oh{R:Type}(n:Nat)(k:Kt R)(a0:ae)(a1:BA)(wC:BA)(wI:Int)(wK:Int)(wL:BA)(wF:List BA)(wG:List ae)(wY:Int)(wZ:Bool):Oe n (aI BK [.ro,.ro] [false] true [.tmp 4] [3] [.d .node a0,.d .str a1] k) (.exit 1) (Oc wC wY wZ wI wK wL wF wG)=
 (k [.d (.i .i64) (-1:Int)]):=by kernel_rfl
theorem UQ{R:Type}(n:Nat)(k:Kt R)(a0:ae)(a1:BA):aG BK J4 n FY [.ro,.ro] [false] true [.tmp 4] [3] [.d .node a0,.d .str a1] k=
 (cond ((ae.kind a0)==(5:Int))
 (cond ((fun(x:ae)(_:BA)=>ag x) (eN a0) a1)
 (k [.d (.i .i64) (bj (eN a0) a1)])
 none)
 (cond ((ae.kind a0)==(4:Int))
 (xX n (fun(wJ:Int)=>
 (k [.d (.i .i64) wJ])) (fun(wY:Int)(wZ:Bool)=>
 (k [.d (.i .i64) (-1:Int)])) a1 (ae.kind a0) (ae.n a0) (ae.s a0) (ae.keys a0) (ae.kids a0) n (0:Int))
 (k [.d (.i .i64) (-1:Int)]))):=by
  refine Eq.trans (b:=(cond ((ae.kind a0)==(5:Int))
  (cond ((fun(x:ae)(_:BA)=>ag x) (eN a0) a1)
   (k [.d (.i .i64) (bj (eN a0) a1)])
   none)
  (cond ((ae.kind a0)==(4:Int))
   (iter (fun st k=>ev BK J4 n (bC [1,0,1,0,1,1,1,0,1,0,0] FY) st k) n (HV a1 (0:Int) (ae.kind a0) (ae.n a0) (ae.s a0) (ae.keys a0) (ae.kids a0)) (Oe n (aI BK [.ro,.ro] [false] true [.tmp 4] [3] [.d .node a0,.d .str a1] k)))
   (k [.d (.i .i64) (-1:Int)])))) (by kernel_rfl) ?_
  simp only[Od,Og,Oh]
theorem Oi(a0:ae)(a1:BA)(hg:ag a0=true):∃keep rounds,∀{R:Type}(k:Kt R),aG BK keep rounds FY [.ro,.ro] [false] true [.tmp 4] [3] [.d .node a0,.d .str a1] k=k [.d (.i .i64) (aw a0 a1)]:=by
 have fP:=hg
 rw[bf] at hg
 simp only[Bool.and_eq_true] at hg
 obtain⟨_,_,_,lQ,lg⟩:=hg
 have p9:=aR lQ
 have ot:=aR lg
 refine⟨J4,a0.kids.length+1,fun {R} k=> ?_⟩
 rw[UQ]
 show _=k [.d (.i .i64) (aw a0 a1)]
 simp only[az,aK,fP,cond_true]
 unfold aw
 cases h5:a0.kind==(5:Int)
 rotate_left
 ·rfl
 simp only[cond_false]
 cases h4:a0.kind==(4:Int)
 ·rfl
 simp only[cond_true]
 refine Eq.trans (jM (n:=a0.kids.length) (F:=fun m i=>xX (a0.kids.length+1) _ _ a1 a0.kind a0.n a0.s a0.keys a0.kids m i) (p:=fun j=>cy (bw (j:Int)) a1) (hit:=fun i=>k [.d (.i .i64) i]) (miss:=k [.d (.i .i64) (-1:Int)])
  (fun m j hj=> ?_) (fun m=>by simp only[xX,iX,cond_false]) a0.kids.length 0 (a0.kids.length+1) (by omega) (by omega)) ?_
 ·obtain⟨h1,h0,hw,ht⟩:=idx hj (by omega)
  simp only[xX,h1,hw,lG (n:=(j:Int)) (by omega) (by omega),cond_true]
 ·show _=k [.d (.i .i64) (oP _)]
  cases aZ (fun j=>cy (bw (j:Int)) a1) 0 a0.kids.length<;>rfl
noncomputable def q41:Qt
 | [.d .node a0,.d .str a1]=>some (((fun(x:ae)(_:BA)=>ag x) a0 a1),[.d (.i .i64) (aw a0 a1)])
 |_=>none
noncomputable def Z4:Gm.Spec:=Gm.Spec.of [.ro,.ro] [false] true q41
theorem FZ:Gm.Good Tryz.prog (41,Z4):=by
 have hl:∀x∈[(29,UH),(64,Z3)],Gm.Good Tryz.prog x:=bt.2 ⟨BH,bt.2 ⟨FX,gw⟩⟩
 refine⟨⟨aD (aL.env hl) (bQ.cq hl) Tryz.func41 (by kernel_rfl:Tryz.f41.body=some FY) [3] (by kernel_rfl) ?_,_,Tryz.func41,by kernel_rfl,of_decide_eq_true (by kernel_rfl)⟩,Gm.Spec.ax _ _ _ _⟩
 intro ds outs h
 unfold q41 at h
 split at h
 ·simp only[Option.some.injEq,Prod.mk.injEq] at h;obtain⟨hg,h⟩:=h;cases h;exact Oi _ _ hg
 ·cases h
noncomputable def Oj:Code:=(Tryz.f53.body).getD .skip
def XQ:Nat→Kp:=fa [⟨[0],[],[],[]⟩,⟨[0,4],[],[],[]⟩,⟨[2],[],[],[]⟩,⟨[2],[],[],[]⟩]
noncomputable def XR:Env:=bQ.env []
theorem Ol{R:Type}(n:Nat)(k:Kt R)(a0:List BA):aG XR XQ n Oj [.ro] [false] true [.tmp 2] [24] [.d (.sl .str) a0] k=
 (cond (List.isEmpty a0)
 none
 (cond (Nat.ble (0+a0.length) bT)
 (k [.d (.sl .str) (([]:List BA)++a0)])
 none)):=by kernel_rfl
theorem J5(a0:List BA)(hg:(fun(x:List BA)=> !(x.isEmpty)&&Nat.ble x.length bT) a0=true):∃keep rounds,∀{R:Type}(k:Kt R),aG XR keep rounds Oj [.ro] [false] true [.tmp 2] [24] [.d (.sl .str) a0] k=k [.d (.sl .str) a0]:=by
 simp only[Bool.and_eq_true,Bool.not_eq_true'] at hg
 obtain⟨h1,h2⟩:=hg
 refine⟨XQ,0,fun {R} k=> ?_⟩
 rw[Ol,h1,Nat.zero_add,h2]
 simp only[cond_true,cond_false,List.nil_append]
noncomputable def Z5:Qt
 | [.d (.sl .str) a0]=>some (((fun(x:List BA)=> !(x.isEmpty)&&Nat.ble x.length bT) a0),[.d (.sl .str) a0])
 |_=>none
noncomputable def aiT:Gm.Spec:=Gm.Spec.of [.ro] [false] true Z5
theorem UR:Gm.Good Tryz.prog (53,aiT):=by
 have hl:∀x∈([]:List (Nat×Gm.Spec)),Gm.Good Tryz.prog x:=fun _ h=>by cases h
 refine⟨⟨aD (aL.env hl) (bQ.cq hl) Tryz.func53 (by kernel_rfl:Tryz.f53.body=some Oj) [24] (by kernel_rfl) ?_,_,Tryz.func53,by kernel_rfl,of_decide_eq_true (by kernel_rfl)⟩,Gm.Spec.ax _ _ _ _⟩
 intro ds outs h
 unfold Z5 at h
 split at h
 ·simp only[Option.some.injEq,Prod.mk.injEq] at h;obtain⟨hg,h⟩:=h;cases h;exact J5 _ hg
 ·cases h
set_option maxHeartbeats 1000000 in
set_option maxRecDepth 100000 in
theorem aeQ:Mm Tryz.prog 53:=by
 intro a c w
 cases a with
 |none=>
  have q22:∀(w:World)(n c n' c':Nat),(binOp .eql 24 (.slice none n c) (.slice none n' c')).run Tryz.prog w = .ok (.bool true) w:=fun w n c n' c'=>Lib.run_eql_slice_nil w _ _ none n c n' c' Tryz.underlying24
  go_enter Tryz.func53,Tryz.ntmps53
  go_wp2
  go_ret
  exact .inl ⟨rfl,rfl⟩
 |some a=>
  have q22:∀(w:World)(n c n' c':Nat),(binOp .eql 24 (.slice (some a) n c) (.slice none n' c')).run Tryz.prog w = .ok (.bool false) w:=fun w n c n' c'=>Lib.run_eql_slice_nil w _ _ (some a) n c n' c' Tryz.underlying24
  go_enter Tryz.func53,Tryz.ntmps53
  go_wp2
  go_ret
  exact .inr ⟨_,rfl,rfl⟩
noncomputable def aeR:Qt
 | [.d (.sl .str) []]=>some (true,[.d (.sl .str) []])
 |_=>none
noncomputable def q53:Qt
 | [.d (.sl .str) a0]=>some (Nat.ble a0.length bT,[.d (.sl .str) a0])
 |_=>none
noncomputable def s53:Gm.Spec:=Gm.Spec.of [.ro] [false] true q53
theorem Om:Gm.Good Tryz.prog (53,s53):=by
 refine⟨⟨Fe (q:=q53) (qb:=aeR) UR.1.1 (C7 (t:= .str) aeQ fun ds outs h=> ?_) fun ds outs h=> ?_,_,Tryz.func53,by kernel_rfl,of_decide_eq_true (by kernel_rfl)⟩,Gm.Spec.ax _ _ _ _⟩
 ·unfold aeR at h
  split at h
  ·simp only[Option.some.injEq,Prod.mk.injEq,true_and] at h
   exact⟨rfl,h.symm⟩
  ·cases h
 ·unfold q53 at h
  split at h
  ·rename_i a0
   simp only[Option.some.injEq,Prod.mk.injEq] at h
   obtain⟨hg,rfl⟩:=h
   cases a0 with
   |nil=>exact .inr rfl
   |cons x r=>refine .inl ?_;simp only[Z5,List.isEmpty_cons,Bool.not_false,Bool.true_and,hg]
  ·cases h
noncomputable def q23:Qt
 | [.d .node a0]=>some ((ag a0),[.d .node a0])
 |_=>none
noncomputable def Z6:List Dt→Nat
 | [.d .node a0]=>ao a0
 |_=>0
noncomputable def aeT(N:Nat):Gm.Spec:=Gm.Spec.of [.ro] [false] true (qA Z6 N q23)
noncomputable def HW(y0:List ae)(y1:Int)(y2:Int)(y3:Int)(y4:Int)(y5:BA)(y6:List ae)(iu:List BA)(ix:List ae):St:=⟨[(1,.c (.one (.pt 1 0))),(2,.c (.one (.pt 2 0))),(3,.c (.one (.h 640 0 0 []))),(12,.c (.one (.ro .node y0))),(13,.c (.one (.v (.int .i64 y1)))),(14,.c (.one (.v (.int .i64 y2))))],[(1,⟨.node,[.v (.int .i64 y3),.v (.int .i64 y4),.v (.string y5),.h 512 0 0 [],.ro .node y6]⟩),(2,⟨.node,[.v (.int .i64 (0:Int)),.v (.int .i64 (0:Int)),.v (.string ByteArray.empty),.nl,.nl]⟩)],[(512,.live ⟨.str,.deep,0,[],iu⟩),(640,.live ⟨.node,.deep,0,[],ix⟩)]⟩
noncomputable def On(y0:List ae)(y1:Int)(y2:Int)(y3:Bool)(y4:Int)(y5:Int)(y6:BA)(y7:List ae)(ix:List BA)(kr:List ae):St:=⟨[(1,.c (.one (.pt 1 0))),(2,.c (.one (.pt 2 0))),(3,.c (.one (.h 640 0 0 []))),(12,.c (.one (.ro .node y0))),(13,.c (.one (.v (.int .i64 y1)))),(14,.c (.one (.v (.int .i64 y2)))),(15,.c (.one (.v (.bool y3))))],[(1,⟨.node,[.v (.int .i64 y4),.v (.int .i64 y5),.v (.string y6),.h 512 0 0 [],.ro .node y7]⟩),(2,⟨.node,[.v (.int .i64 (0:Int)),.v (.int .i64 (0:Int)),.v (.string ByteArray.empty),.nl,.nl]⟩)],[(512,.live ⟨.str,.deep,0,[],ix⟩),(640,.live ⟨.node,.deep,0,[],kr⟩)]⟩
noncomputable def F4:Code:=(Tryz.f23.body).getD .skip
def J6:Nat→Kp:=fa [⟨[1,2],[],[],[]⟩,⟨[1,2],[],[],[]⟩,⟨[1,2,3],[],[],[]⟩,⟨[1,2,3,12,13,14],[],[],[]⟩,⟨[1,2,3,12,13,14,15],[],[],[]⟩,⟨[1,2,3,5,12,13,14],[],[],[]⟩,⟨[1,2,3,12,13,14],[],[],[]⟩,⟨[1,2,3,12,13,14],[],[],[]⟩,⟨[1,2],[],[],[]⟩,⟨[2],[],[],[]⟩]
noncomputable def BL(N:Nat):Env:=bQ.env [(23,aeT N),(53,s53)]
noncomputable def xY{R:Type}(N:Nat)(n:Nat)(x0:Int→Bool→(List ae)→Option R)(wP:List ae)(wV:Int)(wK:Int)(wL:Int)(wM:BA)(wI:List ae)(wX:List BA):Nat→Int→(List ae)→Option R
  |0,_,_=>none
  |m+1,wN,wY=>
    (cond (decide (wN<wV))
   (cond ((decide ((0:Int)≤wN))&&(decide (wN<(wP.length:Int))))
    (cond ((ag (eN (al (t:= .node) wP (Int.toNat wN))))&&(Nat.blt (ao (eN (al (t:= .node) wP (Int.toNat wN)))) N))
     (cond (Nat.ble (wY.length+1) bT)
      (xY N n x0 wP wV wK wL wM wI wX m (IntKind.wrap .i64 (wN+(1:Int))) (wY++([(eN (al (t:= .node) wP (Int.toNat wN)))]:List ae)))
      none)
     none)
    none)
   (x0 wN (decide (wN<wV)) wY))
theorem US{R:Type}(N:Nat)(n:Nat)(k':Kx R)(wP:List ae)(wV:Int)(wN:Int)(wK:Int)(wL:Int)(wM:BA)(wI:List ae)(wX:List BA)(wY:List ae):ev (BL N) J6 n (bC [1,1,1,0,1,0,0] F4) (HW wP wV wN wK wL wM wI wX wY) k'=
 (cond (decide (wN<wV))
 (cond ((decide ((0:Int)≤wN))&&(decide (wN<(wP.length:Int))))
 (cond ((ag (eN (al (t:= .node) wP (Int.toNat wN))))&&(Nat.blt (ao (eN (al (t:= .node) wP (Int.toNat wN)))) N))
 (cond (Nat.ble (wY.length+1) bT)
 (k' .normal (HW wP wV (IntKind.wrap .i64 (wN+(1:Int))) wK wL wM wI wX (wY++([(eN (al (t:= .node) wP (Int.toNat wN)))]:List ae))))
 none)
 none)
 none)
 (k' (.exit 0) (On wP wV wN (decide (wN<wV)) wK wL wM wI wX wY))):=by kernel_rfl
theorem Oo{R:Type}(N:Nat)(n:Nat)(k':Kx R)(wP:List ae)(wV:Int)(wK:Int)(wL:Int)(wM:BA)(wI:List ae)(wX:List BA):∀(m:Nat)(wN:Int)(wY:List ae),iter (fun st k=>ev (BL N) J6 n (bC [1,1,1,0,1,0,0] F4) st k) m (HW wP wV wN wK wL wM wI wX wY) k'=xY N n (fun(uI:Int)(uJ:Bool)(uG:List ae)=>k' (.exit 0) (On wP wV uI uJ wK wL wM wI wX uG)) wP wV wK wL wM wI wX m wN wY:=by
 intro m;induction m with
 |zero=>intros;rfl
 |succ m ih=>
  intro wN wY
  simp only[iter]
  rw[US]
  simp only[ih,xY]
noncomputable def XS{R:Type}(N:Nat)(n:Nat)(k':Kx R):Kx R:=(b8 0 (eP (BL N) J6 n (bC [1,1,1,1] F4) k'))
theorem Oq{R:Type}(N:Nat)(n:Nat)(k:Kt R)(a0:ae)(wP:List ae)(wV:Int)(wK:Int)(wL:Int)(wM:BA)(wI:List ae)(wX:List BA)(uI:Int)(uJ:Bool)(uG:List ae):XS N n (aI (BL N) [.ro] [false] true [.cell 2 27] [27] [.d .node a0] k) (.exit 0) (On wP wV uI uJ wK wL wM wI wX uG)=
 (k [.d .node (⟨wK,wL,wM,wX,uG⟩:ae)]):=by kernel_rfl
theorem UT{R:Type}(N:Nat)(n:Nat)(k:Kt R)(a0:ae):aG (BL N) J6 n F4 [.ro] [false] true [.cell 2 27] [27] [.d .node a0] k=
 (cond ((fun(x:List BA)=>Nat.ble x.length bT) (ae.keys a0))
 (xY N n (fun(uI:Int)(uJ:Bool)(uG:List ae)=>
 (k [.d .node (⟨(ae.kind a0),(ae.n a0),(ae.s a0),(ae.keys a0),uG⟩:ae)])) (ae.kids a0) ((ae.kids a0).length:Int) (ae.kind a0) (ae.n a0) (ae.s a0) (ae.kids a0) (ae.keys a0) n (0:Int) ([]:List ae))
 none):=by
 refine Eq.trans (b:=(cond ((fun(x:List BA)=>Nat.ble x.length bT) (ae.keys a0))
 (iter (fun st k=>ev (BL N) J6 n (bC [1,1,1,0,1,0,0] F4) st k) n (HW (ae.kids a0) ((ae.kids a0).length:Int) (0:Int) (ae.kind a0) (ae.n a0) (ae.s a0) (ae.kids a0) (ae.keys a0) ([]:List ae)) (XS N n (aI (BL N) [.ro] [false] true [.cell 2 27] [27] [.d .node a0] k)))
 none)) (by kernel_rfl) ?_
 simp only[Oo,Oq]
theorem Ot(N:Nat)(a0:ae)(hg:ag a0=true)(hm:Z6 [.d .node a0]=N):∃keep rounds,∀{R:Type}(k:Kt R),aG (BL N) keep rounds F4 [.ro] [false] true [.cell 2 27] [27] [.d .node a0] k=k [.d .node a0]:=by
 have hm:ao a0=N:=hm
 subst hm
 have fP:=hg
 rw[bf] at hg
 simp only[Bool.and_eq_true] at hg
 obtain⟨_,_,_,lQ,lg⟩:=hg
 have p9:=aR lQ
 have ot:=aR lg
 refine⟨J6,a0.kids.length+1,fun {R} k=> ?_⟩
 rw[UT]
 simp only[Nat.zero_add,XA p9,cond_true,List.nil_append]
 refine Eq.trans (oR (xs:=a0.kids) (F:=fun m j out=>xY (ao a0) (a0.kids.length+1) _ a0.kids (a0.kids.length:Int) a0.kind a0.n a0.s a0.kids a0.keys m (j:Int) out) (f:=fun out x=>out++[x]) (good:=fun out=>k [.d .node ⟨a0.kind,a0.n,a0.s,a0.keys,out⟩]) (fun j out=>out.length≤j)
  (fun j out x hx hi=>by simp only[List.length_append,List.length_cons,List.length_nil];omega) (fun m j out x hx hi=> ?_) (fun m out hi=>by simp only[xY,iX,cond_false]) a0.kids.length 0 (a0.kids.length+1) [] (by omega) (by omega) (by simp)) ?_
 ·obtain⟨h1,h0,hw,ht⟩:=idx (aP hx) (by omega)
  have hj:=aP hx
  have hs:=List.all_eq_true.1 (kR lg) x (List.mem_of_getElem? hx)
  have ji:Nat.ble (out.length+1) bT=true:=Nat.ble_eq_true_of_le (by have:(bT:Nat)=4294967296:=rfl;omega)
  have hb:Nat.blt (ao x) (ao a0)=true:=by
   have:=bN (x:=a0) (List.mem_of_getElem? hx)
   rw[Nat.blt_eq];exact this
  simp only[xY,h1,h0,hw,ht,bm (t:= .node) hx,Bool.and_self,cond_true,ji,az,aK,hs,hb]
 ·rw[List.drop_zero,xf,List.nil_append,az]
noncomputable def pU:Gm.Spec:=Gm.Spec.of [.ro] [false] true q23
theorem ic:Gm.Good Tryz.prog (23,pU):=by
 refine⟨⟨gJ Z6 fun N hr=> ?_,_,Tryz.func23,by kernel_rfl,of_decide_eq_true (by kernel_rfl)⟩,Gm.Spec.ax _ _ _ _⟩
 have hl:∀x∈[(23,aeT N),(53,s53)],Gm.Good Tryz.prog x:=bt.2 ⟨⟨⟨hr,_,Tryz.func23,by kernel_rfl,of_decide_eq_true (by kernel_rfl)⟩,Gm.Spec.ax _ _ _ _⟩,bt.2 ⟨Om,gw⟩⟩
 intro R
 refine aD (E:=BL N) (aL.env hl) (bQ.cq hl) Tryz.func23 (by kernel_rfl:Tryz.f23.body=some F4) [27] (by kernel_rfl) ?_
 intro ds outs h
 obtain⟨h,hm⟩:=dg h
 unfold q23 at h
 split at h
 ·simp only[Option.some.injEq,Prod.mk.injEq] at h;obtain⟨hg,h⟩:=h;cases h;exact Ot N _ hg hm
 ·cases h
noncomputable def q27:Qt
 | [.d .node a0]=>some ((ag a0),[.d .node a0])
 |_=>none
noncomputable def Z7:List Dt→Nat
 | [.d .node a0]=>ao a0
 |_=>0
noncomputable def aeU(N:Nat):Gm.Spec:=Gm.Spec.of [.ro] [false] true (qA Z7 N q27)
noncomputable def HX(y0:Int)(y1:Int)(y2:Int)(y3:BA)(y4:List BA)(y5:List ae)(y9:Int)(iu:Int)(ix:BA)(kr:List ae)(o9:List BA):St:=⟨[(1,.c (.one (.pt 1 0))),(2,.c (.one (.pt 2 0))),(3,.c (.one (.pt 3 0))),(4,.c (.one (.v (.int .i64 y0))))],[(1,⟨.node,[.v (.int .i64 y1),.v (.int .i64 y2),.v (.string y3),.ro .str y4,.ro .node y5]⟩),(2,⟨.node,[.v (.int .i64 (0:Int)),.v (.int .i64 (0:Int)),.v (.string ByteArray.empty),.nl,.nl]⟩),(3,⟨.node,[.v (.int .i64 y9),.v (.int .i64 iu),.v (.string ix),.h 704 0 0 [],.h 196 0 0 []]⟩)],[(196,.live ⟨.node,.deep,0,[],kr⟩),(704,.live ⟨.str,.deep,0,[],o9⟩)]⟩
noncomputable def Ou(y0:Int)(y1:Bool)(y2:Int)(y3:Int)(y4:BA)(y5:List BA)(y6:List ae)(iu:Int)(ix:Int)(kr:BA)(o9:List ae)(yR:List BA):St:=⟨[(1,.c (.one (.pt 1 0))),(2,.c (.one (.pt 2 0))),(3,.c (.one (.pt 3 0))),(4,.c (.one (.v (.int .i64 y0)))),(20,.c (.one (.v (.bool y1))))],[(1,⟨.node,[.v (.int .i64 y2),.v (.int .i64 y3),.v (.string y4),.ro .str y5,.ro .node y6]⟩),(2,⟨.node,[.v (.int .i64 (0:Int)),.v (.int .i64 (0:Int)),.v (.string ByteArray.empty),.nl,.nl]⟩),(3,⟨.node,[.v (.int .i64 iu),.v (.int .i64 ix),.v (.string kr),.h 704 0 0 [],.h 196 0 0 []]⟩)],[(196,.live ⟨.node,.deep,0,[],o9⟩),(704,.live ⟨.str,.deep,0,[],yR⟩)]⟩
noncomputable def F5:Code:=(Tryz.f27.body).getD .skip
def J7:Nat→Kp:=fa [⟨[1,2],[],[],[]⟩,⟨[1,2,3],[],[],[]⟩,⟨[1,2,3,4],[⟨true,false,3,4,.node⟩],[],[]⟩,⟨[1,2,3,4,20],[],[],[]⟩,⟨[1,2,3,4],[],[],[]⟩,⟨[1,2,3,4],[],[],[]⟩,⟨[2],[],[],[]⟩]
noncomputable def BM(N:Nat):Env:=bQ.env [(27,aeU N)]
noncomputable def xZ{R:Type}(N:Nat)(n:Nat)(x0:Int→Bool→(List ae)→Option R)(wK:Int)(wL:Int)(wM:BA)(uE:List BA)(wI:List ae)(wZ:Int)(uA:Int)(uB:BA)(uC:List BA):Nat→Int→(List ae)→Option R
  |0,_,_=>none
  |m+1,wO,uD=>
    (cond (decide (wO<(wI.length:Int)))
   (cond ((decide ((0:Int)≤wO))&&(decide (wO<(wI.length:Int))))
    (cond ((ag (eN (al (t:= .node) wI (Int.toNat wO))))&&(Nat.blt (ao (eN (al (t:= .node) wI (Int.toNat wO)))) N))
     (cond (Nat.ble (uD.length+1) bT)
      (xZ N n x0 wK wL wM uE wI wZ uA uB uC m (IntKind.wrap .i64 (wO+(1:Int))) (uD++([(eN (al (t:= .node) wI (Int.toNat wO)))]:List ae)))
      none)
     none)
    none)
   (x0 wO (decide (wO<(wI.length:Int))) uD))
theorem UU{R:Type}(N:Nat)(n:Nat)(k':Kx R)(wO:Int)(wK:Int)(wL:Int)(wM:BA)(uE:List BA)(wI:List ae)(wZ:Int)(uA:Int)(uB:BA)(uD:List ae)(uC:List BA):ev (BM N) J7 n (bC [1,1,0,1,0,0] F5) (HX wO wK wL wM uE wI wZ uA uB uD uC) k'=
 (cond (decide (wO<(wI.length:Int)))
 (cond ((decide ((0:Int)≤wO))&&(decide (wO<(wI.length:Int))))
 (cond ((ag (eN (al (t:= .node) wI (Int.toNat wO))))&&(Nat.blt (ao (eN (al (t:= .node) wI (Int.toNat wO)))) N))
 (cond (Nat.ble (uD.length+1) bT)
 (k' .normal (HX (IntKind.wrap .i64 (wO+(1:Int))) wK wL wM uE wI wZ uA uB (uD++([(eN (al (t:= .node) wI (Int.toNat wO)))]:List ae)) uC))
 none)
 none)
 none)
 (k' (.exit 0) (Ou wO (decide (wO<(wI.length:Int))) wK wL wM uE wI wZ uA uB uD uC))):=by kernel_rfl
theorem Ov{R:Type}(N:Nat)(n:Nat)(k':Kx R)(wK:Int)(wL:Int)(wM:BA)(uE:List BA)(wI:List ae)(wZ:Int)(uA:Int)(uB:BA)(uC:List BA):∀(m:Nat)(wO:Int)(uD:List ae),iter (fun st k=>ev (BM N) J7 n (bC [1,1,0,1,0,0] F5) st k) m (HX wO wK wL wM uE wI wZ uA uB uD uC) k'=xZ N n (fun(uK:Int)(uL:Bool)(uH:List ae)=>k' (.exit 0) (Ou uK uL wK wL wM uE wI wZ uA uB uH uC)) wK wL wM uE wI wZ uA uB uC m wO uD:=by
 intro m;induction m with
 |zero=>intros;rfl
 |succ m ih=>
  intro wO uD
  simp only[iter]
  rw[UU]
  simp only[ih,xZ]
noncomputable def XT{R:Type}(N:Nat)(n:Nat)(k':Kx R):Kx R:=(b8 0 (eP (BM N) J7 n (bC [1,1,1] F5) k'))
theorem Ow{R:Type}(N:Nat)(n:Nat)(k:Kt R)(a0:ae)(wK:Int)(wL:Int)(wM:BA)(uE:List BA)(wI:List ae)(wZ:Int)(uA:Int)(uB:BA)(uC:List BA)(uK:Int)(uL:Bool)(uH:List ae):XT N n (aI (BM N) [.ro] [false] true [.cell 2 27] [27] [.d .node a0] k) (.exit 0) (Ou uK uL wK wL wM uE wI wZ uA uB uH uC)=
 (k [.d .node (⟨wZ,uA,uB,uC,uH⟩:ae)]):=by kernel_rfl
theorem UW{R:Type}(N:Nat)(n:Nat)(k:Kt R)(a0:ae):aG (BM N) J7 n F5 [.ro] [false] true [.cell 2 27] [27] [.d .node a0] k=
 (cond (Nat.ble (0+(ae.keys a0).length) bT)
 (xZ N n (fun(uK:Int)(uL:Bool)(uH:List ae)=>
 (k [.d .node (⟨(ae.kind a0),(ae.n a0),(ae.s a0),(([]:List BA)++(ae.keys a0)),uH⟩:ae)])) (ae.kind a0) (ae.n a0) (ae.s a0) (ae.keys a0) (ae.kids a0) (ae.kind a0) (ae.n a0) (ae.s a0) (([]:List BA)++(ae.keys a0)) n (0:Int) ([]:List ae))
 none):=by
 refine Eq.trans (b:=(cond (Nat.ble (0+(ae.keys a0).length) bT)
 (iter (fun st k=>ev (BM N) J7 n (bC [1,1,0,1,0,0] F5) st k) n (HX (0:Int) (ae.kind a0) (ae.n a0) (ae.s a0) (ae.keys a0) (ae.kids a0) (ae.kind a0) (ae.n a0) (ae.s a0) ([]:List ae) (([]:List BA)++(ae.keys a0))) (XT N n (aI (BM N) [.ro] [false] true [.cell 2 27] [27] [.d .node a0] k)))
 none)) (by kernel_rfl) ?_
 simp only[Ov,Ow]
theorem Ox(N:Nat)(a0:ae)(hg:ag a0=true)(hm:Z7 [.d .node a0]=N):∃keep rounds,∀{R:Type}(k:Kt R),aG (BM N) keep rounds F5 [.ro] [false] true [.cell 2 27] [27] [.d .node a0] k=k [.d .node a0]:=by
 have hm:ao a0=N:=hm
 subst hm
 have fP:=hg
 rw[bf] at hg
 simp only[Bool.and_eq_true] at hg
 obtain⟨_,_,_,lQ,lg⟩:=hg
 have p9:=aR lQ
 have ot:=aR lg
 refine⟨J7,a0.kids.length+1,fun {R} k=> ?_⟩
 rw[UW]
 simp only[Nat.zero_add,XA p9,cond_true,List.nil_append]
 refine Eq.trans (oR (xs:=a0.kids) (F:=fun m j out=>xZ (ao a0) (a0.kids.length+1) _ a0.kind a0.n a0.s a0.keys a0.kids a0.kind a0.n a0.s a0.keys m (j:Int) out) (f:=fun out x=>out++[x]) (good:=fun out=>k [.d .node ⟨a0.kind,a0.n,a0.s,a0.keys,out⟩]) (fun j out=>out.length≤j)
  (fun j out x hx hi=>by simp only[List.length_append,List.length_cons,List.length_nil];omega) (fun m j out x hx hi=> ?_) (fun m out hi=>by simp only[xZ,iX,cond_false]) a0.kids.length 0 (a0.kids.length+1) [] (by omega) (by omega) (by simp)) ?_
 ·obtain⟨h1,h0,hw,ht⟩:=idx (aP hx) (by omega)
  have hj:=aP hx
  have hs:=List.all_eq_true.1 (kR lg) x (List.mem_of_getElem? hx)
  have ji:Nat.ble (out.length+1) bT=true:=Nat.ble_eq_true_of_le (by have:(bT:Nat)=4294967296:=rfl;omega)
  have hb:Nat.blt (ao x) (ao a0)=true:=by
   have:=bN (x:=a0) (List.mem_of_getElem? hx)
   rw[Nat.blt_eq];exact this
  simp only[xZ,h1,h0,hw,ht,bm (t:= .node) hx,Bool.and_self,cond_true,ji,az,aK,hs,hb]
 ·rw[List.drop_zero,xf,List.nil_append,az]
noncomputable def x3:Gm.Spec:=Gm.Spec.of [.ro] [false] true q27
theorem jZ:Gm.Good Tryz.prog (27,x3):=by
 refine⟨⟨gJ Z7 fun N hr=> ?_,_,Tryz.func27,by kernel_rfl,of_decide_eq_true (by kernel_rfl)⟩,Gm.Spec.ax _ _ _ _⟩
 have hl:∀x∈[(27,aeU N)],Gm.Good Tryz.prog x:=bt.2 ⟨⟨⟨hr,_,Tryz.func27,by kernel_rfl,of_decide_eq_true (by kernel_rfl)⟩,Gm.Spec.ax _ _ _ _⟩,gw⟩
 intro R
 refine aD (E:=BM N) (aL.env hl) (bQ.cq hl) Tryz.func27 (by kernel_rfl:Tryz.f27.body=some F5) [27] (by kernel_rfl) ?_
 intro ds outs h
 obtain⟨h,hm⟩:=dg h
 unfold q27 at h
 split at h
 ·simp only[Option.some.injEq,Prod.mk.injEq] at h;obtain⟨hg,h⟩:=h;cases h;exact Ox N _ hg hm
 ·cases h
noncomputable def HY(y0:List BA)(y1:Int)(y2:Int)(y3:Int)(y4:BA)(y5:List BA)(y6:List ae):St:=⟨[(1,.c (.one (.ro .str y0))),(2,.c (.one (.pt 2 0))),(4,.c (.one (.pt 4 0))),(6,.c (.one (.v (.int .i64 y1))))],[(2,⟨.node,[.v (.int .i64 y2),.v (.int .i64 y3),.v (.string y4),.ro .str y5,.ro .node y6]⟩),(4,⟨.node,[.v (.int .i64 (0:Int)),.v (.int .i64 (0:Int)),.v (.string ByteArray.empty),.nl,.nl]⟩)],[]⟩
noncomputable def HZ:St:=⟨[(4,.c (.one (.pt 4 0))),(5,.c (.one (.v (.bool false))))],[(4,⟨.node,[.v (.int .i64 (0:Int)),.v (.int .i64 (0:Int)),.v (.string ByteArray.empty),.nl,.nl]⟩)],[]⟩
noncomputable def Oy(y0:List BA)(y1:Int)(y2:Bool)(y3:Int)(y4:Int)(y5:BA)(y6:List BA)(y7:List ae):St:=⟨[(1,.c (.one (.ro .str y0))),(2,.c (.one (.pt 2 0))),(4,.c (.one (.pt 4 0))),(6,.c (.one (.v (.int .i64 y1)))),(11,.c (.one (.v (.bool y2))))],[(2,⟨.node,[.v (.int .i64 y3),.v (.int .i64 y4),.v (.string y5),.ro .str y6,.ro .node y7]⟩),(4,⟨.node,[.v (.int .i64 (0:Int)),.v (.int .i64 (0:Int)),.v (.string ByteArray.empty),.nl,.nl]⟩)],[]⟩
noncomputable def F6:Code:=(Tryz.f57.body).getD .skip
def J8:Nat→Kp:=fa [⟨[1,2,4],[],[],[]⟩,⟨[1,2,4,6],[],[],[]⟩,⟨[1,2,4,6,11],[],[],[]⟩,⟨[1,2,4,6],[],[],[]⟩,⟨[1,2,4,6,7],[],[],[]⟩,⟨[1,2,4,6,7,28],[],[],[]⟩,⟨[4,5],[],[],[]⟩,⟨[1,2,4,6],[],[],[]⟩,⟨[4,5],[],[],[]⟩]
noncomputable def BN:Env:=bQ.env [(27,x3),(41,Z4)]
noncomputable def ub{R:Type}(n:Nat)(x0:Option R)(x1:Int→Bool→Int→Int→BA→(List BA)→(List ae)→Option R)(wG:List BA):Nat→Int→Int→Int→BA→(List BA)→(List ae)→Option R
  |0,_,_,_,_,_,_=>none
  |m+1,wF,wB,wC,wD,wE,wA=>
    (cond (decide (wF<(wG.length:Int)))
   (cond ((decide ((0:Int)≤wF))&&(decide (wF<(wG.length:Int))))
    (cond ((fun(x:ae)(_:BA)=>ag x) (⟨wB,wC,wD,wE,wA⟩:ae) (al (t:= .str) wG (Int.toNat wF)))
     (cond (decide ((aw (⟨wB,wC,wD,wE,wA⟩:ae) (al (t:= .str) wG (Int.toNat wF)))<(0:Int)))
      (x0)
      (cond (decide ((aw (⟨wB,wC,wD,wE,wA⟩:ae) (al (t:= .str) wG (Int.toNat wF)))≥(wA.length:Int)))
       (x0)
       (cond ((decide ((0:Int)≤(aw (⟨wB,wC,wD,wE,wA⟩:ae) (al (t:= .str) wG (Int.toNat wF)))))&&(decide ((aw (⟨wB,wC,wD,wE,wA⟩:ae) (al (t:= .str) wG (Int.toNat wF)))<(wA.length:Int))))
        (ub n x0 x1 wG m (IntKind.wrap .i64 (wF+(1:Int))) (ae.kind (al (t:= .node) wA (Int.toNat (aw (⟨wB,wC,wD,wE,wA⟩:ae) (al (t:= .str) wG (Int.toNat wF)))))) (ae.n (al (t:= .node) wA (Int.toNat (aw (⟨wB,wC,wD,wE,wA⟩:ae) (al (t:= .str) wG (Int.toNat wF)))))) (ae.s (al (t:= .node) wA (Int.toNat (aw (⟨wB,wC,wD,wE,wA⟩:ae) (al (t:= .str) wG (Int.toNat wF)))))) (ae.keys (al (t:= .node) wA (Int.toNat (aw (⟨wB,wC,wD,wE,wA⟩:ae) (al (t:= .str) wG (Int.toNat wF)))))) (ae.kids (al (t:= .node) wA (Int.toNat (aw (⟨wB,wC,wD,wE,wA⟩:ae) (al (t:= .str) wG (Int.toNat wF)))))))
        none)))
     none)
    none)
   (x1 wF (decide (wF<(wG.length:Int))) wB wC wD wE wA))
theorem UX{R:Type}(n:Nat)(k':Kx R)(wG:List BA)(wF:Int)(wB:Int)(wC:Int)(wD:BA)(wE:List BA)(wA:List ae):ev BN J8 n (bC [1,0,1,0,0] F6) (HY wG wF wB wC wD wE wA) k'=
 (cond (decide (wF<(wG.length:Int)))
 (cond ((decide ((0:Int)≤wF))&&(decide (wF<(wG.length:Int))))
 (cond ((fun(x:ae)(_:BA)=>ag x) (⟨wB,wC,wD,wE,wA⟩:ae) (al (t:= .str) wG (Int.toNat wF)))
 (cond (decide ((aw (⟨wB,wC,wD,wE,wA⟩:ae) (al (t:= .str) wG (Int.toNat wF)))<(0:Int)))
 (k' .ret HZ)
 (cond (decide ((aw (⟨wB,wC,wD,wE,wA⟩:ae) (al (t:= .str) wG (Int.toNat wF)))≥(wA.length:Int)))
 (k' .ret HZ)
 (cond ((decide ((0:Int)≤(aw (⟨wB,wC,wD,wE,wA⟩:ae) (al (t:= .str) wG (Int.toNat wF)))))&&(decide ((aw (⟨wB,wC,wD,wE,wA⟩:ae) (al (t:= .str) wG (Int.toNat wF)))<(wA.length:Int))))
 (k' .normal (HY wG (IntKind.wrap .i64 (wF+(1:Int))) (ae.kind (al (t:= .node) wA (Int.toNat (aw (⟨wB,wC,wD,wE,wA⟩:ae) (al (t:= .str) wG (Int.toNat wF)))))) (ae.n (al (t:= .node) wA (Int.toNat (aw (⟨wB,wC,wD,wE,wA⟩:ae) (al (t:= .str) wG (Int.toNat wF)))))) (ae.s (al (t:= .node) wA (Int.toNat (aw (⟨wB,wC,wD,wE,wA⟩:ae) (al (t:= .str) wG (Int.toNat wF)))))) (ae.keys (al (t:= .node) wA (Int.toNat (aw (⟨wB,wC,wD,wE,wA⟩:ae) (al (t:= .str) wG (Int.toNat wF)))))) (ae.kids (al (t:= .node) wA (Int.toNat (aw (⟨wB,wC,wD,wE,wA⟩:ae) (al (t:= .str) wG (Int.toNat wF))))))))
 none)))
 none)
 none)
 (k' (.exit 0) (Oy wG wF (decide (wF<(wG.length:Int))) wB wC wD wE wA))):=by kernel_rfl
theorem Oz{R:Type}(n:Nat)(k':Kx R)(wG:List BA):∀(m:Nat)(wF:Int)(wB:Int)(wC:Int)(wD:BA)(wE:List BA)(wA:List ae),iter (fun st k=>ev BN J8 n (bC [1,0,1,0,0] F6) st k) m (HY wG wF wB wC wD wE wA) k'=ub n (k' .ret HZ) (fun(uM:Int)(uF:Bool)(wQ:Int)(wR:Int)(wS:BA)(wT:List BA)(wU:List ae)=>k' (.exit 0) (Oy wG uM uF wQ wR wS wT wU)) wG m wF wB wC wD wE wA:=by
 intro m;induction m with
 |zero=>intros;rfl
 |succ m ih=>
  intro wF wB wC wD wE wA
  simp only[iter]
  rw[UX]
  simp only[ih,ub]
noncomputable def OA{R:Type}(n:Nat)(k':Kx R):Kx R:=(b8 0 (eP BN J8 n (bC [1,1] F6) k'))
theorem OB{R:Type}(n:Nat)(k:Kt R)(a0:ae)(a1:List BA):OA n (aI BN [.ro,.ro] [false,false] true [.cell 4 27,.tmp 5] [27,4] [.d .node a0,.d (.sl .str) a1] k) .ret HZ=
 (k [.d .node (⟨(0:Int),(0:Int),ByteArray.empty,([]:List BA),([]:List ae)⟩:ae),.d .bool false]):=by kernel_rfl
theorem OC{R:Type}(n:Nat)(k:Kt R)(a0:ae)(a1:List BA)(wG:List BA)(uM:Int)(uF:Bool)(wQ:Int)(wR:Int)(wS:BA)(wT:List BA)(wU:List ae):OA n (aI BN [.ro,.ro] [false,false] true [.cell 4 27,.tmp 5] [27,4] [.d .node a0,.d (.sl .str) a1] k) (.exit 0) (Oy wG uM uF wQ wR wS wT wU)=
 (cond (ag (⟨wQ,wR,wS,wT,wU⟩:ae))
 (k [.d .node (⟨wQ,wR,wS,wT,wU⟩:ae),.d .bool true])
 none):=by kernel_rfl
theorem UY{R:Type}(n:Nat)(k:Kt R)(a0:ae)(a1:List BA):aG BN J8 n F6 [.ro,.ro] [false,false] true [.cell 4 27,.tmp 5] [27,4] [.d .node a0,.d (.sl .str) a1] k=
 (ub n (k [.d .node (⟨(0:Int),(0:Int),ByteArray.empty,([]:List BA),([]:List ae)⟩:ae),.d .bool false]) (fun(uM:Int)(uF:Bool)(wQ:Int)(wR:Int)(wS:BA)(wT:List BA)(wU:List ae)=>
 (cond (ag (⟨wQ,wR,wS,wT,wU⟩:ae))
 (k [.d .node (⟨wQ,wR,wS,wT,wU⟩:ae),.d .bool true])
 none)) a1 n (0:Int) (ae.kind a0) (ae.n a0) (ae.s a0) (ae.keys a0) (ae.kids a0)):=by
 refine Eq.trans (b:=(iter (fun st k=>ev BN J8 n (bC [1,0,1,0,0] F6) st k) n (HY a1 (0:Int) (ae.kind a0) (ae.n a0) (ae.s a0) (ae.keys a0) (ae.kids a0)) (OA n (aI BN [.ro,.ro] [false,false] true [.cell 4 27,.tmp 5] [27,4] [.d .node a0,.d (.sl .str) a1] k)))) (by kernel_rfl) ?_
 simp only[Oz,OB,OC]
theorem OD(a0:ae)(a1:List BA)(hg:(ag a0&&dS bH a1)=true):∃keep rounds,∀{R:Type}(k:Kt R),aG BN keep rounds F6 [.ro,.ro] [false,false] true [.cell 4 27,.tmp 5] [27,4] [.d .node a0,.d (.sl .str) a1] k=k [.d .node ((br a0 a1).1),.d .bool ((br a0 a1).2)]:=by
 simp only[Bool.and_eq_true] at hg
 obtain⟨hg,uc⟩:=hg
 have nl:=aR uc
 refine⟨J8,a1.length+1,fun {R} k=> ?_⟩
 rw[UY]
 show _=k [.d .node (br a0 a1).1,.d .bool (br a0 a1).2]
 unfold br
 refine Eq.trans (td (xs:=a1) (F:=fun m j (t:ae)=>ub (a1.length+1) _ _ a1 m (j:Int) t.kind t.n t.s t.keys t.kids) (step:=fC) (out:=fun _=>k [.d .node cI,.d .bool false]) (good:=fun t=>k [.d .node t,.d .bool true]) (fun t=>ag t=true)
  (fun x t t' _ ht e=>dG ht (ti e)) (fun m j t x hx jh=> ?_) (fun m t jh=>by simp only[ub,iX,cond_false,az,aK,jh,cond_true]) a1.length 0 (a1.length+1) a0 (by omega) (by omega) hg) ?_
 ·obtain⟨h1,h0,hw,ht⟩:=idx (aP hx) (by omega)
  unfold fC
  by_cases hk:aw t x<0
  ·simp only[ub,h1,h0,hw,ht,bm (t:= .str) hx,Bool.and_self,cond_true,az,aK,jh,decide_eq_true hk]
   rfl
  ·have bU:=rQ hk
   simp only[ub,h1,h0,hw,ht,bm (t:= .str) hx,Bool.and_self,cond_true,cond_false,az,aK,jh,decide_eq_false hk,decide_eq_true (show (0:Int)≤aw t x by omega),decide_eq_true bU,decide_eq_false (show ¬(aw t x≥(t.kids.length:Int)) by omega)]
   rfl
 ·rw[List.drop_zero]
  cases fj fC a1 a0<;>rfl
noncomputable def q57:Qt
 | [.d .node a0,.d (.sl .str) a1]=>some (((fun(x:ae)(y:List BA)=>ag x&&dS bH y) a0 a1),[.d .node ((br a0 a1).1),.d .bool ((br a0 a1).2)])
 |_=>none
noncomputable def s57:Gm.Spec:=Gm.Spec.of [.ro,.ro] [false,false] true q57
theorem OE:Gm.Good Tryz.prog (57,s57):=by
 have hl:∀x∈[(27,x3),(41,Z4)],Gm.Good Tryz.prog x:=bt.2 ⟨jZ,bt.2 ⟨FZ,gw⟩⟩
 refine⟨⟨aD (aL.env hl) (bQ.cq hl) Tryz.func57 (by kernel_rfl:Tryz.f57.body=some F6) [27,4] (by kernel_rfl) ?_,_,Tryz.func57,by kernel_rfl,of_decide_eq_true (by kernel_rfl)⟩,Gm.Spec.ax _ _ _ _⟩
 intro ds outs h
 unfold q57 at h
 split at h
 ·simp only[Option.some.injEq,Prod.mk.injEq] at h;obtain⟨hg,h⟩:=h;cases h;exact OD _ _ hg
 ·cases h
noncomputable def H0(y0:List BA)(y1:Int)(y2:Int)(y3:Int)(y4:Int)(y5:BA)(y6:List BA)(y7:List ae):St:=⟨[(2,.c (.one (.pt 2 0))),(4,.c (.one (.pt 4 0))),(9,.c (.one (.ro .str y0))),(10,.c (.one (.v (.int .i64 y1)))),(11,.c (.one (.v (.int .i64 y2))))],[(2,⟨.node,[.v (.int .i64 y3),.v (.int .i64 y4),.v (.string y5),.ro .str y6,.ro .node y7]⟩),(4,⟨.node,[.v (.int .i64 (0:Int)),.v (.int .i64 (0:Int)),.v (.string ByteArray.empty),.nl,.nl]⟩)],[]⟩
noncomputable def OF:St:=⟨[(4,.c (.one (.pt 4 0))),(5,.c (.one (.v (.bool false))))],[(4,⟨.node,[.v (.int .i64 (0:Int)),.v (.int .i64 (0:Int)),.v (.string ByteArray.empty),.nl,.nl]⟩)],[]⟩
noncomputable def OG(y0:List BA)(y1:Int)(y2:Int)(y3:Bool)(y4:Int)(y5:Int)(y6:BA)(y7:List BA)(y8:List ae):St:=⟨[(2,.c (.one (.pt 2 0))),(4,.c (.one (.pt 4 0))),(9,.c (.one (.ro .str y0))),(10,.c (.one (.v (.int .i64 y1)))),(11,.c (.one (.v (.int .i64 y2)))),(12,.c (.one (.v (.bool y3))))],[(2,⟨.node,[.v (.int .i64 y4),.v (.int .i64 y5),.v (.string y6),.ro .str y7,.ro .node y8]⟩),(4,⟨.node,[.v (.int .i64 (0:Int)),.v (.int .i64 (0:Int)),.v (.string ByteArray.empty),.nl,.nl]⟩)],[]⟩
noncomputable def F7:Code:=(Tryz.f74.body).getD .skip
def J9:Nat→Kp:=fa [⟨[1,2,4],[],[],[]⟩,⟨[2,4,9,10,11],[],[],[]⟩,⟨[2,4,9,10,11,12],[],[],[]⟩,⟨[2,4,7,9,10,11],[],[],[]⟩,⟨[2,4,8,9,10,11],[],[],[]⟩,⟨[2,4,8,9,10,11,19],[],[],[]⟩,⟨[4,5],[],[],[]⟩,⟨[2,4,9,10,11],[],[],[]⟩,⟨[2,4,9,10,11],[],[],[]⟩,⟨[4,5],[],[],[]⟩]
noncomputable def BO:Env:=bQ.env [(23,pU),(93,UM)]
noncomputable def ud{R:Type}(n:Nat)(x0:Option R)(x1:Int→Bool→Int→Int→BA→(List BA)→(List ae)→Option R)(wJ:List BA)(wW:Int):Nat→Int→Int→Int→BA→(List BA)→(List ae)→Option R
  |0,_,_,_,_,_,_=>none
  |m+1,wH,wB,wC,wD,wE,wA=>
    (cond (decide (wH<wW))
   (cond ((decide ((0:Int)≤wH))&&(decide (wH<(wJ.length:Int))))
    (cond ((fun(x:ae)(_:BA)=>ag x) (⟨wB,wC,wD,wE,wA⟩:ae) (al (t:= .str) wJ (Int.toNat wH)))
     (cond (decide ((aw (⟨wB,wC,wD,wE,wA⟩:ae) (al (t:= .str) wJ (Int.toNat wH)))<(0:Int)))
      (x0)
      (cond ((decide ((0:Int)≤(aw (⟨wB,wC,wD,wE,wA⟩:ae) (al (t:= .str) wJ (Int.toNat wH)))))&&(decide ((aw (⟨wB,wC,wD,wE,wA⟩:ae) (al (t:= .str) wJ (Int.toNat wH)))<(wA.length:Int))))
       (ud n x0 x1 wJ wW m (IntKind.wrap .i64 (wH+(1:Int))) (ae.kind (al (t:= .node) wA (Int.toNat (aw (⟨wB,wC,wD,wE,wA⟩:ae) (al (t:= .str) wJ (Int.toNat wH)))))) (ae.n (al (t:= .node) wA (Int.toNat (aw (⟨wB,wC,wD,wE,wA⟩:ae) (al (t:= .str) wJ (Int.toNat wH)))))) (ae.s (al (t:= .node) wA (Int.toNat (aw (⟨wB,wC,wD,wE,wA⟩:ae) (al (t:= .str) wJ (Int.toNat wH)))))) (ae.keys (al (t:= .node) wA (Int.toNat (aw (⟨wB,wC,wD,wE,wA⟩:ae) (al (t:= .str) wJ (Int.toNat wH)))))) (ae.kids (al (t:= .node) wA (Int.toNat (aw (⟨wB,wC,wD,wE,wA⟩:ae) (al (t:= .str) wJ (Int.toNat wH)))))))
       none))
     none)
    none)
   (x1 wH (decide (wH<wW)) wB wC wD wE wA))
theorem UZ{R:Type}(n:Nat)(k':Kx R)(wJ:List BA)(wW:Int)(wH:Int)(wB:Int)(wC:Int)(wD:BA)(wE:List BA)(wA:List ae):ev BO J9 n (bC [1,0,1,0,0] F7) (H0 wJ wW wH wB wC wD wE wA) k'=
 (cond (decide (wH<wW))
 (cond ((decide ((0:Int)≤wH))&&(decide (wH<(wJ.length:Int))))
 (cond ((fun(x:ae)(_:BA)=>ag x) (⟨wB,wC,wD,wE,wA⟩:ae) (al (t:= .str) wJ (Int.toNat wH)))
 (cond (decide ((aw (⟨wB,wC,wD,wE,wA⟩:ae) (al (t:= .str) wJ (Int.toNat wH)))<(0:Int)))
 (k' .ret OF)
 (cond ((decide ((0:Int)≤(aw (⟨wB,wC,wD,wE,wA⟩:ae) (al (t:= .str) wJ (Int.toNat wH)))))&&(decide ((aw (⟨wB,wC,wD,wE,wA⟩:ae) (al (t:= .str) wJ (Int.toNat wH)))<(wA.length:Int))))
 (k' .normal (H0 wJ wW (IntKind.wrap .i64 (wH+(1:Int))) (ae.kind (al (t:= .node) wA (Int.toNat (aw (⟨wB,wC,wD,wE,wA⟩:ae) (al (t:= .str) wJ (Int.toNat wH)))))) (ae.n (al (t:= .node) wA (Int.toNat (aw (⟨wB,wC,wD,wE,wA⟩:ae) (al (t:= .str) wJ (Int.toNat wH)))))) (ae.s (al (t:= .node) wA (Int.toNat (aw (⟨wB,wC,wD,wE,wA⟩:ae) (al (t:= .str) wJ (Int.toNat wH)))))) (ae.keys (al (t:= .node) wA (Int.toNat (aw (⟨wB,wC,wD,wE,wA⟩:ae) (al (t:= .str) wJ (Int.toNat wH)))))) (ae.kids (al (t:= .node) wA (Int.toNat (aw (⟨wB,wC,wD,wE,wA⟩:ae) (al (t:= .str) wJ (Int.toNat wH))))))))
 none))
 none)
 none)
 (k' (.exit 0) (OG wJ wW wH (decide (wH<wW)) wB wC wD wE wA))):=by kernel_rfl
theorem OH{R:Type}(n:Nat)(k':Kx R)(wJ:List BA)(wW:Int):∀(m:Nat)(wH:Int)(wB:Int)(wC:Int)(wD:BA)(wE:List BA)(wA:List ae),iter (fun st k=>ev BO J9 n (bC [1,0,1,0,0] F7) st k) m (H0 wJ wW wH wB wC wD wE wA) k'=ud n (k' .ret OF) (fun(uF:Int)(uN:Bool)(wQ:Int)(wR:Int)(wS:BA)(wT:List BA)(wU:List ae)=>k' (.exit 0) (OG wJ wW uF uN wQ wR wS wT wU)) wJ wW m wH wB wC wD wE wA:=by
 intro m;induction m with
 |zero=>intros;rfl
 |succ m ih=>
  intro wH wB wC wD wE wA
  simp only[iter]
  rw[UZ]
  simp only[ih,ud]
noncomputable def OI{R:Type}(n:Nat)(k':Kx R):Kx R:=(b8 0 (eP BO J9 n (bC [1,1] F7) k'))
theorem OJ{R:Type}(n:Nat)(k:Kt R)(a0:ae)(a1:List BA):OI n (aI BO [.ro,.ro] [false,false] true [.cell 4 27,.tmp 5] [27,4] [.d .node a0,.d (.sl .str) a1] k) .ret OF=
 (k [.d .node (⟨(0:Int),(0:Int),ByteArray.empty,([]:List BA),([]:List ae)⟩:ae),.d .bool false]):=by kernel_rfl
theorem OL{R:Type}(n:Nat)(k:Kt R)(a0:ae)(a1:List BA)(wJ:List BA)(wW:Int)(uF:Int)(uN:Bool)(wQ:Int)(wR:Int)(wS:BA)(wT:List BA)(wU:List ae):OI n (aI BO [.ro,.ro] [false,false] true [.cell 4 27,.tmp 5] [27,4] [.d .node a0,.d (.sl .str) a1] k) (.exit 0) (OG wJ wW uF uN wQ wR wS wT wU)=
 (cond (ag (⟨wQ,wR,wS,wT,wU⟩:ae))
 (k [.d .node (⟨wQ,wR,wS,wT,wU⟩:ae),.d .bool true])
 none):=by kernel_rfl
theorem U0{R:Type}(n:Nat)(k:Kt R)(a0:ae)(a1:List BA):aG BO J9 n F7 [.ro,.ro] [false,false] true [.cell 4 27,.tmp 5] [27,4] [.d .node a0,.d (.sl .str) a1] k=
 (ud n (k [.d .node (⟨(0:Int),(0:Int),ByteArray.empty,([]:List BA),([]:List ae)⟩:ae),.d .bool false]) (fun(uF:Int)(uN:Bool)(wQ:Int)(wR:Int)(wS:BA)(wT:List BA)(wU:List ae)=>
 (cond (ag (⟨wQ,wR,wS,wT,wU⟩:ae))
 (k [.d .node (⟨wQ,wR,wS,wT,wU⟩:ae),.d .bool true])
 none)) a1 (a1.length:Int) n (0:Int) (ae.kind a0) (ae.n a0) (ae.s a0) (ae.keys a0) (ae.kids a0)):=by
 refine Eq.trans (b:=(iter (fun st k=>ev BO J9 n (bC [1,0,1,0,0] F7) st k) n (H0 a1 (a1.length:Int) (0:Int) (ae.kind a0) (ae.n a0) (ae.s a0) (ae.keys a0) (ae.kids a0)) (OI n (aI BO [.ro,.ro] [false,false] true [.cell 4 27,.tmp 5] [27,4] [.d .node a0,.d (.sl .str) a1] k)))) (by kernel_rfl) ?_
 simp only[OH,OJ,OL]
theorem OM(a0:ae)(a1:List BA)(hg:(ag a0&&dS bH a1)=true):∃keep rounds,∀{R:Type}(k:Kt R),aG BO keep rounds F7 [.ro,.ro] [false,false] true [.cell 4 27,.tmp 5] [27,4] [.d .node a0,.d (.sl .str) a1] k=k [.d .node ((br a0 a1).1),.d .bool ((br a0 a1).2)]:=by
 simp only[Bool.and_eq_true] at hg
 obtain⟨hg,uc⟩:=hg
 have nl:=aR uc
 refine⟨J9,a1.length+1,fun {R} k=> ?_⟩
 rw[U0]
 show _=k [.d .node (br a0 a1).1,.d .bool (br a0 a1).2]
 unfold br
 refine Eq.trans (td (xs:=a1) (F:=fun m j (t:ae)=>ud (a1.length+1) _ _ a1 (a1.length:Int) m (j:Int) t.kind t.n t.s t.keys t.kids) (step:=fC) (out:=fun _=>k [.d .node cI,.d .bool false]) (good:=fun t=>k [.d .node t,.d .bool true]) (fun t=>ag t=true)
  (fun x t t' _ ht e=>dG ht (ti e)) (fun m j t x hx jh=> ?_) (fun m t jh=>by simp only[ud,iX,cond_false,az,aK,jh,cond_true]) a1.length 0 (a1.length+1) a0 (by omega) (by omega) hg) ?_
 ·obtain⟨h1,h0,hw,ht⟩:=idx (aP hx) (by omega)
  unfold fC
  by_cases hk:aw t x<0
  ·simp only[ud,h1,h0,hw,ht,bm (t:= .str) hx,Bool.and_self,cond_true,az,aK,jh,decide_eq_true hk]
   rfl
  ·have bU:=rQ hk
   simp only[ud,h1,h0,hw,ht,bm (t:= .str) hx,Bool.and_self,cond_true,cond_false,az,aK,jh,decide_eq_false hk,decide_eq_true (show (0:Int)≤aw t x by omega),decide_eq_true bU,Bool.and_self]
   rfl
 ·rw[List.drop_zero]
  cases fj fC a1 a0<;>rfl
noncomputable def q74:Qt
 | [.d .node a0,.d (.sl .str) a1]=>some (((fun(x:ae)(y:List BA)=>ag x&&dS bH y) a0 a1),[.d .node ((br a0 a1).1),.d .bool ((br a0 a1).2)])
 |_=>none
noncomputable def s74:Gm.Spec:=Gm.Spec.of [.ro,.ro] [false,false] true q74
theorem Z8:Gm.Good Tryz.prog (74,s74):=by
 have hl:∀x∈[(23,pU),(93,UM)],Gm.Good Tryz.prog x:=bt.2 ⟨ic,bt.2 ⟨BJ,gw⟩⟩
 refine⟨⟨aD (aL.env hl) (bQ.cq hl) Tryz.func74 (by kernel_rfl:Tryz.f74.body=some F7) [27,4] (by kernel_rfl) ?_,_,Tryz.func74,by kernel_rfl,of_decide_eq_true (by kernel_rfl)⟩,Gm.Spec.ax _ _ _ _⟩
 intro ds outs h
 unfold q74 at h
 split at h
 ·simp only[Option.some.injEq,Prod.mk.injEq] at h;obtain⟨hg,h⟩:=h;cases h;exact OM _ _ hg
 ·cases h
open Go.RowKit in
set_option maxHeartbeats 4000000 in
set_option maxRecDepth 1000000 in
theorem U1:Ze Tryz.prog 109 1:=by
 refine⟨fun a n cap i w hi hn=> ?_,fun b o n cap i j cs el w zq hj hn hb hs h1=> ?_⟩
 ·have hic:i≤cap:=by omega
  go_enter Tryz.func109,Tryz.ntmps109
  go_wp2
  all_goals (go_ret;exact⟨rfl,rfl⟩)
 ·obtain⟨eT,ii,news,W1,W2,hu,hi,dy,hlen,yH,gZ,da,hW1,wi,j3⟩:=C8 (E:=bQ.env []) (aL.env (fun _ h=>by simp at h)) (T:=24) (e:= .str) rfl (sz:=1) rfl zq hj hn hb hs h1
  obtain⟨A,hA,ON⟩:∃A:Addr,(if cap=j then (some ⟨b,o,none⟩:Option Addr) else some ⟨b,o+j,none⟩)=some A∧Hid (∀ t u,news[t]? =some u→w.drew.cell? (A.add t)=some u):=by
   by_cases h:cap=j
   ·exact⟨⟨b,o,none⟩,by simp[h],gZ _ (.inr (by omega))⟩
   ·exact⟨⟨b,o+j,none⟩,by simp[h],gZ _ (.inl (by simp))⟩
  have uT:∀ty,(Builtin.clear_ #[24] ty #[.slice (some ⟨b,o+(i+(n-j)),none⟩) (n-(i+(n-j))) (cap-(i+(n-j)))]).run Tryz.prog W1 = .ok (.tuple #[]) W2:=fun ty=>by have:=wi ty;simpa only[Nat.mul_one] using this
  have s5:Hid (Tryz.prog.underlying 24=some (.slice eT)):=hu
  have s6:Hid (Tryz.prog.info? eT=some ii):=hi
  have s1:Hid (news.length=(n-j)*1):=hlen
  have s2:Hid (∀ u∈news,u.oneCell'=true):=yH
  have s3:Hid (o+i*1+news.length≤cs.size):=da
  have s4:Hid (w.heap[b]? =some (.cells cs el (0,0))):=hb
  have hW:Hid (W1=w.drew.setRow b (putAt cs (o+i*1) news.toArray)):=hW1
  have hE:Hid (Ba w W2 b o n i j 1 cs el):=j3
  have mixed:Tryz.prog.follows .mixedOrders=true:=aL.ord
  have hic:i≤cap:=by omega
  have hjc:j≤cap:=by omega
  have dn:i≠j:=by omega
  clear hu hi hlen yH gZ da hW1 wi j3 hb h1 hs
  go_enter Tryz.func109,Tryz.ntmps109
  go_wp2_with fail
  go_region_law_o (refine oQ rfl (.tmp 22) (.tmp 25) 24 rfl eT ii 1 s5 s6 dy b o i cap (by simp[Act.eval,Act.put]) A (n-j) (cap-j) news (by simp[Act.eval,Act.put]) s1 ON s2 (by omega) cs el s4 s3 ?_;rw[← show W1=_ from hW])
  go_wp2
  go_ret
  exact⟨by rw[show n-(j-i)=i+(n-j) by omega];rfl,hE⟩
noncomputable def aeX:Qt
 | [.d (.sl .str) a0,.d (.i .i64) a1,.d (.i .i64) a2]=>some (Bc a0 a1 a2,[.d (.sl .str) (gv a0 a1 a2)])
 |_=>none
noncomputable def Z9:Gm.Spec:=Gm.Spec.of [.oh,.ro,.ro] [false] true aeX
theorem U2:Gm.Good Tryz.prog (109,Z9):=by
 refine⟨⟨C9 (t:= .str) (sz:=1) rfl U1 fun ds outs h=> ?_,_,Tryz.func109,by kernel_rfl,of_decide_eq_true (by kernel_rfl)⟩,Gm.Spec.ax _ _ _ _⟩
 unfold aeX at h
 split at h
 ·rename_i a0 a1 a2
  simp only[Option.some.injEq,Prod.mk.injEq] at h
  obtain⟨hg,rfl⟩:=h
  simp only[Bc,Bool.and_eq_true,decide_eq_true_eq] at hg
  exact⟨a0,a1.toNat,a2.toNat,by rw[Int.toNat_of_nonneg (by omega),Int.toNat_of_nonneg (by omega)],by omega,by omega,rfl⟩
 ·cases h
open Go.RowKit in
set_option maxHeartbeats 4000000 in
set_option maxRecDepth 1000000 in
theorem Z':Ze Tryz.prog 95 5:=by
 refine⟨fun a n cap i w hi hn=> ?_,fun b o n cap i j cs el w zq hj hn hb hs h1=> ?_⟩
 ·have hic:i≤cap:=by omega
  go_enter Tryz.func95,Tryz.ntmps95
  go_wp2
  all_goals (go_ret;exact⟨rfl,rfl⟩)
 ·obtain⟨eT,ii,news,W1,W2,hu,hi,dy,hlen,yH,gZ,da,hW1,wi,j3⟩:=C8 (E:=bQ.env []) (aL.env (fun _ h=>by simp at h)) (T:=25) (e:= .node) rfl (sz:=5) rfl zq hj hn hb hs h1
  obtain⟨A,hA,ON⟩:∃A:Addr,(if cap=j then (some ⟨b,o,none⟩:Option Addr) else some ⟨b,o+j*5,none⟩)=some A∧Hid (∀ t u,news[t]? =some u→w.drew.cell? (A.add t)=some u):=by
   by_cases h:cap=j
   ·exact⟨⟨b,o,none⟩,by simp[h],gZ _ (.inr (by omega))⟩
   ·exact⟨⟨b,o+j*5,none⟩,by simp[h],gZ _ (.inl (by simp))⟩
  have uT:∀ty,(Builtin.clear_ #[25] ty #[.slice (some ⟨b,o+(i+(n-j))*5,none⟩) (n-(i+(n-j))) (cap-(i+(n-j)))]).run Tryz.prog W1 = .ok (.tuple #[]) W2:=fun ty=>wi ty
  have s5:Hid (Tryz.prog.underlying 25=some (.slice eT)):=hu
  have s6:Hid (Tryz.prog.info? eT=some ii):=hi
  have s1:Hid (news.length=(n-j)*5):=hlen
  have s2:Hid (∀ u∈news,u.oneCell'=true):=yH
  have s3:Hid (o+i*5+news.length≤cs.size):=da
  have s4:Hid (w.heap[b]? =some (.cells cs el (0,0))):=hb
  have hW:Hid (W1=w.drew.setRow b (putAt cs (o+i*5) news.toArray)):=hW1
  have hE:Hid (Ba w W2 b o n i j 5 cs el):=j3
  have mixed:Tryz.prog.follows .mixedOrders=true:=aL.ord
  have hic:i≤cap:=by omega
  have hjc:j≤cap:=by omega
  have dn:i≠j:=by omega
  clear hu hi hlen yH gZ da hW1 wi j3 hb h1 hs
  go_enter Tryz.func95,Tryz.ntmps95
  go_wp2_with fail
  go_region_law_o (refine oQ rfl (.tmp 22) (.tmp 25) 25 rfl eT ii 5 s5 s6 dy b o i cap (by simp[Act.eval,Act.put]) A (n-j) (cap-j) news (by simp[Act.eval,Act.put]) s1 ON s2 (by omega) cs el s4 s3 ?_;rw[← show W1=_ from hW])
  go_wp2
  go_ret
  exact⟨by rw[show n-(j-i)=i+(n-j) by omega];rfl,hE⟩
noncomputable def q95:Qt
 | [.d (.sl .node) a0,.d (.i .i64) a1,.d (.i .i64) a2]=>some (Bc a0 a1 a2,[.d (.sl .node) (gv a0 a1 a2)])
 |_=>none
noncomputable def s95:Gm.Spec:=Gm.Spec.of [.oh,.ro,.ro] [false] true q95
theorem OO:Gm.Good Tryz.prog (95,s95):=by
 refine⟨⟨C9 (t:= .node) (sz:=5) rfl Z' fun ds outs h=> ?_,_,Tryz.func95,by kernel_rfl,of_decide_eq_true (by kernel_rfl)⟩,Gm.Spec.ax _ _ _ _⟩
 unfold q95 at h
 split at h
 ·rename_i a0 a1 a2
  simp only[Option.some.injEq,Prod.mk.injEq] at h
  obtain⟨hg,rfl⟩:=h
  simp only[Bc,Bool.and_eq_true,decide_eq_true_eq] at hg
  exact⟨a0,a1.toNat,a2.toNat,by rw[Int.toNat_of_nonneg (by omega),Int.toNat_of_nonneg (by omega)],by omega,by omega,rfl⟩
 ·cases h
noncomputable def aac:Code:=(Tryz.f94.body).getD .skip
def aeZ:Nat→Kp:=fa [⟨[1,2,4],[],[],[]⟩,⟨[1,2,4],[],[],[]⟩,⟨[2,4,5],[],[],[]⟩,⟨[2,4,5,18],[],[],[]⟩,⟨[4],[],[],[]⟩,⟨[2,4,5],[],[],[]⟩,⟨[2,4],[],[],[]⟩,⟨[4],[],[],[]⟩]
noncomputable def ae0:Env:=bQ.env [(23,pU),(52,UE),(88,ZR),(95,s95),(109,Z9)]
theorem U3{R:Type}(n:Nat)(k:Kt R)(a0:ae)(a1:BA):aG ae0 aeZ n aac [.ro,.ro] [false] true [.cell 4 27] [27] [.d .node a0,.d .str a1] k=
 (cond (ag (eN a0))
 (cond ((fun(x:List BA)(_:BA)=>fk x) (ae.keys a0) a1)
 (cond (!(aE (eN a0)))
 (k [.d .node (eN a0)])
 (cond (decide ((fx (ae.keys a0) a1)<(0:Int)))
 (k [.d .node (eN a0)])
 (cond (Bc (ae.keys a0) (fx (ae.keys a0) a1) (IntKind.wrap .i64 ((fx (ae.keys a0) a1)+(1:Int))))
 (cond (Bc (ae.kids a0) (fx (ae.keys a0) a1) (IntKind.wrap .i64 ((fx (ae.keys a0) a1)+(1:Int))))
 (k [.d .node (⟨(ae.kind a0),(ae.n a0),(ae.s a0),(gv (ae.keys a0) (fx (ae.keys a0) a1) (IntKind.wrap .i64 ((fx (ae.keys a0) a1)+(1:Int)))),(gv (ae.kids a0) (fx (ae.keys a0) a1) (IntKind.wrap .i64 ((fx (ae.keys a0) a1)+(1:Int))))⟩:ae)])
 none)
 none)))
 none)
 none):=by kernel_rfl
theorem OP(a0:ae)(a1:BA)(hg:ag a0=true):∃keep rounds,∀{R:Type}(k:Kt R),aG ae0 keep rounds aac [.ro,.ro] [false] true [.cell 4 27] [27] [.d .node a0,.d .str a1] k=k [.d .node (fL a0 a1)]:=by
 have fP:=hg
 rw[bf] at hg
 simp only[Bool.and_eq_true] at hg
 obtain⟨_,_,_,lQ,lg⟩:=hg
 have p9:=aR lQ
 have ot:=aR lg
 refine⟨aeZ,0,fun k=> ?_⟩
 rw[U3]
 simp only[az,aK,fP,lF lQ,cond_true]
 cases hm:aE a0
 ·unfold fL;rw[hm];rfl
 simp only[xn hm a1,Bool.not_true,cond_false]
 by_cases hk:bj a0 a1<0
 ·rw[zR hk,decide_eq_true hk];rfl
 ·have hb:=lH a0 a1 hk
  have e0:fL a0 a1=jR a0 (bj a0 a1):=by unfold fL;rw[hm,decide_eq_false hk];rfl
  obtain⟨i,e,h1,h2⟩:=hb
  obtain⟨_,_,hw,_⟩:=idx h1 (by omega)
  rw[e0,decide_eq_false hk,e,hw,xg h1,xg h2]
  rfl
noncomputable def q94:Qt
 | [.d .node a0,.d .str a1]=>some (((fun(x:ae)(_:BA)=>ag x) a0 a1),[.d .node (fL a0 a1)])
 |_=>none
noncomputable def s94:Gm.Spec:=Gm.Spec.of [.ro,.ro] [false] true q94
theorem aad:Gm.Good Tryz.prog (94,s94):=by
 have hl:∀x∈[(23,pU),(52,UE),(88,ZR),(95,s95),(109,Z9)],Gm.Good Tryz.prog x:=bt.2 ⟨ic,bt.2 ⟨BG,bt.2 ⟨FP,bt.2 ⟨OO,bt.2 ⟨U2,gw⟩⟩⟩⟩⟩
 refine⟨⟨aD (aL.env hl) (bQ.cq hl) Tryz.func94 (by kernel_rfl:Tryz.f94.body=some aac) [27] (by kernel_rfl) ?_,_,Tryz.func94,by kernel_rfl,of_decide_eq_true (by kernel_rfl)⟩,Gm.Spec.ax _ _ _ _⟩
 intro ds outs h
 unfold q94 at h
 split at h
 ·simp only[Option.some.injEq,Prod.mk.injEq] at h;obtain⟨hg,h⟩:=h;cases h;exact OP _ _ hg
 ·cases h
noncomputable def aae:Code:=(Tryz.f68.body).getD .skip
def ae1:Nat→Kp:=fa [⟨[1,2,4],[],[],[]⟩,⟨[1,2,4,5],[],[],[]⟩,⟨[2,4,5,6],[],[],[]⟩,⟨[4,5,6,22],[],[],[]⟩,⟨[4],[],[],[]⟩,⟨[4,5,6],[],[513],[]⟩,⟨[4,5],[],[],[]⟩,⟨[4],[],[],[]⟩]
noncomputable def ae2:Env:=bQ.env [(27,x3),(64,Z3)]
theorem U4{R:Type}(n:Nat)(k:Kt R)(a0:ae)(a1:BA):aG ae2 ae1 n aae [.ro,.ro] [false] false [.cell 4 27] [27] [.d .node a0,.d .str a1] k=
 (cond (ag (eN a0))
 (cond ((fun(x:ae)(_:BA)=>ag x) (eN a0) a1)
 (cond (decide ((bj (eN a0) a1)<(0:Int)))
 (k [.d .node (eN a0)])
 (cond (((ae.keys a0).length:Int) !=((ae.kids a0).length:Int))
 (k [.d .node (eN a0)])
 (cond ((decide ((0:Int)≤(bj (eN a0) a1)))&&(decide ((bj (eN a0) a1)≤((ae.keys a0).length:Int))))
 (cond (Nat.ble (0+(((ae.keys a0).take (Int.toNat (bj (eN a0) a1))).drop 0).length) bT)
 (cond ((decide ((0:Int)≤(IntKind.wrap .i64 ((bj (eN a0) a1)+(1:Int)))))&&((decide ((IntKind.wrap .i64 ((bj (eN a0) a1)+(1:Int)))≤((ae.keys a0).length:Int)))&&(decide (((ae.keys a0).length:Int)≤((ae.keys a0).length:Int)))))
 (cond (Nat.ble ((([]:List BA)++(((ae.keys a0).take (Int.toNat (bj (eN a0) a1))).drop 0)).length+(((ae.keys a0).take (Int.toNat ((ae.keys a0).length:Int))).drop (Int.toNat (IntKind.wrap .i64 ((bj (eN a0) a1)+(1:Int))))).length) bT)
 (cond ((decide ((0:Int)≤(bj (eN a0) a1)))&&(decide ((bj (eN a0) a1)≤((ae.kids a0).length:Int))))
 (cond (Nat.ble (0+(((ae.kids a0).take (Int.toNat (bj (eN a0) a1))).drop 0).length) bT)
 (cond ((decide ((0:Int)≤(IntKind.wrap .i64 ((bj (eN a0) a1)+(1:Int)))))&&((decide ((IntKind.wrap .i64 ((bj (eN a0) a1)+(1:Int)))≤((ae.kids a0).length:Int)))&&(decide (((ae.kids a0).length:Int)≤((ae.kids a0).length:Int)))))
 (cond (Nat.ble ((([]:List ae)++(((ae.kids a0).take (Int.toNat (bj (eN a0) a1))).drop 0)).length+(((ae.kids a0).take (Int.toNat ((ae.kids a0).length:Int))).drop (Int.toNat (IntKind.wrap .i64 ((bj (eN a0) a1)+(1:Int))))).length) bT)
 (k [.d .node (⟨(ae.kind a0),(ae.n a0),(ae.s a0),((([]:List BA)++(((ae.keys a0).take (Int.toNat (bj (eN a0) a1))).drop 0))++(((ae.keys a0).take (Int.toNat ((ae.keys a0).length:Int))).drop (Int.toNat (IntKind.wrap .i64 ((bj (eN a0) a1)+(1:Int)))))),((([]:List ae)++(((ae.kids a0).take (Int.toNat (bj (eN a0) a1))).drop 0))++(((ae.kids a0).take (Int.toNat ((ae.kids a0).length:Int))).drop (Int.toNat (IntKind.wrap .i64 ((bj (eN a0) a1)+(1:Int))))))⟩:ae)])
 none)
 none)
 none)
 none)
 none)
 none)
 none)
 none)))
 none)
 none):=by kernel_rfl
theorem OQ(a0:ae)(a1:BA)(hg:ag a0=true):∃keep rounds,∀{R:Type}(k:Kt R),aG ae2 keep rounds aae [.ro,.ro] [false] false [.cell 4 27] [27] [.d .node a0,.d .str a1] k=k [.d .node (fL a0 a1)]:=by
 have fP:=hg
 rw[bf] at hg
 simp only[Bool.and_eq_true] at hg
 obtain⟨_,_,_,lQ,lg⟩:=hg
 have p9:=aR lQ
 have ot:=aR lg
 refine⟨ae1,0,fun k=> ?_⟩
 rw[U4]
 simp only[az,aK,fP,cond_true]
 by_cases hk:bj a0 a1<0
 ·rw[zR hk,decide_eq_true hk];rfl
 cases hl:((a0.keys.length:Int) !=(a0.kids.length:Int))
 rotate_left
 ·rw[MB hl,decide_eq_false hk];rfl
 rw[MC hk hl,decide_eq_false hk]
 obtain⟨i,e,h1,h2⟩:=lH a0 a1 hk
 obtain⟨_,_,hw,_⟩:=idx h1 (by omega)
 have d0:decide ((0:Int)≤(i:Int))=true:=decide_eq_true (by omega)
 have d1:decide ((i:Int)≤(a0.keys.length:Int))=true:=decide_eq_true (by omega)
 have d2:decide ((i:Int)≤(a0.kids.length:Int))=true:=decide_eq_true (by omega)
 have d3:decide ((0:Int)≤((i+1:Nat):Int))=true:=decide_eq_true (by omega)
 have d4:decide (((i+1:Nat):Int)≤(a0.keys.length:Int))=true:=decide_eq_true (by omega)
 have d5:decide (((i+1:Nat):Int)≤(a0.kids.length:Int))=true:=decide_eq_true (by omega)
 have d6:decide ((a0.keys.length:Int)≤(a0.keys.length:Int))=true:=decide_eq_true (Int.le_refl _)
 have d7:decide ((a0.kids.length:Int)≤(a0.kids.length:Int))=true:=decide_eq_true (Int.le_refl _)
 simp only[e,hw,d0,d1,d2,d3,d4,d5,d6,d7,Int.toNat_natCast,List.drop_zero,List.take_length,List.nil_append,Bg p9,Bg ot,MA p9,MA ot,Bool.and_self,cond_true,cond_false]
 rfl
noncomputable def q68:Qt
 | [.d .node a0,.d .str a1]=>some (((fun(x:ae)(_:BA)=>ag x) a0 a1),[.d .node (fL a0 a1)])
 |_=>none
noncomputable def s68:Gm.Spec:=Gm.Spec.of [.ro,.ro] [false] false q68
theorem aaf:Gm.Good Tryz.prog (68,s68):=by
 have hl:∀x∈[(27,x3),(64,Z3)],Gm.Good Tryz.prog x:=bt.2 ⟨jZ,bt.2 ⟨FX,gw⟩⟩
 refine⟨⟨aD (aL.env hl) (bQ.cq hl) Tryz.func68 (by kernel_rfl:Tryz.f68.body=some aae) [27] (by kernel_rfl) ?_,_,Tryz.func68,by kernel_rfl,of_decide_eq_true (by kernel_rfl)⟩,Gm.Spec.ax _ _ _ _⟩
 intro ds outs h
 unfold q68 at h
 split at h
 ·simp only[Option.some.injEq,Prod.mk.injEq] at h;obtain⟨hg,h⟩:=h;cases h;exact OQ _ _ hg
 ·cases h
noncomputable def aag:Code:=(Tryz.f92.body).getD .skip
def ae3:Nat→Kp:=fa [⟨[1,2,4],[],[],[]⟩,⟨[1,2,4,6],[],[],[]⟩,⟨[1,2,4,6,11],[],[],[]⟩,⟨[4,5],[],[],[]⟩,⟨[1,2,4,6,15],[],[],[]⟩,⟨[4,5],[],[],[]⟩,⟨[2,4,6],[],[],[]⟩,⟨[2,4],[],[],[]⟩,⟨[4,5],[],[],[]⟩]
noncomputable def ae4:Env:=bQ.env [(23,pU),(93,UM),(94,s94),(95,s95)]
theorem U5{R:Type}(n:Nat)(k:Kt R)(a0:ae)(a1:BA):aG ae4 ae3 n aag [.ro,.ro] [false,false] true [.cell 4 27,.tmp 5] [27,4] [.d .node a0,.d .str a1] k=
 (cond ((fun(x:ae)(_:BA)=>ag x) (eN a0) a1)
 (cond (decide ((aw (eN a0) a1)<(0:Int)))
 (k [.d .node (⟨(0:Int),(0:Int),ByteArray.empty,([]:List BA),([]:List ae)⟩:ae),.d .bool false])
 (cond ((ae.kind a0)==(5:Int))
 (cond ((fun(x:ae)(_:BA)=>ag x) (eN a0) a1)
 (k [.d .node (eN (fL (eN a0) a1)),.d .bool true])
 none)
 (cond (ag (eN a0))
 (cond (Bc (ae.kids a0) (aw (eN a0) a1) (IntKind.wrap .i64 ((aw (eN a0) a1)+(1:Int))))
 (k [.d .node (⟨(ae.kind a0),(ae.n a0),(ae.s a0),(ae.keys a0),(gv (ae.kids a0) (aw (eN a0) a1) (IntKind.wrap .i64 ((aw (eN a0) a1)+(1:Int))))⟩:ae),.d .bool true])
 none)
 none)))
 none):=by kernel_rfl
theorem OR(a0:ae)(a1:BA)(hg:ag a0=true):∃keep rounds,∀{R:Type}(k:Kt R),aG ae4 keep rounds aag [.ro,.ro] [false,false] true [.cell 4 27,.tmp 5] [27,4] [.d .node a0,.d .str a1] k=k [.d .node ((fD a0 a1).1),.d .bool ((fD a0 a1).2)]:=by
 have fP:=hg
 rw[bf] at hg
 simp only[Bool.and_eq_true] at hg
 obtain⟨_,_,_,lQ,lg⟩:=hg
 have p9:=aR lQ
 have ot:=aR lg
 refine⟨ae3,0,fun k=> ?_⟩
 rw[U5]
 simp only[az,aK,fP,cond_true]
 show _=k [.d .node (fD a0 a1).1,.d .bool (fD a0 a1).2]
 unfold fD
 by_cases hk:aw a0 a1<0
 ·rw[decide_eq_true hk];rfl
 obtain⟨i,e,h1⟩:=fM hk
 obtain⟨_,_,hw,_⟩:=idx h1 (by omega)
 rw[decide_eq_false hk,e,hw,xg h1]
 cases a0.kind==(5:Int)<;>rfl
noncomputable def q92:Qt
 | [.d .node a0,.d .str a1]=>some (((fun(x:ae)(_:BA)=>ag x) a0 a1),[.d .node ((fD a0 a1).1),.d .bool ((fD a0 a1).2)])
 |_=>none
noncomputable def s92:Gm.Spec:=Gm.Spec.of [.ro,.ro] [false,false] true q92
theorem F8:Gm.Good Tryz.prog (92,s92):=by
 have hl:∀x∈[(23,pU),(93,UM),(94,s94),(95,s95)],Gm.Good Tryz.prog x:=bt.2 ⟨ic,bt.2 ⟨BJ,bt.2 ⟨aad,bt.2 ⟨OO,gw⟩⟩⟩⟩
 refine⟨⟨aD (aL.env hl) (bQ.cq hl) Tryz.func92 (by kernel_rfl:Tryz.f92.body=some aag) [27,4] (by kernel_rfl) ?_,_,Tryz.func92,by kernel_rfl,of_decide_eq_true (by kernel_rfl)⟩,Gm.Spec.ax _ _ _ _⟩
 intro ds outs h
 unfold q92 at h
 split at h
 ·simp only[Option.some.injEq,Prod.mk.injEq] at h;obtain⟨hg,h⟩:=h;cases h;exact OR _ _ hg
 ·cases h
open Go.RowKit in
set_option maxHeartbeats 4000000 in
set_option maxRecDepth 1000000 in
theorem U6:Zm Tryz.prog 105 1:=by
  intro base n cap i vb vo m vc bX news w h
  have hE:(bQ.env []).Ok Tryz.prog:=aL.env (fun _ h=>by simp at h)
  have hm:=h.hm
  have k7:=h.hi
  have hnc:=h.hn
  have ji:n+m≤4294967296:=h.lim
  have Ep : ¬((m:Int)=0):=by omega
  have mixed:Tryz.prog.follows .mixedOrders=true:=aL.ord
  have hw1:IntKind.i64.wrap ((i:Int)+(m:Int))=(i:Int)+(m:Int):=by rw[IntKind.wrap_i64];omega
  have zu:(0:Int)≤(i:Int)+(m:Int):=by omega
  have htn:((i:Int)+(m:Int)).toNat=i+m:=by omega
  by_cases hi:i=n
  · subst hi
    obtain⟨b',o',iE,W,df,j3⟩:=HC hE (T:=24) (e:= .str) rfl (sz:=1) rfl h vc
    have j3:Hid (mE w W base b' o' (i+m) iE 1 (bX.take (i*1)++news++bX.drop (i*1))):=j3
    cases base with
    |none=>
      obtain⟨rfl,rfl⟩:=h.nil rfl
      clear h
      go_enter Tryz.func105,Tryz.ntmps105
      go_wp2_with (at_builtin;refine Lib.wpList_append_run _ rfl _ _ _ _ rfl _ _ rfl rfl _ _ (df _) ?_)
      go_ret
      exact⟨b',o',iE,by rw[Nat.zero_add];rfl,j3⟩
    |some a=>
      obtain⟨b,o,cs,el,rfl,_⟩:=h.is _ rfl
      clear h
      go_enter Tryz.func105,Tryz.ntmps105
      go_wp2_with (at_builtin;refine Lib.wpList_append_run _ rfl _ _ _ _ rfl _ _ rfl rfl _ _ (df _) ?_)
      all_goals (go_ret;exact⟨_,_,_,rfl,j3⟩)
  · have bU:i<n:=by omega
    have hz2 : ¬((i:Int)=(n:Int)):=by omega
    cases base with
    |none=>have:=(h.nil rfl).1;omega
    |some a=>
      obtain⟨b,o,cs,el,rfl,_⟩:=h.is _ rfl
      have hb4 : ¬(cap=i):=by omega
      by_cases kH:n+m≤cap
      · obtain⟨W1,XC,hov,OS,OT,j3,e1,e2,e3⟩:=Dh hE (T:=24) (e:= .str) rfl (sz:=1) rfl h bU kH
        have aai:∀lb cb,(callFunc 111 #[.slice (some ⟨vb,vo,none⟩) m vc,.slice (some ⟨b,o+(i+m),none⟩) lb cb]).run Tryz.prog w = .ok (.value (.bool false)) w:=fun lb cb=>by
          rw[run_callFunc_extern Tryz.func111 (by kernel_rfl) (by kernel_rfl) (by kernel_rfl) (e:=Extern.SlicesOverlaps.overlaps #[24,24] #[4]) (by kernel_rfl),hov 4 _ lb cb vc (by simp)]
          rfl
        have OU:∀ty dc sc,(Builtin.copy_ #[24,24] ty #[.slice (some ⟨b,o+(i+m),none⟩) (n+m-(i+m)) dc,.slice (some ⟨b,o+i,none⟩) (n+m-i) sc]).run Tryz.prog w.drew = .ok (goInt (n-i:Nat)) W1:=fun ty dc sc=>by simpa only[Nat.mul_one] using OS ty dc sc
        have OV:∀W:World,W.heap=W1.heap→∀ty dc vc,(Builtin.copy_ #[24,24] ty #[.slice (some ⟨b,o+i,none⟩) (n+m-i) dc,.slice (some ⟨vb,vo,none⟩) m vc]).run Tryz.prog W = .ok (goInt m) (W.setRow b (putAt XC (o+i) news.toArray)):=fun W hW ty dc vc=>by simpa only[Nat.mul_one] using OT W hW ty dc vc
        have x4:Hid (∀ W:World,W.heap=W1.heap→W.os=w.os→W.tape=w.tape→W.output=w.output→mE w (W.setRow b (putAt XC (o+i) news.toArray)) (some ⟨b,o,none⟩) b o (n+m) cap 1 (bX.take (i*1)++news++bX.drop (i*1))):=fun W a1 a2 a3 a4=>by simpa only[Nat.mul_one] using j3 W a1 a2 a3 a4
        have pv : ¬(cap=i+m):=by omega
        have G6:(i:Int)≤(n:Int)+(m:Int):=by omega
        have aaj:i≤n:=by omega
        clear h hov OS OT j3
        go_enter Tryz.func105,Tryz.ntmps105
        go_wp2_with (simp only[aai])
        go_region_law_o (refine kS rfl _ _ 24 24 rfl _ _ (by simp[Act.eval,Act.put]) (by simp[Act.eval,Act.put]) (OU _ _ _) ?_)
        go_wp2_with (at_builtin;refine fc rfl _ _ 24 24 rfl _ _ rfl rfl (OV _ rfl _ _ _) ?_)
        go_ret
        exact⟨_,_,_,rfl,x4 _ rfl e1 e2 e3⟩
      · have hgr:cap<n+m:=by omega
        obtain⟨W1,G,row,XD,hG,OW,OX,j3,e1,e2,e3⟩:=Di hE (T:=24) (Ti:=3) (e:= .str) rfl (by kernel_rfl) (sz:=1) rfl h bU hgr
        have x4:Hid (∀ W0 W:World,W0.heap=W1.heap→W.heap=(W0.setRow w.heap.size (putAt row (i) news.toArray)).heap→W.os=w.os→W.tape=w.tape→W.output=w.output→
          mE w (W.setRow w.heap.size (putAt (putAt row (i) news.toArray) ((i+m)) (bX.drop (i*1)).toArray)) (some ⟨b,o,none⟩) w.heap.size 0 (n+m) G 1 (bX.take (i*1)++news++bX.drop (i*1))):=fun W0 W a1 a2 a3 a4 a5=>by simpa only[Nat.mul_one] using j3 W0 W a1 (by simpa only[Nat.mul_one] using a2) a3 a4 a5
        have OY:∀W:World,W.heap=W1.heap→∀ty dc vc,(Builtin.copy_ #[24,24] ty #[.slice (some ⟨w.heap.size,i,none⟩) (n+m-i) dc,.slice (some ⟨vb,vo,none⟩) m vc]).run Tryz.prog W = .ok (goInt m) (W.setRow w.heap.size (putAt row (i) news.toArray)):=fun W hW ty dc vc=>by simpa only[Nat.mul_one] using OW W hW ty dc vc
        have DR:∀W0 W:World,W0.heap=W1.heap→W.heap=(W0.setRow w.heap.size (putAt row (i) news.toArray)).heap→∀ty dc sc,(Builtin.copy_ #[24,24] ty #[.slice (some ⟨w.heap.size,(i+m),none⟩) (n+m-(i+m)) dc,.slice (some ⟨b,o+i,none⟩) (n-i) sc]).run Tryz.prog W=
          .ok (goInt (n-i:Nat)) (W.setRow w.heap.size (putAt (putAt row (i) news.toArray) ((i+m)) (bX.drop (i*1)).toArray)):=fun W0 W a1 a2 ty dc sc=>by simpa only[Nat.mul_one] using OX W0 W a1 (by simpa only[Nat.mul_one] using a2) ty dc sc
        have hz3:(cap:Int)<(n:Int)+(m:Int):=by omega
        have hGi : ¬(G=i):=by omega
        have ai1 : ¬(G=i+m):=by omega
        have G6:(i:Int)≤(n:Int):=by omega
        have aaj:i≤n:=by omega
        clear h OW OX j3
        go_enter Tryz.func105,Tryz.ntmps105
        go_wp2_with (first
          | (at_builtin;refine Lib.wpList_append_run _ rfl _ _ _ _ rfl _ _ rfl rfl _ _ (XD _) ?_)
          | (at_builtin;refine fc rfl _ _ 24 24 rfl _ _ rfl rfl (OY _ rfl _ _ _) ?_)
          | (at_builtin;refine fc rfl _ _ 24 24 rfl _ _ rfl rfl (DR _ _ rfl rfl _ _ _) ?_))
        go_region_law_o (refine kS rfl _ _ 24 24 rfl (.slice (some ⟨w.heap.size,(i+m),none⟩) (n+m-(i+m)) (G-(i+m))) (.slice (some ⟨b,o+i,none⟩) (n-i) (cap-i)) (by simp[Act.eval,Act.put]) (by simp[Act.eval,Act.put]) (DR W1 ((W1.setRow w.heap.size (putAt row (i) news.toArray)).drew) rfl rfl 3 (G-(i+m)) (cap-i)) ?_)
        go_wp2
        go_ret
        have oE:=x4 W1 ((W1.setRow w.heap.size (putAt row (i) news.toArray)).drew) rfl rfl e1 e2 e3
        first
          | exact⟨_,_,_,rfl,oE⟩
          | (simp only[Nat.mul_one] at oE;exact⟨_,_,_,rfl,by simpa only[Nat.mul_one] using oE⟩)
noncomputable def ae6:Qt
 | [.d (.sl .str) a0,.d (.i .i64) a1,.d (.sl .str) a2]=>some (qF a0 a1 a2,[.d (.sl .str) (fN a0 a1 a2)])
 |_=>none
noncomputable def aak:Gm.Spec:=Gm.Spec.of [.oh,.ro,.oh] [false] true ae6
theorem U7:Gm.Good Tryz.prog (105,aak):=by
 refine⟨⟨Dk (t:= .str) (sz:=1) rfl U6 fun ds outs h=> ?_,_,Tryz.func105,by kernel_rfl,of_decide_eq_true (by kernel_rfl)⟩,Gm.Spec.ax _ _ _ _⟩
 unfold ae6 at h
 split at h
 ·rename_i a0 a1 a2
  simp only[Option.some.injEq,Prod.mk.injEq] at h
  obtain⟨hg,rfl⟩:=h
  obtain⟨h1,h2,h3,h4⟩:=xr.1 hg
  exact⟨a0,a2,a1.toNat,by rw[Int.toNat_of_nonneg h1],by omega,h3,h4,rfl⟩
 ·cases h
open Go.RowKit in
set_option maxHeartbeats 4000000 in
set_option maxRecDepth 1000000 in
theorem aal:Zm Tryz.prog 91 5:=by
  intro base n cap i vb vo m vc bX news w h
  have hE:(bQ.env []).Ok Tryz.prog:=aL.env (fun _ h=>by simp at h)
  have hm:=h.hm
  have k7:=h.hi
  have hnc:=h.hn
  have ji:n+m≤4294967296:=h.lim
  have Ep : ¬((m:Int)=0):=by omega
  have mixed:Tryz.prog.follows .mixedOrders=true:=aL.ord
  have hw1:IntKind.i64.wrap ((i:Int)+(m:Int))=(i:Int)+(m:Int):=by rw[IntKind.wrap_i64];omega
  have zu:(0:Int)≤(i:Int)+(m:Int):=by omega
  have htn:((i:Int)+(m:Int)).toNat=i+m:=by omega
  by_cases hi:i=n
  · subst hi
    obtain⟨b',o',iE,W,df,j3⟩:=HC hE (T:=25) (e:= .node) rfl (sz:=5) rfl h vc
    have j3:Hid (mE w W base b' o' (i+m) iE 5 (bX.take (i*5)++news++bX.drop (i*5))):=j3
    cases base with
    |none=>
      obtain⟨rfl,rfl⟩:=h.nil rfl
      clear h
      go_enter Tryz.func91,Tryz.ntmps91
      go_wp2_with (at_builtin;refine Lib.wpList_append_run _ rfl _ _ _ _ rfl _ _ rfl rfl _ _ (df _) ?_)
      go_ret
      exact⟨b',o',iE,by rw[Nat.zero_add];rfl,j3⟩
    |some a=>
      obtain⟨b,o,cs,el,rfl,_⟩:=h.is _ rfl
      clear h
      go_enter Tryz.func91,Tryz.ntmps91
      go_wp2_with (at_builtin;refine Lib.wpList_append_run _ rfl _ _ _ _ rfl _ _ rfl rfl _ _ (df _) ?_)
      all_goals (go_ret;exact⟨_,_,_,rfl,j3⟩)
  · have bU:i<n:=by omega
    have hz2 : ¬((i:Int)=(n:Int)):=by omega
    cases base with
    |none=>have:=(h.nil rfl).1;omega
    |some a=>
      obtain⟨b,o,cs,el,rfl,_⟩:=h.is _ rfl
      have hb4 : ¬(cap=i):=by omega
      by_cases kH:n+m≤cap
      · obtain⟨W1,XC,hov,OS,OT,j3,e1,e2,e3⟩:=Dh hE (T:=25) (e:= .node) rfl (sz:=5) rfl h bU kH
        have aai:∀lb cb,(callFunc 107 #[.slice (some ⟨vb,vo,none⟩) m vc,.slice (some ⟨b,o+(i+m)*5,none⟩) lb cb]).run Tryz.prog w = .ok (.value (.bool false)) w:=fun lb cb=>by
          rw[run_callFunc_extern Tryz.func107 (by kernel_rfl) (by kernel_rfl) (by kernel_rfl) (e:=Extern.SlicesOverlaps.overlaps #[25,25] #[4]) (by kernel_rfl),hov 4 _ lb cb vc (by simp)]
          rfl
        have OU:∀ty dc sc,(Builtin.copy_ #[25,25] ty #[.slice (some ⟨b,o+(i+m)*5,none⟩) (n+m-(i+m)) dc,.slice (some ⟨b,o+i*5,none⟩) (n+m-i) sc]).run Tryz.prog w.drew = .ok (goInt (n-i:Nat)) W1:=fun ty dc sc=>by simpa only[Nat.mul_one] using OS ty dc sc
        have OV:∀W:World,W.heap=W1.heap→∀ty dc vc,(Builtin.copy_ #[25,25] ty #[.slice (some ⟨b,o+i*5,none⟩) (n+m-i) dc,.slice (some ⟨vb,vo,none⟩) m vc]).run Tryz.prog W = .ok (goInt m) (W.setRow b (putAt XC (o+i*5) news.toArray)):=fun W hW ty dc vc=>by simpa only[Nat.mul_one] using OT W hW ty dc vc
        have x4:Hid (∀ W:World,W.heap=W1.heap→W.os=w.os→W.tape=w.tape→W.output=w.output→mE w (W.setRow b (putAt XC (o+i*5) news.toArray)) (some ⟨b,o,none⟩) b o (n+m) cap 5 (bX.take (i*5)++news++bX.drop (i*5))):=fun W a1 a2 a3 a4=>by simpa only[Nat.mul_one] using j3 W a1 a2 a3 a4
        have pv : ¬(cap=i+m):=by omega
        have G6:(i:Int)≤(n:Int)+(m:Int):=by omega
        have aaj:i≤n:=by omega
        clear h hov OS OT j3
        go_enter Tryz.func91,Tryz.ntmps91
        go_wp2_with (simp only[aai])
        go_region_law_o (refine kS rfl _ _ 25 25 rfl _ _ (by simp[Act.eval,Act.put]) (by simp[Act.eval,Act.put]) (OU _ _ _) ?_)
        go_wp2_with (at_builtin;refine fc rfl _ _ 25 25 rfl _ _ rfl rfl (OV _ rfl _ _ _) ?_)
        go_ret
        exact⟨_,_,_,rfl,x4 _ rfl e1 e2 e3⟩
      · have hgr:cap<n+m:=by omega
        obtain⟨W1,G,row,XD,hG,OW,OX,j3,e1,e2,e3⟩:=Di hE (T:=25) (Ti:=3) (e:= .node) rfl (by kernel_rfl) (sz:=5) rfl h bU hgr
        have x4:Hid (∀ W0 W:World,W0.heap=W1.heap→W.heap=(W0.setRow w.heap.size (putAt row (i*5) news.toArray)).heap→W.os=w.os→W.tape=w.tape→W.output=w.output→
          mE w (W.setRow w.heap.size (putAt (putAt row (i*5) news.toArray) ((i+m)*5) (bX.drop (i*5)).toArray)) (some ⟨b,o,none⟩) w.heap.size 0 (n+m) G 5 (bX.take (i*5)++news++bX.drop (i*5))):=fun W0 W a1 a2 a3 a4 a5=>by simpa only[Nat.mul_one] using j3 W0 W a1 (by simpa only[Nat.mul_one] using a2) a3 a4 a5
        have OY:∀W:World,W.heap=W1.heap→∀ty dc vc,(Builtin.copy_ #[25,25] ty #[.slice (some ⟨w.heap.size,i*5,none⟩) (n+m-i) dc,.slice (some ⟨vb,vo,none⟩) m vc]).run Tryz.prog W = .ok (goInt m) (W.setRow w.heap.size (putAt row (i*5) news.toArray)):=fun W hW ty dc vc=>by simpa only[Nat.mul_one] using OW W hW ty dc vc
        have DR:∀W0 W:World,W0.heap=W1.heap→W.heap=(W0.setRow w.heap.size (putAt row (i*5) news.toArray)).heap→∀ty dc sc,(Builtin.copy_ #[25,25] ty #[.slice (some ⟨w.heap.size,(i+m)*5,none⟩) (n+m-(i+m)) dc,.slice (some ⟨b,o+i*5,none⟩) (n-i) sc]).run Tryz.prog W=
          .ok (goInt (n-i:Nat)) (W.setRow w.heap.size (putAt (putAt row (i*5) news.toArray) ((i+m)*5) (bX.drop (i*5)).toArray)):=fun W0 W a1 a2 ty dc sc=>by simpa only[Nat.mul_one] using OX W0 W a1 (by simpa only[Nat.mul_one] using a2) ty dc sc
        have hz3:(cap:Int)<(n:Int)+(m:Int):=by omega
        have hGi : ¬(G=i):=by omega
        have ai1 : ¬(G=i+m):=by omega
        have G6:(i:Int)≤(n:Int):=by omega
        have aaj:i≤n:=by omega
        clear h OW OX j3
        go_enter Tryz.func91,Tryz.ntmps91
        go_wp2_with (first
          | (at_builtin;refine Lib.wpList_append_run _ rfl _ _ _ _ rfl _ _ rfl rfl _ _ (XD _) ?_)
          | (at_builtin;refine fc rfl _ _ 25 25 rfl _ _ rfl rfl (OY _ rfl _ _ _) ?_)
          | (at_builtin;refine fc rfl _ _ 25 25 rfl _ _ rfl rfl (DR _ _ rfl rfl _ _ _) ?_))
        go_region_law_o (refine kS rfl _ _ 25 25 rfl (.slice (some ⟨w.heap.size,(i+m)*5,none⟩) (n+m-(i+m)) (G-(i+m))) (.slice (some ⟨b,o+i*5,none⟩) (n-i) (cap-i)) (by simp[Act.eval,Act.put]) (by simp[Act.eval,Act.put]) (DR W1 ((W1.setRow w.heap.size (putAt row (i*5) news.toArray)).drew) rfl rfl 3 (G-(i+m)) (cap-i)) ?_)
        go_wp2
        go_ret
        have oE:=x4 W1 ((W1.setRow w.heap.size (putAt row (i*5) news.toArray)).drew) rfl rfl e1 e2 e3
        first
          | exact⟨_,_,_,rfl,oE⟩
          | (simp only[Nat.mul_one] at oE;exact⟨_,_,_,rfl,by simpa only[Nat.mul_one] using oE⟩)
noncomputable def q91:Qt
 | [.d (.sl .node) a0,.d (.i .i64) a1,.d (.sl .node) a2]=>some (qF a0 a1 a2,[.d (.sl .node) (fN a0 a1 a2)])
 |_=>none
noncomputable def s91:Gm.Spec:=Gm.Spec.of [.oh,.ro,.oh] [false] true q91
theorem OZ:Gm.Good Tryz.prog (91,s91):=by
 refine⟨⟨Dk (t:= .node) (sz:=5) rfl aal fun ds outs h=> ?_,_,Tryz.func91,by kernel_rfl,of_decide_eq_true (by kernel_rfl)⟩,Gm.Spec.ax _ _ _ _⟩
 unfold q91 at h
 split at h
 ·rename_i a0 a1 a2
  simp only[Option.some.injEq,Prod.mk.injEq] at h
  obtain⟨hg,rfl⟩:=h
  obtain⟨h1,h2,h3,h4⟩:=xr.1 hg
  exact⟨a0,a2,a1.toNat,by rw[Int.toNat_of_nonneg h1],by omega,h3,h4,rfl⟩
 ·cases h
noncomputable def O0:Code:=(Tryz.f104.body).getD .skip
def XU:Nat→Kp:=fa [⟨[0,1],[],[],[]⟩,⟨[3],[],[],[]⟩]
noncomputable def XV:Env:=bQ.env []
theorem O1{R:Type}(n:Nat)(k:Kt R)(a0:BA)(a1:BA):aG XV XU n O0 [.ro,.D'] [false] true [.tmp 3] [4] [.d .str a0,.d .str a1] k=
 (k [.d .bool (!((dE a0 a1)||(cy a0 a1)))]):=by kernel_rfl
theorem J'(a0:BA)(a1:BA):∃keep rounds,∀{R:Type}(k:Kt R),aG XV keep rounds O0 [.ro,.D'] [false] true [.tmp 3] [4] [.d .str a0,.d .str a1] k=k [.d .bool (tX a0 a1)]:=by
 exact⟨XU,0,fun k=>O1 0 k a0 a1⟩
noncomputable def ae8:Qt
 | [.d .str a0,.d .str a1]=>some (true,[.d .bool (tX a0 a1)])
 |_=>none
noncomputable def O2:Gm.Spec:=Gm.Spec.of [.ro,.D'] [false] true ae8
theorem H2:Gm.Good Tryz.prog (104,O2):=by
 have hl:∀x∈([]:List (Nat×Gm.Spec)),Gm.Good Tryz.prog x:=fun _ h=>by cases h
 refine⟨⟨aD (aL.env hl) (bQ.cq hl) Tryz.func104 (by kernel_rfl:Tryz.f104.body=some O0) [4] (by kernel_rfl) ?_,_,Tryz.func104,by kernel_rfl,of_decide_eq_true (by kernel_rfl)⟩,Gm.Spec.ax _ _ _ _⟩
 intro ds outs h
 unfold ae8 at h
 split at h
 ·cases h;exact J' _ _
 ·cases h
noncomputable def BP(y0:List BA)(y1:BA)(y2:Int)(y3:Int):St:=⟨[(0,.c (.one (.ro .str y0))),(1,.c (.one (.pJ 104 [⟨.str,y1⟩]))),(7,.c (.one (.v (.int .i64 y2)))),(8,.c (.one (.v (.int .i64 y3))))],[],[]⟩
noncomputable def F9(y0:Int):St:=⟨[(4,.c (.one (.v (.int .i64 y0))))],[],[]⟩
noncomputable def Ga(y0:List BA)(y1:BA)(y2:Int)(y3:Int)(y4:Bool):St:=⟨[(0,.c (.one (.ro .str y0))),(1,.c (.one (.pJ 104 [⟨.str,y1⟩]))),(7,.c (.one (.v (.int .i64 y2)))),(8,.c (.one (.v (.int .i64 y3)))),(9,.c (.one (.v (.bool y4))))],[],[]⟩
noncomputable def x5:Code:=(Tryz.f103.body).getD .skip
def Ad:Nat→Kp:=fa [⟨[0,1],[],[],[]⟩,⟨[0,1,7,8],[],[],[]⟩,⟨[0,1,7,8,9],[],[],[]⟩,⟨[0,1,5,7,8],[],[],[]⟩,⟨[0,1,5,7,8,16],[],[],[]⟩,⟨[4],[],[],[]⟩,⟨[0,1,7,8],[],[],[]⟩,⟨[4],[],[],[]⟩]
noncomputable def sA:Env:=bQ.env [(104,O2)]
noncomputable def qO{R:Type}(n:Nat)(x0:Int→Option R)(x1:Int→Bool→Option R)(wB:List BA)(nr:BA)(wC:Int):Nat→Int→Option R
  |0,_=>none
  |m+1,wA=>
    (cond (decide (wA<wC))
   (cond ((decide ((0:Int)≤wA))&&(decide (wA<(wB.length:Int))))
    (cond (tX (al (t:= .str) wB (Int.toNat wA)) nr)
     (x0 wA)
     (qO n x0 x1 wB nr wC m (IntKind.wrap .i64 (wA+(1:Int)))))
    none)
   (x1 wA (decide (wA<wC))))
theorem O3{R:Type}(n:Nat)(k':Kx R)(wB:List BA)(nr:BA)(wC:Int)(wA:Int):ev sA Ad n (bC [1,0,1,0,0] x5) (BP wB nr wC wA) k'=
 (cond (decide (wA<wC))
 (cond ((decide ((0:Int)≤wA))&&(decide (wA<(wB.length:Int))))
 (cond (tX (al (t:= .str) wB (Int.toNat wA)) nr)
 (k' .ret (F9 wA))
 (k' .normal (BP wB nr wC (IntKind.wrap .i64 (wA+(1:Int))))))
 none)
 (k' (.exit 0) (Ga wB nr wC wA (decide (wA<wC))))):=by kernel_rfl
theorem Ka{R:Type}(n:Nat)(k':Kx R)(wB:List BA)(nr:BA)(wC:Int):∀(m:Nat)(wA:Int),iter (fun st k=>ev sA Ad n (bC [1,0,1,0,0] x5) st k) m (BP wB nr wC wA) k'=qO n (fun(wD:Int)=>k' .ret (F9 wD)) (fun(wE:Int)(wF:Bool)=>k' (.exit 0) (Ga wB nr wC wE wF)) wB nr wC m wA:=by
 intro m;induction m with
 |zero=>intros;rfl
 |succ m ih=>
  intro wA
  simp only[iter]
  rw[O3]
  simp only[ih,qO]
noncomputable def Gb{R:Type}(n:Nat)(k':Kx R):Kx R:=(b8 0 (eP sA Ad n (bC [1,1] x5) k'))
theorem Kb{R:Type}(n:Nat)(k:Kt R)(a0:List BA)(a1:BA)(wD:Int):Gb n (aI sA [.ro,.fn] [false] true [.tmp 4] [3] [.d (.sl .str) a0,.fi 104 [⟨.str,a1⟩]] k) .ret (F9 wD)=
 (k [.d (.i .i64) wD]):=by kernel_rfl
theorem Kc{R:Type}(n:Nat)(k:Kt R)(a0:List BA)(a1:BA)(wB:List BA)(nr:BA)(wC:Int)(wE:Int)(wF:Bool):Gb n (aI sA [.ro,.fn] [false] true [.tmp 4] [3] [.d (.sl .str) a0,.fi 104 [⟨.str,a1⟩]] k) (.exit 0) (Ga wB nr wC wE wF)=
 (k [.d (.i .i64) (-1:Int)]):=by kernel_rfl
theorem O4{R:Type}(n:Nat)(k:Kt R)(a0:List BA)(a1:BA):aG sA Ad n x5 [.ro,.fn] [false] true [.tmp 4] [3] [.d (.sl .str) a0,.fi 104 [⟨.str,a1⟩]] k=
 (qO n (fun(wD:Int)=>
 (k [.d (.i .i64) wD])) (fun(wE:Int)(wF:Bool)=>
 (k [.d (.i .i64) (-1:Int)])) a0 a1 (a0.length:Int) n (0:Int)):=by
 refine Eq.trans (b:=(iter (fun st k=>ev sA Ad n (bC [1,0,1,0,0] x5) st k) n (BP a0 a1 (a0.length:Int) (0:Int)) (Gb n (aI sA [.ro,.fn] [false] true [.tmp 4] [3] [.d (.sl .str) a0,.fi 104 [⟨.str,a1⟩]] k)))) (by kernel_rfl) ?_
 simp only[Ka,Kb,Kc]
theorem Kd(a0:List BA)(a1:BA)(hg:fk a0=true):∃keep rounds,∀{R:Type}(k:Kt R),aG sA keep rounds x5 [.ro,.fn] [false] true [.tmp 4] [3] [.d (.sl .str) a0,.fi 104 [⟨.str,a1⟩]] k=k [.d (.i .i64) (xt a0 a1)]:=by
 have hl:=ng hg
 refine⟨Ad,a0.length+1,fun k=> ?_⟩
 rw[O4]
 refine Eq.trans (jM (n:=a0.length) (F:=fun m i=>qO (a0.length+1) _ _ a0 a1 (a0.length:Int) m i) (p:=fun j=>tX (al (t:= .str) a0 j) a1) (hit:=fun i=>k [.d (.i .i64) i]) (miss:=k [.d (.i .i64) (-1:Int)])
  (fun m j hj=> ?_) (fun m=>by simp only[qO,iX,cond_false]) a0.length 0 (a0.length+1) (by omega) (by omega)) ?_
 ·obtain⟨h1,h0,hw,ht⟩:=idx hj (by omega)
  simp only[qO,h1,h0,hw,ht,Bool.and_self,cond_true]
 ·show _=k [.d (.i .i64) (oP _)]
  cases aZ (fun j=>tX (al (t:= .str) a0 j) a1) 0 a0.length<;>rfl
noncomputable def ae9:Qt
 | [.d (.sl .str) a0,.fi 104 [⟨.str,a1⟩]]=>some (((fun(x:List BA)(_:BA)=>fk x) a0 a1),[.d (.i .i64) (xt a0 a1)])
 |_=>none
noncomputable def aam:Gm.Spec:=Gm.Spec.of [.ro,.fn] [false] true ae9
theorem U8:Gm.Good Tryz.prog (103,aam):=by
 have hl:∀x∈[(104,O2)],Gm.Good Tryz.prog x:=bt.2 ⟨H2,gw⟩
 refine⟨⟨aD (aL.env hl) (bQ.cq hl) Tryz.func103 (by kernel_rfl:Tryz.f103.body=some x5) [3] (by kernel_rfl) ?_,_,Tryz.func103,by kernel_rfl,of_decide_eq_true (by kernel_rfl)⟩,Gm.Spec.ax _ _ _ _⟩
 intro ds outs h
 unfold ae9 at h
 split at h
 ·simp only[Option.some.injEq,Prod.mk.injEq] at h;obtain⟨hg,h⟩:=h;cases h;exact Kd _ _ hg
 ·cases h
noncomputable def aan:Code:=(Tryz.f89.body).getD .skip
def ae':Nat→Kp:=fa [⟨[3,4,5,6],[],[],[]⟩,⟨[3,4,5,6],[],[],[]⟩,⟨[3,4,5,6,13],[],[],[]⟩,⟨[6],[],[],[]⟩,⟨[3,4,5,6,7],[],[],[]⟩,⟨[3,4,5,6,7,20],[],[],[]⟩,⟨[3,6],[],[],[]⟩,⟨[6],[],[],[]⟩,⟨[3,4,5,6,8],[],[],[]⟩,⟨[3,4,5,6,8,33],[],[],[]⟩,⟨[3,4,5,6,8],[],[],[]⟩,⟨[3,5,6,8],[],[],[]⟩,⟨[3,6],[],[],[]⟩,⟨[6],[],[],[]⟩]
noncomputable def afa:Env:=bQ.env [(23,pU),(52,UE),(88,ZR),(91,s91),(103,aam),(104,O2),(105,aak)]
theorem U9{R:Type}(n:Nat)(k:Kt R)(a0:ae)(a1:BA)(a2:ae):aG afa ae' n aan [.ro,.ro,.ro] [false] true [.cell 6 27] [27] [.d .node a0,.d .str a1,.d .node a2] k=
 (cond (ag (eN a0))
 (cond (!(aE (eN a0)))
 (k [.d .node (eN a0)])
 (cond ((fun(x:List BA)(_:BA)=>fk x) (ae.keys a0) a1)
 (cond (decide ((fx (ae.keys a0) a1)≥(0:Int)))
 (cond (ag (eN a2))
 (cond ((decide ((0:Int)≤(fx (ae.keys a0) a1)))&&(decide ((fx (ae.keys a0) a1)<((ae.kids a0).length:Int))))
 (k [.d .node (⟨(ae.kind a0),(ae.n a0),(ae.s a0),(ae.keys a0),((ae.kids a0).set (Int.toNat (fx (ae.keys a0) a1)) (eN a2))⟩:ae)])
 none)
 none)
 (cond ((fun(x:List BA)(_:BA)=>fk x) (ae.keys a0) a1)
 (cond (decide ((xt (ae.keys a0) a1)<(0:Int)))
 (cond (qF (ae.keys a0) ((ae.keys a0).length:Int) ([a1]:List BA))
 (cond (ag (eN a2))
 (cond (qF (ae.kids a0) ((ae.keys a0).length:Int) ([(eN a2)]:List ae))
 (k [.d .node (⟨(ae.kind a0),(ae.n a0),(ae.s a0),(fN (ae.keys a0) ((ae.keys a0).length:Int) ([a1]:List BA)),(fN (ae.kids a0) ((ae.keys a0).length:Int) ([(eN a2)]:List ae))⟩:ae)])
 none)
 none)
 none)
 (cond (qF (ae.keys a0) (xt (ae.keys a0) a1) ([a1]:List BA))
 (cond (ag (eN a2))
 (cond (qF (ae.kids a0) (xt (ae.keys a0) a1) ([(eN a2)]:List ae))
 (k [.d .node (⟨(ae.kind a0),(ae.n a0),(ae.s a0),(fN (ae.keys a0) (xt (ae.keys a0) a1) ([a1]:List BA)),(fN (ae.kids a0) (xt (ae.keys a0) a1) ([(eN a2)]:List ae))⟩:ae)])
 none)
 none)
 none))
 none))
 none))
 none):=by kernel_rfl
theorem O5(a0:ae)(a1:BA)(a2:ae)(hg:uv a0 a1 a2=true):∃keep rounds,∀{R:Type}(k:Kt R),aG afa keep rounds aan [.ro,.ro,.ro] [false] true [.cell 6 27] [27] [.d .node a0,.d .str a1,.d .node a2] k=k [.d .node (gK a0 a1 a2)]:=by
 have O6:=hg
 simp only[uv,Bool.and_eq_true] at hg
 obtain⟨hg,po,mV⟩:=hg
 have fP:=hg
 rw[bf] at hg
 simp only[Bool.and_eq_true] at hg
 obtain⟨_,_,_,lQ,lg⟩:=hg
 have p9:=aR lQ
 have ot:=aR lg
 refine⟨ae',0,fun {R} k=> ?_⟩
 rw[U9]
 simp only[az,aK,fP,mV,lF lQ,cond_true]
 show _=k [.d .node (gK a0 a1 a2)]
 cases hm:aE a0
 ·unfold gK;rw[hm];rfl
 obtain⟨h5,hl⟩:=cd hm
 simp only[xn hm a1,Bool.not_true,cond_false,cond_true]
 by_cases hk:bj a0 a1<0
 ·rw[lJ hm hk,decide_eq_false (show ¬(bj a0 a1≥0) by omega)]
  simp only[cond_false]
  have ha:=Ft hm hk
  obtain⟨i,e,hi⟩:=Fq a0.keys a1
  have g1:qF a0.keys (fE a0.keys a1) [a1]=true:=rY e hi p9
  have g2:qF a0.kids (fE a0.keys a1) [a2]=true:=rY e (by omega) ot
  cases hc:decide (xt a0.keys a1<(0:Int))
  ·rw[hc] at ha;simp only[cond_false] at ha
   simp only[cond_false,ha,g1,g2,cond_true];rfl
  ·rw[hc] at ha;simp only[cond_true] at ha
   simp only[cond_true,ha,g1,g2];rfl
 ·rw[oY hm hk,decide_eq_true (show bj a0 a1≥0 by omega)]
  obtain⟨i,e,h1,h2⟩:=lH a0 a1 hk
  obtain⟨i1,i0,_,_⟩:=idx h2 (by omega)
  simp only[az,aK,xn hm a1,e,i0,i1,Bool.and_self,cond_true]
  rfl
noncomputable def q89:Qt
 | [.d .node a0,.d .str a1,.d .node a2]=>some ((uv a0 a1 a2),[.d .node (gK a0 a1 a2)])
 |_=>none
noncomputable def s89:Gm.Spec:=Gm.Spec.of [.ro,.ro,.ro] [false] true q89
theorem aao:Gm.Good Tryz.prog (89,s89):=by
 have hl:∀x∈[(23,pU),(52,UE),(88,ZR),(91,s91),(103,aam),(104,O2),(105,aak)],Gm.Good Tryz.prog x:=bt.2 ⟨ic,bt.2 ⟨BG,bt.2 ⟨FP,bt.2 ⟨OZ,bt.2 ⟨U8,bt.2 ⟨H2,bt.2 ⟨U7,gw⟩⟩⟩⟩⟩⟩⟩
 refine⟨⟨aD (aL.env hl) (bQ.cq hl) Tryz.func89 (by kernel_rfl:Tryz.f89.body=some aan) [27] (by kernel_rfl) ?_,_,Tryz.func89,by kernel_rfl,of_decide_eq_true (by kernel_rfl)⟩,Gm.Spec.ax _ _ _ _⟩
 intro ds outs h
 unfold q89 at h
 split at h
 ·simp only[Option.some.injEq,Prod.mk.injEq] at h;obtain⟨hg,h⟩:=h;cases h;exact O5 _ _ _ hg
 ·cases h
noncomputable def aap:Code:=(Tryz.f87.body).getD .skip
def afb:Nat→Kp:=fa [⟨[1,2,3,5],[],[],[]⟩,⟨[1,2,3,5,10],[],[],[]⟩,⟨[5,6],[],[],[]⟩,⟨[1,2,3,5,7,8],[],[],[]⟩,⟨[2,3,5,7,8,21],[],[],[]⟩,⟨[2,3,5,7,8],[],[],[]⟩,⟨[2,3,5,7,38],[],[],[]⟩,⟨[5,6],[],[],[]⟩,⟨[2,3,5,7],[],[],[]⟩,⟨[3,5],[],[],[]⟩,⟨[5,6],[],[],[]⟩]
noncomputable def afc:Env:=bQ.env [(23,pU),(88,ZR),(89,s89),(90,s90),(91,s91)]
theorem U'{R:Type}(n:Nat)(k:Kt R)(a0:ae)(a1:BA)(a2:ae):aG afc afb n aap [.ro,.ro,.D'] [false,false] true [.cell 5 27,.tmp 6] [27,4] [.d .node a0,.d .str a1,.d .node a2] k=
 (cond (aE (eN a0))
 (cond (uv (eN a0) a1 (eN a2))
 (k [.d .node (eN (gK (eN a0) a1 (eN a2))),.d .bool true])
 none)
 (cond (cy a1 (bs [45]))
 (cond ((ae.kind a0) !=(4:Int))
 (k [.d .node (⟨(0:Int),(0:Int),ByteArray.empty,([]:List BA),([]:List ae)⟩:ae),.d .bool false])
 (cond (decide (((ae.kids a0).length:Int)>((ae.kids a0).length:Int)))
 (k [.d .node (⟨(0:Int),(0:Int),ByteArray.empty,([]:List BA),([]:List ae)⟩:ae),.d .bool false])
 (cond (ag (eN a0))
 (cond (ag (eN a2))
 (cond (qF (ae.kids a0) ((ae.kids a0).length:Int) ([(eN a2)]:List ae))
 (k [.d .node (⟨(ae.kind a0),(ae.n a0),(ae.s a0),(ae.keys a0),(fN (ae.kids a0) ((ae.kids a0).length:Int) ([(eN a2)]:List ae))⟩:ae),.d .bool true])
 none)
 none)
 none)))
 (cond ((ae.kind a0) !=(4:Int))
 (k [.d .node (⟨(0:Int),(0:Int),ByteArray.empty,([]:List BA),([]:List ae)⟩:ae),.d .bool false])
 (cond (!((fA a1).2))
 (k [.d .node (⟨(0:Int),(0:Int),ByteArray.empty,([]:List BA),([]:List ae)⟩:ae),.d .bool false])
 (cond (decide (((fA a1).1)>((ae.kids a0).length:Int)))
 (k [.d .node (⟨(0:Int),(0:Int),ByteArray.empty,([]:List BA),([]:List ae)⟩:ae),.d .bool false])
 (cond (ag (eN a0))
 (cond (ag (eN a2))
 (cond (qF (ae.kids a0) ((fA a1).1) ([(eN a2)]:List ae))
 (k [.d .node (⟨(ae.kind a0),(ae.n a0),(ae.s a0),(ae.keys a0),(fN (ae.kids a0) ((fA a1).1) ([(eN a2)]:List ae))⟩:ae),.d .bool true])
 none)
 none)
 none)))))):=by kernel_rfl
theorem O7(a0:ae)(a1:BA)(a2:ae)(hg:uv a0 a1 a2=true):∃keep rounds,∀{R:Type}(k:Kt R),aG afc keep rounds aap [.ro,.ro,.D'] [false,false] true [.cell 5 27,.tmp 6] [27,4] [.d .node a0,.d .str a1,.d .node a2] k=k [.d .node ((dx a0 a1 a2).1),.d .bool ((dx a0 a1 a2).2)]:=by
 have O6:=hg
 simp only[uv,Bool.and_eq_true] at hg
 obtain⟨hg,po,mV⟩:=hg
 have fP:=hg
 rw[bf] at hg
 simp only[Bool.and_eq_true] at hg
 obtain⟨_,_,_,lQ,lg⟩:=hg
 have p9:=aR lQ
 have ot:=aR lg
 refine⟨afb,0,fun {R} k=> ?_⟩
 rw[U']
 simp only[az,aK,fP,mV,O6,cond_true]
 show _=k [.d .node (dx a0 a1 a2).1,.d .bool (dx a0 a1 a2).2]
 unfold dx
 cases hm:aE a0
 rotate_left
 ·rfl
 simp only[cond_false]
 cases h4:a0.kind==(4:Int)
 ·rw[show (a0.kind !=(4:Int))=true by simp only[bne,h4];rfl]
  simp only[cond_true,cond_false]
  cases cy a1 (bs [45])<;>rfl
 rw[show (a0.kind !=(4:Int))=false by simp only[bne,h4];rfl]
 simp only[cond_true,cond_false]
 cases hd:cy a1 dash
 ·have hs:=JA (t:=a0) (p:=a1) ot hd
  rw[show cy a1 (bs [45])=false from hd]
  simp only[cond_false]
  cases h1:(fA a1).2
  ·rw[h1] at hs;simp only[Bool.not_false,cond_true] at hs ⊢
   rw[← hs];rfl
  ·rw[h1] at hs;simp only[Bool.not_true,cond_false] at hs ⊢
   by_cases h2:(fA a1).1>(a0.kids.length:Int)
   ·rw[decide_eq_true h2] at hs ⊢;simp only[cond_true] at hs ⊢
    rw[← hs];rfl
   ·rw[decide_eq_false h2] at hs ⊢;simp only[cond_false] at hs ⊢
    have h0:=Dp h1
    obtain⟨i,ei⟩:=Int.eq_ofNat_of_zero_le h0
    have g:qF a0.kids (fA a1).1 [a2]=true:=rY ei (by omega) ot
    rw[← hs,decide_eq_false (show ¬(fA a1).1<0 by omega)]
    simp only[g,cond_true,cond_false];rfl
 ·rw[show cy a1 (bs [45])=true from hd]
  have hs:kD a0 a1=(a0.kids.length:Int):=by unfold kD;rw[Jz hd];rfl
  have g:qF a0.kids (a0.kids.length:Int) [a2]=true:=rY rfl (Nat.le_refl _) ot
  rw[hs,decide_eq_false (show ¬((a0.kids.length:Int)>(a0.kids.length:Int)) by omega),decide_eq_false (show ¬((a0.kids.length:Int)<0) by omega)]
  simp only[g,cond_true,cond_false];rfl
noncomputable def q87:Qt
 | [.d .node a0,.d .str a1,.d .node a2]=>some ((uv a0 a1 a2),[.d .node ((dx a0 a1 a2).1),.d .bool ((dx a0 a1 a2).2)])
 |_=>none
noncomputable def s87:Gm.Spec:=Gm.Spec.of [.ro,.ro,.D'] [false,false] true q87
theorem Gc:Gm.Good Tryz.prog (87,s87):=by
 have hl:∀x∈[(23,pU),(88,ZR),(89,s89),(90,s90),(91,s91)],Gm.Good Tryz.prog x:=bt.2 ⟨ic,bt.2 ⟨FP,bt.2 ⟨aao,bt.2 ⟨N4,bt.2 ⟨OZ,gw⟩⟩⟩⟩⟩
 refine⟨⟨aD (aL.env hl) (bQ.cq hl) Tryz.func87 (by kernel_rfl:Tryz.f87.body=some aap) [27,4] (by kernel_rfl) ?_,_,Tryz.func87,by kernel_rfl,of_decide_eq_true (by kernel_rfl)⟩,Gm.Spec.ax _ _ _ _⟩
 intro ds outs h
 unfold q87 at h
 split at h
 ·simp only[Option.some.injEq,Prod.mk.injEq] at h;obtain⟨hg,h⟩:=h;cases h;exact O7 _ _ _ hg
 ·cases h
noncomputable def Ae:Qt
 | [.d .node a0,.d (.sl .str) a1,.fi 92 []]=>some ((gW a0 a1),[.d .node ((eo a0 a1).1),.d .bool ((eo a0 a1).2)])
 |_=>none
noncomputable def Gd:List Dt→Nat
 | [.d .node a0,.d (.sl .str) a1,.fi 92 []]=>(fun(_:ae)(p:List BA)=>p.length) a0 a1
 |_=>0
noncomputable def O8(N:Nat):Gm.Spec:=Gm.Spec.of [.ro,.ro,.fn] [false,false] true (qA Gd N Ae)
noncomputable def Ge:Code:=(Tryz.f102.body).getD .skip
def O9:Nat→Kp:=fa [⟨[1,2,3,6],[],[],[]⟩,⟨[1,2,3,6,13],[],[],[]⟩,⟨[6,7],[],[],[]⟩,⟨[1,2,3,6,8],[],[],[]⟩,⟨[1,2,3,6,8,28],[],[],[]⟩,⟨[6,7],[],[],[]⟩,⟨[3,6,8,9,10],[],[],[]⟩,⟨[3,6,8,9,43],[],[],[]⟩,⟨[6,7],[],[],[]⟩,⟨[3,6,8,9],[],[],[]⟩,⟨[3,6],[],[],[]⟩,⟨[6,7],[],[],[]⟩]
noncomputable def Gf(N:Nat):Env:=bQ.env [(23,pU),(92,s92),(93,UM),(102,O8 N)]
noncomputable def H3(a0:ae)(a1:List BA):List ae:=
 ((ae.kids a0).set (Int.toNat (aw (eN a0) (al (t:= .str) a1 0))) (eN ((eo (eN (al (t:= .node) (ae.kids a0) (Int.toNat (aw (eN a0) (al (t:= .str) a1 0))))) ((a1.take (Int.toNat (a1.length:Int))).drop 1)).1)))
theorem Ke{R:Type}(N:Nat)(n:Nat)(k:Kt R)(a0:ae)(a1:List BA):aG (Gf N) O9 n Ge [.ro,.ro,.fn] [false,false] true [.cell 6 27,.tmp 7] [27,4] [.d .node a0,.d (.sl .str) a1,.fi 92 []] k=
 (cond ((a1.length:Int)==(1:Int))
 (cond (decide ((0:Int)<(a1.length:Int)))
 (cond ((fun(x:ae)(_:BA)=>ag x) (eN a0) (al (t:= .str) a1 0))
 (k [.d .node (eN ((fD (eN a0) (al (t:= .str) a1 0)).1)),.d .bool ((fD (eN a0) (al (t:= .str) a1 0)).2)])
 none)
 none)
 (cond (decide ((0:Int)<(a1.length:Int)))
 (cond ((fun(x:ae)(_:BA)=>ag x) (eN a0) (al (t:= .str) a1 0))
 (cond (decide ((aw (eN a0) (al (t:= .str) a1 0))<(0:Int)))
 (k [.d .node (⟨(0:Int),(0:Int),ByteArray.empty,([]:List BA),([]:List ae)⟩:ae),.d .bool false])
 (cond ((decide ((0:Int)≤(aw (eN a0) (al (t:= .str) a1 0))))&&(decide ((aw (eN a0) (al (t:= .str) a1 0))<((ae.kids a0).length:Int))))
 (cond ((decide ((1:Int)≤(a1.length:Int)))&&(decide ((a1.length:Int)≤(a1.length:Int))))
 (cond ((gW (eN (al (t:= .node) (ae.kids a0) (Int.toNat (aw (eN a0) (al (t:= .str) a1 0))))) ((a1.take (Int.toNat (a1.length:Int))).drop 1))&&(Nat.blt ((fun(_:ae)(p:List BA)=>p.length) (eN (al (t:= .node) (ae.kids a0) (Int.toNat (aw (eN a0) (al (t:= .str) a1 0))))) ((a1.take (Int.toNat (a1.length:Int))).drop 1)) N))
 (cond (!((eo (eN (al (t:= .node) (ae.kids a0) (Int.toNat (aw (eN a0) (al (t:= .str) a1 0))))) ((a1.take (Int.toNat (a1.length:Int))).drop 1)).2))
 (k [.d .node (⟨(0:Int),(0:Int),ByteArray.empty,([]:List BA),([]:List ae)⟩:ae),.d .bool false])
 (cond (ag (eN a0))
 (cond ((decide ((0:Int)≤(aw (eN a0) (al (t:= .str) a1 0))))&&(decide ((aw (eN a0) (al (t:= .str) a1 0))<((ae.kids a0).length:Int))))
 (k [.d .node (⟨(ae.kind a0),(ae.n a0),(ae.s a0),(ae.keys a0),(H3 a0 a1)⟩:ae),.d .bool true])
 none)
 none))
 none)
 none)
 none))
 none)
 none)):=by kernel_rfl
theorem Gg(N:Nat)(a0:ae)(a1:List BA)(hg:gW a0 a1=true)(hm:Gd [.d .node a0,.d (.sl .str) a1,.fi 92 []]=N):∃keep rounds,∀{R:Type}(k:Kt R),aG (Gf N) keep rounds Ge [.ro,.ro,.fn] [false,false] true [.cell 6 27,.tmp 7] [27,4] [.d .node a0,.d (.sl .str) a1,.fi 92 []] k=k [.d .node ((eo a0 a1).1),.d .bool ((eo a0 a1).2)]:=by
 have hm:a1.length=N:=hm
 subst hm
 simp only[gW,Bool.and_eq_true] at hg
 obtain⟨hg,uc,dn⟩:=hg
 have fP:=hg
 rw[bf] at hg
 simp only[Bool.and_eq_true] at hg
 obtain⟨_,_,_,lQ,lg⟩:=hg
 have p9:=aR lQ
 have ot:=aR lg
 refine⟨O9,0,fun {R} k=> ?_⟩
 rw[Ke]
 show _=k [.d .node (eo a0 a1).1,.d .bool (eo a0 a1).2]
 match a1,uc,dn with
 | [],_,dn=>cases dn
 | [p],_,_=>
  simp only[az,aK,fP,eo]
  rfl
 |p::q::r,uc,_=>
  have l0:decide ((0:Int)<((p::q::r).length:Int))=true:=decide_eq_true (by simp only[List.length_cons];omega)
  have l1:(((p::q::r).length:Int)==(1:Int))=false:=by rw[beq_eq_false_iff_ne];simp only[List.length_cons];omega
  have l2:decide ((1:Int)≤((p::q::r).length:Int))=true:=decide_eq_true (by simp only[List.length_cons];omega)
  have l3:decide (((p::q::r).length:Int)≤((p::q::r).length:Int))=true:=decide_eq_true (Int.le_refl _)
  have l4:((p::q::r).take (Int.toNat ((p::q::r).length:Int))).drop 1=q::r:=by rw[Int.toNat_natCast,List.take_length];rfl
  have l5:al (t:= .str) (p::q::r) 0=p:=rfl
  have l6:Nat.blt (q::r).length (p::q::r).length=true:=by rw[Nat.blt_eq];simp only[List.length_cons];omega
  have l7:(((p::q::r).length:Int)==(0:Int))=false:=by rw[beq_eq_false_iff_ne];simp only[List.length_cons];omega
  have l8:decide (((p::q::r).length:Int)>(1:Int))=true:=decide_eq_true (by simp only[List.length_cons];omega)
  have hqr:dS bH (q::r)=true:=oW uc
  simp only[az,aK,fP,l0,l1,l5,cond_true,cond_false]
  rw[eo]
  by_cases hk:aw a0 p<0
  ·rw[decide_eq_true hk];rfl
  obtain⟨i,e,h1⟩:=fM hk
  obtain⟨i1,i0,_,it⟩:=idx h1 (by omega)
  have hx:=dm (t:= .node) h1
  have hgk:gW (al (t:= .node) a0.kids i) (q::r)=true:=by
   simp only[gW,Bool.and_eq_true]
   exact⟨dG fP (List.mem_of_getElem? hx),hqr,rfl⟩
  simp only[decide_eq_false hk,H3,az,aK,l2,l3,l4,l5,l6,hgk,e,i1,i0,it,Bool.and_self,cond_true,cond_false]
  cases (eo (al (t:= .node) a0.kids i) (q::r)).2<;>rfl
noncomputable def afe:Gm.Spec:=Gm.Spec.of [.ro,.ro,.fn] [false,false] true Ae
theorem DS:Gm.Good Tryz.prog (102,afe):=by
 refine⟨⟨gJ Gd fun N hr=> ?_,_,Tryz.func102,by kernel_rfl,of_decide_eq_true (by kernel_rfl)⟩,Gm.Spec.ax _ _ _ _⟩
 have hl:∀x∈[(23,pU),(92,s92),(93,UM),(102,O8 N)],Gm.Good Tryz.prog x:=bt.2 ⟨ic,bt.2 ⟨F8,bt.2 ⟨BJ,bt.2 ⟨⟨⟨hr,_,Tryz.func102,by kernel_rfl,of_decide_eq_true (by kernel_rfl)⟩,Gm.Spec.ax _ _ _ _⟩,gw⟩⟩⟩⟩
 intro R
 refine aD (E:=Gf N) (aL.env hl) (bQ.cq hl) Tryz.func102 (by kernel_rfl:Tryz.f102.body=some Ge) [27,4] (by kernel_rfl) ?_
 intro ds outs h
 obtain⟨h,hm⟩:=dg h
 unfold Ae at h
 split at h
 ·simp only[Option.some.injEq,Prod.mk.injEq] at h;obtain⟨hg,h⟩:=h;cases h;exact Gg N _ _ hg hm
 ·cases h
noncomputable def Af:Qt
 | [.d .node a0,.d (.sl .str) a1,.fi 87 [⟨.node,a2⟩]]=>some ((JD a0 a1 a2),[.d .node ((dB a0 a1 a2).1),.d .bool ((dB a0 a1 a2).2)])
 |_=>none
noncomputable def Gi:List Dt→Nat
 | [.d .node a0,.d (.sl .str) a1,.fi 87 [⟨.node,a2⟩]]=>(fun(_:ae)(p:List BA)(_:ae)=>p.length) a0 a1 a2
 |_=>0
noncomputable def O'(N:Nat):Gm.Spec:=Gm.Spec.of [.ro,.ro,.fn] [false,false] true (qA Gi N Af)
noncomputable def Gj:Code:=(Tryz.f102.body).getD .skip
def Pa:Nat→Kp:=fa [⟨[1,2,3,6],[],[],[]⟩,⟨[1,2,3,6,13],[],[],[]⟩,⟨[6,7],[],[],[]⟩,⟨[1,2,3,6,8],[],[],[]⟩,⟨[1,2,3,6,8,28],[],[],[]⟩,⟨[6,7],[],[],[]⟩,⟨[3,6,8,9,10],[],[],[]⟩,⟨[3,6,8,9,43],[],[],[]⟩,⟨[6,7],[],[],[]⟩,⟨[3,6,8,9],[],[],[]⟩,⟨[3,6],[],[],[]⟩,⟨[6,7],[],[],[]⟩]
noncomputable def Gk(N:Nat):Env:=bQ.env [(23,pU),(87,s87),(93,UM),(102,O' N)]
noncomputable def H4(a0:ae)(a1:List BA)(a2:ae):List ae:=
 ((ae.kids a0).set (Int.toNat (aw (eN a0) (al (t:= .str) a1 0))) (eN ((dB (eN (al (t:= .node) (ae.kids a0) (Int.toNat (aw (eN a0) (al (t:= .str) a1 0))))) ((a1.take (Int.toNat (a1.length:Int))).drop 1) a2).1)))
theorem Kf{R:Type}(N:Nat)(n:Nat)(k:Kt R)(a0:ae)(a1:List BA)(a2:ae):aG (Gk N) Pa n Gj [.ro,.ro,.fn] [false,false] true [.cell 6 27,.tmp 7] [27,4] [.d .node a0,.d (.sl .str) a1,.fi 87 [⟨.node,a2⟩]] k=
 (cond ((a1.length:Int)==(1:Int))
 (cond (decide ((0:Int)<(a1.length:Int)))
 (cond (uv (eN a0) (al (t:= .str) a1 0) a2)
 (k [.d .node (eN ((dx (eN a0) (al (t:= .str) a1 0) a2).1)),.d .bool ((dx (eN a0) (al (t:= .str) a1 0) a2).2)])
 none)
 none)
 (cond (decide ((0:Int)<(a1.length:Int)))
 (cond ((fun(x:ae)(_:BA)=>ag x) (eN a0) (al (t:= .str) a1 0))
 (cond (decide ((aw (eN a0) (al (t:= .str) a1 0))<(0:Int)))
 (k [.d .node (⟨(0:Int),(0:Int),ByteArray.empty,([]:List BA),([]:List ae)⟩:ae),.d .bool false])
 (cond ((decide ((0:Int)≤(aw (eN a0) (al (t:= .str) a1 0))))&&(decide ((aw (eN a0) (al (t:= .str) a1 0))<((ae.kids a0).length:Int))))
 (cond ((decide ((1:Int)≤(a1.length:Int)))&&(decide ((a1.length:Int)≤(a1.length:Int))))
 (cond ((JD (eN (al (t:= .node) (ae.kids a0) (Int.toNat (aw (eN a0) (al (t:= .str) a1 0))))) ((a1.take (Int.toNat (a1.length:Int))).drop 1) a2)&&(Nat.blt ((fun(_:ae)(p:List BA)(_:ae)=>p.length) (eN (al (t:= .node) (ae.kids a0) (Int.toNat (aw (eN a0) (al (t:= .str) a1 0))))) ((a1.take (Int.toNat (a1.length:Int))).drop 1) a2) N))
 (cond (!((dB (eN (al (t:= .node) (ae.kids a0) (Int.toNat (aw (eN a0) (al (t:= .str) a1 0))))) ((a1.take (Int.toNat (a1.length:Int))).drop 1) a2).2))
 (k [.d .node (⟨(0:Int),(0:Int),ByteArray.empty,([]:List BA),([]:List ae)⟩:ae),.d .bool false])
 (cond (ag (eN a0))
 (cond ((decide ((0:Int)≤(aw (eN a0) (al (t:= .str) a1 0))))&&(decide ((aw (eN a0) (al (t:= .str) a1 0))<((ae.kids a0).length:Int))))
 (k [.d .node (⟨(ae.kind a0),(ae.n a0),(ae.s a0),(ae.keys a0),(H4 a0 a1 a2)⟩:ae),.d .bool true])
 none)
 none))
 none)
 none)
 none))
 none)
 none)):=by kernel_rfl
theorem Gl(N:Nat)(a0:ae)(a1:List BA)(a2:ae)(hg:JD a0 a1 a2=true)(hm:Gi [.d .node a0,.d (.sl .str) a1,.fi 87 [⟨.node,a2⟩]]=N):∃keep rounds,∀{R:Type}(k:Kt R),aG (Gk N) keep rounds Gj [.ro,.ro,.fn] [false,false] true [.cell 6 27,.tmp 7] [27,4] [.d .node a0,.d (.sl .str) a1,.fi 87 [⟨.node,a2⟩]] k=k [.d .node ((dB a0 a1 a2).1),.d .bool ((dB a0 a1 a2).2)]:=by
 have hm:a1.length=N:=hm
 subst hm
 simp only[JD,gP,Bool.and_eq_true] at hg
 obtain⟨⟨hg,uc,mV⟩,dn⟩:=hg
 have fP:=hg
 rw[bf] at hg
 simp only[Bool.and_eq_true] at hg
 obtain⟨_,_,_,lQ,lg⟩:=hg
 have p9:=aR lQ
 have ot:=aR lg
 refine⟨Pa,0,fun {R} k=> ?_⟩
 rw[Kf]
 show _=k [.d .node (dB a0 a1 a2).1,.d .bool (dB a0 a1 a2).2]
 match a1,uc,dn with
 | [],_,dn=>cases dn
 | [p],uc,_=>
  have O6:uv a0 p a2=true:=by simp only[uv,Bool.and_eq_true];exact⟨fP,xd uc,mV⟩
  have e5:al (t:= .str) [p] 0=p:=rfl
  simp only[az,aK,e5,O6,dB]
  rfl
 |p::q::r,uc,_=>
  have l0:decide ((0:Int)<((p::q::r).length:Int))=true:=decide_eq_true (by simp only[List.length_cons];omega)
  have l1:(((p::q::r).length:Int)==(1:Int))=false:=by rw[beq_eq_false_iff_ne];simp only[List.length_cons];omega
  have l2:decide ((1:Int)≤((p::q::r).length:Int))=true:=decide_eq_true (by simp only[List.length_cons];omega)
  have l3:decide (((p::q::r).length:Int)≤((p::q::r).length:Int))=true:=decide_eq_true (Int.le_refl _)
  have l4:((p::q::r).take (Int.toNat ((p::q::r).length:Int))).drop 1=q::r:=by rw[Int.toNat_natCast,List.take_length];rfl
  have l5:al (t:= .str) (p::q::r) 0=p:=rfl
  have l6:Nat.blt (q::r).length (p::q::r).length=true:=by rw[Nat.blt_eq];simp only[List.length_cons];omega
  have l7:(((p::q::r).length:Int)==(0:Int))=false:=by rw[beq_eq_false_iff_ne];simp only[List.length_cons];omega
  have l8:decide (((p::q::r).length:Int)>(1:Int))=true:=decide_eq_true (by simp only[List.length_cons];omega)
  have hqr:dS bH (q::r)=true:=oW uc
  simp only[az,aK,fP,l0,l1,l5,cond_true,cond_false]
  rw[dB]
  by_cases hk:aw a0 p<0
  ·rw[decide_eq_true hk];rfl
  obtain⟨i,e,h1⟩:=fM hk
  obtain⟨i1,i0,_,it⟩:=idx h1 (by omega)
  have hx:=dm (t:= .node) h1
  have hgk:JD (al (t:= .node) a0.kids i) (q::r) a2=true:=by
   simp only[JD,gP,Bool.and_eq_true]
   exact⟨⟨dG fP (List.mem_of_getElem? hx),hqr,mV⟩,rfl⟩
  simp only[decide_eq_false hk,H4,az,aK,l2,l3,l4,l5,l6,hgk,e,i1,i0,it,Bool.and_self,cond_true,cond_false]
  cases (dB (al (t:= .node) a0.kids i) (q::r) a2).2<;>rfl
noncomputable def aff:Gm.Spec:=Gm.Spec.of [.ro,.ro,.fn] [false,false] true Af
theorem Pb:Gm.Good Tryz.prog (102,aff):=by
 refine⟨⟨gJ Gi fun N hr=> ?_,_,Tryz.func102,by kernel_rfl,of_decide_eq_true (by kernel_rfl)⟩,Gm.Spec.ax _ _ _ _⟩
 have hl:∀x∈[(23,pU),(87,s87),(93,UM),(102,O' N)],Gm.Good Tryz.prog x:=bt.2 ⟨ic,bt.2 ⟨Gc,bt.2 ⟨BJ,bt.2 ⟨⟨⟨hr,_,Tryz.func102,by kernel_rfl,of_decide_eq_true (by kernel_rfl)⟩,Gm.Spec.ax _ _ _ _⟩,gw⟩⟩⟩⟩
 intro R
 refine aD (E:=Gk N) (aL.env hl) (bQ.cq hl) Tryz.func102 (by kernel_rfl:Tryz.f102.body=some Gj) [27,4] (by kernel_rfl) ?_
 intro ds outs h
 obtain⟨h,hm⟩:=dg h
 unfold Af at h
 split at h
 ·simp only[Option.some.injEq,Prod.mk.injEq] at h;obtain⟨hg,h⟩:=h;cases h;exact Gl N _ _ _ hg hm
 ·cases h
noncomputable def aas:Qt:=fun ds=>(match Ae ds with | some r=>some r | none=>(match Af ds with | some r=>some r | none=>none))
noncomputable def Pc:Gm.Spec:=Gm.Spec.of [.ro,.ro,.fn] [false,false] true aas
theorem H5:Gm.Good Tryz.prog (102,Pc):=by
 refine⟨⟨iN (q:=aas) ?_,DS.1.2⟩,Gm.Spec.ax _ _ _ _⟩
 intro ds outs h
 unfold aas at h
 cases ha:Ae ds with
 |some r=>
  simp only[ha] at h
  exact⟨Ae,DS.1.1,by rw[ha];exact h⟩
 |none=>
 simp only[ha] at h
 cases hb:Af ds with
 |some r=>
  simp only[hb] at h
  exact⟨Af,Pb.1.1,by rw[hb];exact h⟩
 |none=>
 simp only[hb] at h
 cases h
noncomputable def Pd:Code:=(Tryz.f86.body).getD .skip
def XW:Nat→Kp:=fa [⟨[1,2,3,6],[],[],[]⟩,⟨[3,6,8,9],[],[],[]⟩,⟨[3,6,8,18],[],[],[]⟩,⟨[6,7],[],[],[]⟩,⟨[6,7],[],[],[]⟩]
noncomputable def XX:Env:=bQ.env [(23,pU),(92,s92),(102,Pc)]
theorem Pe{R:Type}(n:Nat)(k:Kt R)(a0:ae)(a1:List BA):aG XX XW n Pd [.ro,.ro,.fn] [false,false] true [.cell 6 27,.tmp 7] [27,4] [.d .node a0,.d (.sl .str) a1,.fi 92 []] k=
 (cond (gW (eN a0) a1)
 (cond (!((eo (eN a0) a1).2))
 (cond (ag (eN a0))
 (k [.d .node (eN a0),.d .bool false])
 none)
 (k [.d .node (eN ((eo (eN a0) a1).1)),.d .bool true]))
 none):=by kernel_rfl
theorem Kg(a0:ae)(a1:List BA)(hg:gW a0 a1=true):∃keep rounds,∀{R:Type}(k:Kt R),aG XX keep rounds Pd [.ro,.ro,.fn] [false,false] true [.cell 6 27,.tmp 7] [27,4] [.d .node a0,.d (.sl .str) a1,.fi 92 []] k=k [.d .node ((cutAt a0 a1).1),.d .bool ((cutAt a0 a1).2)]:=by
 refine⟨XW,0,fun {R} k=> ?_⟩
 rw[Pe]
 have hs:ag a0=true:=by simp only[gW,Bool.and_eq_true] at hg;exact hg.1
 simp only[az,aK,hg,hs,cond_true]
 show _=k [.d .node (cutAt a0 a1).1,.d .bool (cutAt a0 a1).2]
 unfold cutAt
 cases (eo a0 a1).2<;>rfl
noncomputable def Pf:Qt
 | [.d .node a0,.d (.sl .str) a1,.fi 92 []]=>some ((gW a0 a1),[.d .node ((cutAt a0 a1).1),.d .bool ((cutAt a0 a1).2)])
 |_=>none
noncomputable def ai3:Gm.Spec:=Gm.Spec.of [.ro,.ro,.fn] [false,false] true Pf
theorem H6:Gm.Good Tryz.prog (86,ai3):=by
 have hl:∀x∈[(23,pU),(92,s92),(102,Pc)],Gm.Good Tryz.prog x:=bt.2 ⟨ic,bt.2 ⟨F8,bt.2 ⟨H5,gw⟩⟩⟩
 refine⟨⟨aD (aL.env hl) (bQ.cq hl) Tryz.func86 (by kernel_rfl:Tryz.f86.body=some Pd) [27,4] (by kernel_rfl) ?_,_,Tryz.func86,by kernel_rfl,of_decide_eq_true (by kernel_rfl)⟩,Gm.Spec.ax _ _ _ _⟩
 intro ds outs h
 unfold Pf at h
 split at h
 ·simp only[Option.some.injEq,Prod.mk.injEq] at h;obtain⟨hg,h⟩:=h;cases h;exact Kg _ _ hg
 ·cases h
noncomputable def Pg:Code:=(Tryz.f86.body).getD .skip
def XY:Nat→Kp:=fa [⟨[1,2,3,6],[],[],[]⟩,⟨[3,6,8,9],[],[],[]⟩,⟨[3,6,8,18],[],[],[]⟩,⟨[6,7],[],[],[]⟩,⟨[6,7],[],[],[]⟩]
noncomputable def XZ:Env:=bQ.env [(23,pU),(87,s87),(102,Pc)]
theorem Ph{R:Type}(n:Nat)(k:Kt R)(a0:ae)(a1:List BA)(a2:ae):aG XZ XY n Pg [.ro,.ro,.fn] [false,false] true [.cell 6 27,.tmp 7] [27,4] [.d .node a0,.d (.sl .str) a1,.fi 87 [⟨.node,a2⟩]] k=
 (cond (JD (eN a0) a1 a2)
 (cond (!((dB (eN a0) a1 a2).2))
 (cond (ag (eN a0))
 (k [.d .node (eN a0),.d .bool false])
 none)
 (k [.d .node (eN ((dB (eN a0) a1 a2).1)),.d .bool true]))
 none):=by kernel_rfl
theorem Kh(a0:ae)(a1:List BA)(a2:ae)(hg:JD a0 a1 a2=true):∃keep rounds,∀{R:Type}(k:Kt R),aG XZ keep rounds Pg [.ro,.ro,.fn] [false,false] true [.cell 6 27,.tmp 7] [27,4] [.d .node a0,.d (.sl .str) a1,.fi 87 [⟨.node,a2⟩]] k=k [.d .node ((gL a0 a1 a2).1),.d .bool ((gL a0 a1 a2).2)]:=by
 refine⟨XY,0,fun {R} k=> ?_⟩
 rw[Ph]
 have hs:ag a0=true:=by simp only[JD,gP,Bool.and_eq_true] at hg;exact hg.1.1
 simp only[az,aK,hg,hs,cond_true]
 show _=k [.d .node (gL a0 a1 a2).1,.d .bool (gL a0 a1 a2).2]
 unfold gL
 cases (dB a0 a1 a2).2<;>rfl
noncomputable def Pj:Qt
 | [.d .node a0,.d (.sl .str) a1,.fi 87 [⟨.node,a2⟩]]=>some ((JD a0 a1 a2),[.d .node ((gL a0 a1 a2).1),.d .bool ((gL a0 a1 a2).2)])
 |_=>none
noncomputable def ai4:Gm.Spec:=Gm.Spec.of [.ro,.ro,.fn] [false,false] true Pj
theorem Va:Gm.Good Tryz.prog (86,ai4):=by
 have hl:∀x∈[(23,pU),(87,s87),(102,Pc)],Gm.Good Tryz.prog x:=bt.2 ⟨ic,bt.2 ⟨Gc,bt.2 ⟨H5,gw⟩⟩⟩
 refine⟨⟨aD (aL.env hl) (bQ.cq hl) Tryz.func86 (by kernel_rfl:Tryz.f86.body=some Pg) [27,4] (by kernel_rfl) ?_,_,Tryz.func86,by kernel_rfl,of_decide_eq_true (by kernel_rfl)⟩,Gm.Spec.ax _ _ _ _⟩
 intro ds outs h
 unfold Pj at h
 split at h
 ·simp only[Option.some.injEq,Prod.mk.injEq] at h;obtain⟨hg,h⟩:=h;cases h;exact Kh _ _ _ hg
 ·cases h
noncomputable def q86:Qt:=fun ds=>(match Pf ds with | some r=>some r | none=>(match Pj ds with | some r=>some r | none=>none))
noncomputable def s86:Gm.Spec:=Gm.Spec.of [.ro,.ro,.fn] [false,false] true q86
theorem Pk:Gm.Good Tryz.prog (86,s86):=by
 refine⟨⟨iN (q:=q86) ?_,H6.1.2⟩,Gm.Spec.ax _ _ _ _⟩
 intro ds outs h
 unfold q86 at h
 cases ha:Pf ds with
 |some r=>
  simp only[ha] at h
  exact⟨Pf,H6.1.1,by rw[ha];exact h⟩
 |none=>
 simp only[ha] at h
 cases hb:Pj ds with
 |some r=>
  simp only[hb] at h
  exact⟨Pj,Va.1.1,by rw[hb];exact h⟩
 |none=>
 simp only[hb] at h
 cases h
end Go.Proofs.YtalnkjjnohgjkaaGreat
