/- What the functions compute, part 2. No conditions. -/
import Derived.Test.YtnbehmbjoanfoaaFnCatchesUpFn1
namespace Go.Proofs.Ytnbehmbjoanfoaa
open Go Go.Gm
noncomputable def Tt:Code:=(Try.f15.body).getD .skip
def XF:Nat→Kp:=fF [⟨[0],[],[],[]⟩,⟨[2],[],[],[]⟩]
noncomputable def XG:Env:=bd.env []
theorem OE{R:Type}(n:Nat)(k:Kt R)(a0:List Int):aO XG XF n Tt [.ro] [false] true [.tmp 2] [4] [.d (.sl (.i .u8)) a0] k=
 (k [.d .bool (decide ((a0.length:Int)>(1048576:Int)))]):=by kernel_rfl
theorem KQ(a0:List Int):∃keep rounds,∀{R:Type}(k:Kt R),aO XG keep rounds Tt [.ro] [false] true [.tmp 2] [4] [.d (.sl (.i .u8)) a0] k=k [.d .bool (HK a0)]:=by
 exact⟨XF,0,fun k=>OE 0 k a0⟩
noncomputable def q15:Qt
 | [.d (.sl (.i .u8)) a0]=>some (true,[.d .bool (HK a0)])
 |_=>none
noncomputable def s15:Gm.Spec:=Gm.Spec.of [.ro] [false] true q15
theorem Tv:Gm.Good Try.prog (15,s15):=by
 have hl:∀x∈([]:List (Nat×Gm.Spec)),Gm.Good Try.prog x:=fun _ h=>by cases h
 refine⟨⟨aM (aV.env hl) (bd.cz hl) Try.func15 (by kernel_rfl:Try.f15.body=some Tt) [4] (by kernel_rfl) ?_,_,Try.func15,by kernel_rfl,of_decide_eq_true (by kernel_rfl)⟩,Gm.Spec.aG _ _ _ _⟩
 intro ds outs h
 unfold q15 at h
 split at h
 ·cases h;exact KQ _
 ·cases h
noncomputable def Tx:Code:=(Try.f18.body).getD .skip
def XH:Nat→Kp:=fF [⟨[0,1],[],[],[]⟩,⟨[0,1,8],[],[],[]⟩,⟨[4],[],[],[]⟩,⟨[4],[],[],[]⟩]
noncomputable def XI:Env:=bd.env []
theorem OF{R:Type}(n:Nat)(k:Kt R)(a0:List Int)(a1:Int):aO XI XH n Tx [.ro,.ro] [false] true [.tmp 4] [3] [.d (.sl (.i .u8)) a0,.d (.i .i64) a1] k=
 (cond (decide (a1<(a0.length:Int)))
 (cond ((decide ((0:Int)≤a1))&&(decide (a1<(a0.length:Int))))
 (k [.d (.i .i64) (IntKind.wrap .i64 (ax (t:=(.i .u8)) a0 (Int.toNat a1)))])
 none)
 (k [.d (.i .i64) (Int.tmod (IntKind.wrap .i64 ((IntKind.wrap .i64 (a1*(7:Int)))+(a0.length:Int))) (256:Int))])):=by kernel_rfl
theorem KR(a0:List Int)(a1:Int)(hg:decide ((0:Int)≤a1)=true):∃keep rounds,∀{R:Type}(k:Kt R),aO XI keep rounds Tx [.ro,.ro] [false] true [.tmp 4] [3] [.d (.sl (.i .u8)) a0,.d (.i .i64) a1] k=k [.d (.i .i64) (ar a0 a1)]:=by
 refine⟨XH,0,fun k=> ?_⟩
 rw[OF,hg]
 unfold ar
 cases decide (a1<(a0.length:Int))<;>rfl
noncomputable def q18:Qt
 | [.d (.sl (.i .u8)) a0,.d (.i .i64) a1]=>some (((fun(_:List Int)(i:Int)=>decide ((0:Int)≤i)) a0 a1),[.d (.i .i64) (ar a0 a1)])
 |_=>none
noncomputable def s18:Gm.Spec:=Gm.Spec.of [.ro,.ro] [false] true q18
theorem Tz:Gm.Good Try.prog (18,s18):=by
 have hl:∀x∈([]:List (Nat×Gm.Spec)),Gm.Good Try.prog x:=fun _ h=>by cases h
 refine⟨⟨aM (aV.env hl) (bd.cz hl) Try.func18 (by kernel_rfl:Try.f18.body=some Tx) [3] (by kernel_rfl) ?_,_,Try.func18,by kernel_rfl,of_decide_eq_true (by kernel_rfl)⟩,Gm.Spec.aG _ _ _ _⟩
 intro ds outs h
 unfold q18 at h
 split at h
 ·simp only[Option.some.injEq,Prod.mk.injEq] at h;obtain⟨hg,h⟩:=h;cases h;exact KR _ _ hg
 ·cases h
noncomputable def CY(y0:Int)(y1:BA)(y2:BA)(y3:Int)(y4:Int)(y5:List aj)(y6:Int)(y7:Int)(y8:Int)(y9:Int)(Bj:List aF)(wa:BA)(sb:BA)(tq:Int)(wy:Int)(wz:List aj)(w3:Int)(w4:Int)(w5:Int)(w6:Int)(w7:List aF):St:=⟨[(2,.c (.one (.pt 2 0))),(3,.c (.one (.pt 3 0))),(5,.c (.one (.v (.int .i64 y0))))],[(2,⟨.order,[.v (.string y1),.v (.string y2),.v (.int .i64 y3),.v (.int .i64 y4),.ro .aw y5,.v (.int .i64 y6),.v (.int .i64 y7),.v (.int .i64 y8),.v (.int .i64 y9),.ro .note Bj]⟩),(3,⟨.order,[.v (.string wa),.v (.string sb),.v (.int .i64 tq),.v (.int .i64 wy),.ro .aw wz,.v (.int .i64 w3),.v (.int .i64 w4),.v (.int .i64 w5),.v (.int .i64 w6),.ro .note w7]⟩)],[]⟩
noncomputable def uJ:St:=⟨[(4,.c (.one (.v (.bool false))))],[],[]⟩
noncomputable def KS(y0:Int)(y1:Bool)(y2:BA)(y3:BA)(y4:Int)(y5:Int)(y6:List aj)(y7:Int)(y8:Int)(y9:Int)(Bj:Int)(wa:List aF)(sb:BA)(tq:BA)(wy:Int)(wz:Int)(w3:List aj)(w4:Int)(w5:Int)(w6:Int)(w7:Int)(BI:List aF):St:=⟨[(2,.c (.one (.pt 2 0))),(3,.c (.one (.pt 3 0))),(5,.c (.one (.v (.int .i64 y0)))),(62,.c (.one (.v (.bool y1))))],[(2,⟨.order,[.v (.string y2),.v (.string y3),.v (.int .i64 y4),.v (.int .i64 y5),.ro .aw y6,.v (.int .i64 y7),.v (.int .i64 y8),.v (.int .i64 y9),.v (.int .i64 Bj),.ro .note wa]⟩),(3,⟨.order,[.v (.string sb),.v (.string tq),.v (.int .i64 wy),.v (.int .i64 wz),.ro .aw w3,.v (.int .i64 w4),.v (.int .i64 w5),.v (.int .i64 w6),.v (.int .i64 w7),.ro .note BI]⟩)],[]⟩
noncomputable def CZ(y0:Int)(y1:BA)(y2:BA)(y3:Int)(y4:Int)(y5:List aj)(y6:Int)(y7:Int)(y8:Int)(y9:Int)(Bj:List aF)(wa:BA)(sb:BA)(tq:Int)(wy:Int)(wz:List aj)(w3:Int)(w4:Int)(w5:Int)(w6:Int)(w7:List aF):St:=⟨[(2,.c (.one (.pt 2 0))),(3,.c (.one (.pt 3 0))),(6,.c (.one (.v (.int .i64 y0))))],[(2,⟨.order,[.v (.string y1),.v (.string y2),.v (.int .i64 y3),.v (.int .i64 y4),.ro .aw y5,.v (.int .i64 y6),.v (.int .i64 y7),.v (.int .i64 y8),.v (.int .i64 y9),.ro .note Bj]⟩),(3,⟨.order,[.v (.string wa),.v (.string sb),.v (.int .i64 tq),.v (.int .i64 wy),.ro .aw wz,.v (.int .i64 w3),.v (.int .i64 w4),.v (.int .i64 w5),.v (.int .i64 w6),.ro .note w7]⟩)],[]⟩
noncomputable def KT(y0:Int)(y1:Bool)(y2:BA)(y3:BA)(y4:Int)(y5:Int)(y6:List aj)(y7:Int)(y8:Int)(y9:Int)(Bj:Int)(wa:List aF)(sb:BA)(tq:BA)(wy:Int)(wz:Int)(w3:List aj)(w4:Int)(w5:Int)(w6:Int)(w7:Int)(BI:List aF):St:=⟨[(2,.c (.one (.pt 2 0))),(3,.c (.one (.pt 3 0))),(6,.c (.one (.v (.int .i64 y0)))),(80,.c (.one (.v (.bool y1))))],[(2,⟨.order,[.v (.string y2),.v (.string y3),.v (.int .i64 y4),.v (.int .i64 y5),.ro .aw y6,.v (.int .i64 y7),.v (.int .i64 y8),.v (.int .i64 y9),.v (.int .i64 Bj),.ro .note wa]⟩),(3,⟨.order,[.v (.string sb),.v (.string tq),.v (.int .i64 wy),.v (.int .i64 wz),.ro .aw w3,.v (.int .i64 w4),.v (.int .i64 w5),.v (.int .i64 w6),.v (.int .i64 w7),.ro .note BI]⟩)],[]⟩
noncomputable def su:Code:=(Try.f68.body).getD .skip
def tr:Nat→Kp:=fF [⟨[2,3],[],[],[]⟩,⟨[2,3,57],[],[],[]⟩,⟨[4],[],[],[]⟩,⟨[2,3,5],[],[],[]⟩,⟨[2,3,5,62],[],[],[]⟩,⟨[2,3,5],[],[],[]⟩,⟨[2,3,5,75],[],[],[]⟩,⟨[4],[],[],[]⟩,⟨[2,3,6],[],[],[]⟩,⟨[2,3,6,80],[],[],[]⟩,⟨[2,3,6],[],[],[]⟩,⟨[2,3,6,93],[],[],[]⟩,⟨[4],[],[],[]⟩,⟨[4],[],[],[]⟩]
noncomputable def ml:Env:=bd.env []
noncomputable def sw{R:Type}(n:Nat)(x0:Option R)(x1:Int→Bool→Option R)(wG:BA)(wH:BA)(wI:Int)(wJ:Int)(wB:List aj)(wK:Int)(wL:Int)(wM:Int)(wN:Int)(wC:List aF)(wO:BA)(wP:BA)(wQ:Int)(wR:Int)(wD:List aj)(wS:Int)(wT:Int)(wU:Int)(wV:Int)(wE:List aF):Nat→Int→Option R
  |0,_=>none
  |m+1,wA=>
    (cond (decide (wA<(wB.length:Int)))
   (cond ((decide ((0:Int)≤wA))&&(decide (wA<(wB.length:Int))))
    (cond ((decide ((0:Int)≤wA))&&(decide (wA<(wD.length:Int))))
     (cond (!(((aj.name (ax (t:= .aw) wB (Int.toNat wA)))==(aj.name (ax (t:= .aw) wD (Int.toNat wA))))&&(((aj.kind (ax (t:= .aw) wB (Int.toNat wA)))==(aj.kind (ax (t:= .aw) wD (Int.toNat wA))))&&(((aj.goal (ax (t:= .aw) wB (Int.toNat wA)))==(aj.goal (ax (t:= .aw) wD (Int.toNat wA))))&&true))))
      (x0)
      (sw n x0 x1 wG wH wI wJ wB wK wL wM wN wC wO wP wQ wR wD wS wT wU wV wE m (IntKind.wrap .i64 (wA+(1:Int)))))
     none)
    none)
   (x1 wA (decide (wA<(wB.length:Int)))))
theorem OG{R:Type}(n:Nat)(k':Kx R)(wA:Int)(wG:BA)(wH:BA)(wI:Int)(wJ:Int)(wB:List aj)(wK:Int)(wL:Int)(wM:Int)(wN:Int)(wC:List aF)(wO:BA)(wP:BA)(wQ:Int)(wR:Int)(wD:List aj)(wS:Int)(wT:Int)(wU:Int)(wV:Int)(wE:List aF):ev ml tr n (cM [1,1,0,1,0,0] su) (CY wA wG wH wI wJ wB wK wL wM wN wC wO wP wQ wR wD wS wT wU wV wE) k'=
 (cond (decide (wA<(wB.length:Int)))
 (cond ((decide ((0:Int)≤wA))&&(decide (wA<(wB.length:Int))))
 (cond ((decide ((0:Int)≤wA))&&(decide (wA<(wD.length:Int))))
 (cond (!(((aj.name (ax (t:= .aw) wB (Int.toNat wA)))==(aj.name (ax (t:= .aw) wD (Int.toNat wA))))&&(((aj.kind (ax (t:= .aw) wB (Int.toNat wA)))==(aj.kind (ax (t:= .aw) wD (Int.toNat wA))))&&(((aj.goal (ax (t:= .aw) wB (Int.toNat wA)))==(aj.goal (ax (t:= .aw) wD (Int.toNat wA))))&&true))))
 (k' .ret uJ)
 (k' .normal (CY (IntKind.wrap .i64 (wA+(1:Int))) wG wH wI wJ wB wK wL wM wN wC wO wP wQ wR wD wS wT wU wV wE)))
 none)
 none)
 (k' (.exit 0) (KS wA (decide (wA<(wB.length:Int))) wG wH wI wJ wB wK wL wM wN wC wO wP wQ wR wD wS wT wU wV wE))):=by kernel_rfl
theorem KU{R:Type}(n:Nat)(k':Kx R)(wG:BA)(wH:BA)(wI:Int)(wJ:Int)(wB:List aj)(wK:Int)(wL:Int)(wM:Int)(wN:Int)(wC:List aF)(wO:BA)(wP:BA)(wQ:Int)(wR:Int)(wD:List aj)(wS:Int)(wT:Int)(wU:Int)(wV:Int)(wE:List aF):∀(m:Nat)(wA:Int),iter (fun st k=>ev ml tr n (cM [1,1,0,1,0,0] su) st k) m (CY wA wG wH wI wJ wB wK wL wM wN wC wO wP wQ wR wD wS wT wU wV wE) k'=sw n (k' .ret uJ) (fun(wY:Int)(uB:Bool)=>k' (.exit 0) (KS wY uB wG wH wI wJ wB wK wL wM wN wC wO wP wQ wR wD wS wT wU wV wE)) wG wH wI wJ wB wK wL wM wN wC wO wP wQ wR wD wS wT wU wV wE m wA:=by
 intro m;induction m with
 |zero=>intros;rfl
 |succ m ih=>
  intro wA
  simp only[iter]
  rw[OG]
  simp only[ih,sw]
noncomputable def pw{R:Type}(n:Nat)(x0:Option R)(x1:Int→Bool→Option R)(wG:BA)(wH:BA)(wI:Int)(wJ:Int)(wB:List aj)(wK:Int)(wL:Int)(wM:Int)(wN:Int)(wC:List aF)(wO:BA)(wP:BA)(wQ:Int)(wR:Int)(wD:List aj)(wS:Int)(wT:Int)(wU:Int)(wV:Int)(wE:List aF):Nat→Int→Option R
  |0,_=>none
  |m+1,wF=>
    (cond (decide (wF<(wC.length:Int)))
   (cond ((decide ((0:Int)≤wF))&&(decide (wF<(wC.length:Int))))
    (cond ((decide ((0:Int)≤wF))&&(decide (wF<(wE.length:Int))))
     (cond (!(((aF.key (ax (t:= .note) wC (Int.toNat wF)))==(aF.key (ax (t:= .note) wE (Int.toNat wF))))&&(((aF.text (ax (t:= .note) wC (Int.toNat wF)))==(aF.text (ax (t:= .note) wE (Int.toNat wF))))&&true)))
      (x0)
      (pw n x0 x1 wG wH wI wJ wB wK wL wM wN wC wO wP wQ wR wD wS wT wU wV wE m (IntKind.wrap .i64 (wF+(1:Int)))))
     none)
    none)
   (x1 wF (decide (wF<(wC.length:Int)))))
theorem OH{R:Type}(n:Nat)(k':Kx R)(wF:Int)(wG:BA)(wH:BA)(wI:Int)(wJ:Int)(wB:List aj)(wK:Int)(wL:Int)(wM:Int)(wN:Int)(wC:List aF)(wO:BA)(wP:BA)(wQ:Int)(wR:Int)(wD:List aj)(wS:Int)(wT:Int)(wU:Int)(wV:Int)(wE:List aF):ev ml tr n (cM [1,1,1,0,1,0,0] su) (CZ wF wG wH wI wJ wB wK wL wM wN wC wO wP wQ wR wD wS wT wU wV wE) k'=
 (cond (decide (wF<(wC.length:Int)))
 (cond ((decide ((0:Int)≤wF))&&(decide (wF<(wC.length:Int))))
 (cond ((decide ((0:Int)≤wF))&&(decide (wF<(wE.length:Int))))
 (cond (!(((aF.key (ax (t:= .note) wC (Int.toNat wF)))==(aF.key (ax (t:= .note) wE (Int.toNat wF))))&&(((aF.text (ax (t:= .note) wC (Int.toNat wF)))==(aF.text (ax (t:= .note) wE (Int.toNat wF))))&&true)))
 (k' .ret uJ)
 (k' .normal (CZ (IntKind.wrap .i64 (wF+(1:Int))) wG wH wI wJ wB wK wL wM wN wC wO wP wQ wR wD wS wT wU wV wE)))
 none)
 none)
 (k' (.exit 2) (KT wF (decide (wF<(wC.length:Int))) wG wH wI wJ wB wK wL wM wN wC wO wP wQ wR wD wS wT wU wV wE))):=by kernel_rfl
theorem yO{R:Type}(n:Nat)(k':Kx R)(wG:BA)(wH:BA)(wI:Int)(wJ:Int)(wB:List aj)(wK:Int)(wL:Int)(wM:Int)(wN:Int)(wC:List aF)(wO:BA)(wP:BA)(wQ:Int)(wR:Int)(wD:List aj)(wS:Int)(wT:Int)(wU:Int)(wV:Int)(wE:List aF):∀(m:Nat)(wF:Int),iter (fun st k=>ev ml tr n (cM [1,1,1,0,1,0,0] su) st k) m (CZ wF wG wH wI wJ wB wK wL wM wN wC wO wP wQ wR wD wS wT wU wV wE) k'=pw n (k' .ret uJ) (fun(wZ:Int)(uA:Bool)=>k' (.exit 2) (KT wZ uA wG wH wI wJ wB wK wL wM wN wC wO wP wQ wR wD wS wT wU wV wE)) wG wH wI wJ wB wK wL wM wN wC wO wP wQ wR wD wS wT wU wV wE m wF:=by
 intro m;induction m with
 |zero=>intros;rfl
 |succ m ih=>
  intro wF
  simp only[iter]
  rw[OH]
  simp only[ih,pw]
noncomputable def KV{R:Type}(n:Nat)(k':Kx R):Kx R:=(cL 2 (gd ml tr n (cM [1,1,1,1] su) k'))
theorem yP{R:Type}(n:Nat)(k:Kt R)(a0:ae)(a1:ae):KV n (bt ml [.ro,.ro] [false] true [.tmp 4] [4] [.d .order a0,.d .order a1] k) .ret uJ=
 (k [.d .bool false]):=by kernel_rfl
theorem yQ{R:Type}(n:Nat)(k:Kt R)(a0:ae)(a1:ae)(wG:BA)(wH:BA)(wI:Int)(wJ:Int)(wB:List aj)(wK:Int)(wL:Int)(wM:Int)(wN:Int)(wC:List aF)(wO:BA)(wP:BA)(wQ:Int)(wR:Int)(wD:List aj)(wS:Int)(wT:Int)(wU:Int)(wV:Int)(wE:List aF)(wZ:Int)(uA:Bool):KV n (bt ml [.ro,.ro] [false] true [.tmp 4] [4] [.d .order a0,.d .order a1] k) (.exit 2) (KT wZ uA wG wH wI wJ wB wK wL wM wN wC wO wP wQ wR wD wS wT wU wV wE)=
 (k [.d .bool true]):=by kernel_rfl
noncomputable def KW{R:Type}(n:Nat)(k':Kx R):Kx R:=(cL 0 (gd ml tr n (cM [1,1,1] su) k'))
theorem KX{R:Type}(n:Nat)(k:Kt R)(a0:ae)(a1:ae):KW n (bt ml [.ro,.ro] [false] true [.tmp 4] [4] [.d .order a0,.d .order a1] k) .ret uJ=
 (k [.d .bool false]):=by kernel_rfl
theorem KY{R:Type}(n:Nat)(k:Kt R)(a0:ae)(a1:ae)(wG:BA)(wH:BA)(wI:Int)(wJ:Int)(wB:List aj)(wK:Int)(wL:Int)(wM:Int)(wN:Int)(wC:List aF)(wO:BA)(wP:BA)(wQ:Int)(wR:Int)(wD:List aj)(wS:Int)(wT:Int)(wU:Int)(wV:Int)(wE:List aF)(wY:Int)(uB:Bool):KW n (bt ml [.ro,.ro] [false] true [.tmp 4] [4] [.d .order a0,.d .order a1] k) (.exit 0) (KS wY uB wG wH wI wJ wB wK wL wM wN wC wO wP wQ wR wD wS wT wU wV wE)=
 (pw n (k [.d .bool false]) (fun(wZ:Int)(uA:Bool)=>
 (k [.d .bool true])) wG wH wI wJ wB wK wL wM wN wC wO wP wQ wR wD wS wT wU wV wE n (0:Int)):=by
 refine Eq.trans (b:=(iter (fun st k=>ev ml tr n (cM [1,1,1,0,1,0,0] su) st k) n (CZ (0:Int) wG wH wI wJ wB wK wL wM wN wC wO wP wQ wR wD wS wT wU wV wE) (KV n (bt ml [.ro,.ro] [false] true [.tmp 4] [4] [.d .order a0,.d .order a1] k)))) (by kernel_rfl) ?_
 simp only[yO,yP,yQ]
theorem OI{R:Type}(n:Nat)(k:Kt R)(a0:ae)(a1:ae):aO ml tr n su [.ro,.ro] [false] true [.tmp 4] [4] [.d .order a0,.d .order a1] k=
 (cond (!(fX (ae.name a0) (ae.name a1)))
 (k [.d .bool false])
 (cond (!(fX (ae.target a0) (ae.target a1)))
 (k [.d .bool false])
 (cond ((ae.low a0) !=(ae.low a1))
 (k [.d .bool false])
 (cond ((ae.high a0) !=(ae.high a1))
 (k [.d .bool false])
 (cond (!(((aB.up (ae.aD a0))==(aB.up (ae.aD a1)))&&(((aB.down (ae.aD a0))==(aB.down (ae.aD a1)))&&(((aB.bU (ae.aD a0))==(aB.bU (ae.aD a1)))&&(((aB.bm (ae.aD a0))==(aB.bm (ae.aD a1)))&&true)))))
 (k [.d .bool false])
 (cond (((ae.aq a0).length:Int) !=((ae.aq a1).length:Int))
 (k [.d .bool false])
 (cond (((ae.notes a0).length:Int) !=((ae.notes a1).length:Int))
 (k [.d .bool false])
 (sw n (k [.d .bool false]) (fun(wY:Int)(uB:Bool)=>
 (pw n (k [.d .bool false]) (fun(wZ:Int)(uA:Bool)=>
 (k [.d .bool true])) (ae.name a0) (ae.target a0) (ae.low a0) (ae.high a0) (ae.aq a0) (aB.up (ae.aD a0)) (aB.down (ae.aD a0)) (aB.bU (ae.aD a0)) (aB.bm (ae.aD a0)) (ae.notes a0) (ae.name a1) (ae.target a1) (ae.low a1) (ae.high a1) (ae.aq a1) (aB.up (ae.aD a1)) (aB.down (ae.aD a1)) (aB.bU (ae.aD a1)) (aB.bm (ae.aD a1)) (ae.notes a1) n (0:Int))) (ae.name a0) (ae.target a0) (ae.low a0) (ae.high a0) (ae.aq a0) (aB.up (ae.aD a0)) (aB.down (ae.aD a0)) (aB.bU (ae.aD a0)) (aB.bm (ae.aD a0)) (ae.notes a0) (ae.name a1) (ae.target a1) (ae.low a1) (ae.high a1) (ae.aq a1) (aB.up (ae.aD a1)) (aB.down (ae.aD a1)) (aB.bU (ae.aD a1)) (aB.bm (ae.aD a1)) (ae.notes a1) n (0:Int))))))))):=by
  refine Eq.trans (b:=(cond (!(fX (ae.name a0) (ae.name a1)))
  (k [.d .bool false])
  (cond (!(fX (ae.target a0) (ae.target a1)))
   (k [.d .bool false])
   (cond ((ae.low a0) !=(ae.low a1))
    (k [.d .bool false])
    (cond ((ae.high a0) !=(ae.high a1))
     (k [.d .bool false])
     (cond (!(((aB.up (ae.aD a0))==(aB.up (ae.aD a1)))&&(((aB.down (ae.aD a0))==(aB.down (ae.aD a1)))&&(((aB.bU (ae.aD a0))==(aB.bU (ae.aD a1)))&&(((aB.bm (ae.aD a0))==(aB.bm (ae.aD a1)))&&true)))))
      (k [.d .bool false])
      (cond (((ae.aq a0).length:Int) !=((ae.aq a1).length:Int))
       (k [.d .bool false])
       (cond (((ae.notes a0).length:Int) !=((ae.notes a1).length:Int))
        (k [.d .bool false])
        (iter (fun st k=>ev ml tr n (cM [1,1,0,1,0,0] su) st k) n (CY (0:Int) (ae.name a0) (ae.target a0) (ae.low a0) (ae.high a0) (ae.aq a0) (aB.up (ae.aD a0)) (aB.down (ae.aD a0)) (aB.bU (ae.aD a0)) (aB.bm (ae.aD a0)) (ae.notes a0) (ae.name a1) (ae.target a1) (ae.low a1) (ae.high a1) (ae.aq a1) (aB.up (ae.aD a1)) (aB.down (ae.aD a1)) (aB.bU (ae.aD a1)) (aB.bm (ae.aD a1)) (ae.notes a1)) (KW n (bt ml [.ro,.ro] [false] true [.tmp 4] [4] [.d .order a0,.d .order a1] k))))))))))) (by kernel_rfl) ?_
  simp only[KU,KX,KY,yO,yP,yQ]
theorem KZ(a0:ae)(a1:ae)(hg:kx aL a0 a1=true):∃keep rounds,∀{R:Type}(k:Kt R),aO ml keep rounds su [.ro,.ro] [false] true [.tmp 4] [4] [.d .order a0,.d .order a1] k=k [.d .bool ((fun(_ _:ae)=>true) a0 a1)]:=by
 obtain⟨hs,rfl⟩:=l7.1 hg
 simp only[aL,Bool.and_eq_true] at hs
 obtain⟨_,_,_,_,s5,_,s7⟩:=hs
 have l1:=dU s5
 have l2:=dU s7
 obtain⟨N,hN⟩:∃N,N=a0.aq.length+a0.notes.length+1:=⟨_,rfl⟩
 refine⟨tr,N,fun {R} k=> ?_⟩
 rw[OI]
 simp only[jn,bne_self_eq_false,beq_self_eq_true,Bool.and_self,Bool.not_true,cond_false]
 show _=k [.d .bool true]
 have K0:∀(X:Option R)(Y:Int→Bool→Option R)(good:Option R),(∀ i b,Y i b=good)→∀d j m,j+d=a0.aq.length→d<m→sw N X Y a0.name a0.target a0.low a0.high a0.aq a0.aD.up a0.aD.down a0.aD.bU a0.aD.bm a0.notes a0.name a0.target a0.low a0.high a0.aq a0.aD.up a0.aD.down a0.aD.bU a0.aD.bm a0.notes m (j:Int)=good:=by
  intro X Y good hY d
  induction d with
  |zero=>
   intro j m hj hm
   obtain⟨m,rfl⟩:∃m',m=m'+1:=⟨m-1,by omega⟩
   simp only[sw,decide_eq_false (show ¬((j:Int)<(a0.aq.length:Int)) by omega),cond_false,hY]
  |succ d ih=>
   intro j m hj hm
   obtain⟨m,rfl⟩:∃m',m=m'+1:=⟨m-1,by omega⟩
   have sR:j<a0.aq.length:=by omega
   obtain⟨h1,h0,hw,ht⟩:=idx sR (by omega)
   simp only[sw,h1,h0,hw,ht,jn,rT,beq_self_eq_true,bne_self_eq_false,Bool.and_self,Bool.not_true,cond_true,cond_false]
   exact ih (j+1) m (by omega) (by omega)
 have TA:∀(X:Option R)(Y:Int→Bool→Option R)(good:Option R),(∀ i b,Y i b=good)→∀d j m,j+d=a0.notes.length→d<m→pw N X Y a0.name a0.target a0.low a0.high a0.aq a0.aD.up a0.aD.down a0.aD.bU a0.aD.bm a0.notes a0.name a0.target a0.low a0.high a0.aq a0.aD.up a0.aD.down a0.aD.bU a0.aD.bm a0.notes m (j:Int)=good:=by
  intro X Y good hY d
  induction d with
  |zero=>
   intro j m hj hm
   obtain⟨m,rfl⟩:∃m',m=m'+1:=⟨m-1,by omega⟩
   simp only[pw,decide_eq_false (show ¬((j:Int)<(a0.notes.length:Int)) by omega),cond_false,hY]
  |succ d ih=>
   intro j m hj hm
   obtain⟨m,rfl⟩:∃m',m=m'+1:=⟨m-1,by omega⟩
   have sR:j<a0.notes.length:=by omega
   obtain⟨h1,h0,hw,ht⟩:=idx sR (by omega)
   simp only[pw,h1,h0,hw,ht,jn,rT,beq_self_eq_true,bne_self_eq_false,Bool.and_self,Bool.not_true,cond_true,cond_false]
   exact ih (j+1) m (by omega) (by omega)
 exact K0 _ _ _ (fun _ _=>TA _ _ _ (fun _ _=>rfl) a0.notes.length 0 N (by omega) (by omega)) a0.aq.length 0 N (by omega) (by omega)
noncomputable def q68:Qt
 | [.d .order a0,.d .order a1]=>some (((kx aL) a0 a1),[.d .bool ((fun(_ _:ae)=>true) a0 a1)])
 |_=>none
noncomputable def s68:Gm.Spec:=Gm.Spec.of [.ro,.ro] [false] true q68
theorem TB:Gm.Good Try.prog (68,s68):=by
 have hl:∀x∈([]:List (Nat×Gm.Spec)),Gm.Good Try.prog x:=fun _ h=>by cases h
 refine⟨⟨aM (aV.env hl) (bd.cz hl) Try.func68 (by kernel_rfl:Try.f68.body=some su) [4] (by kernel_rfl) ?_,_,Try.func68,by kernel_rfl,of_decide_eq_true (by kernel_rfl)⟩,Gm.Spec.aG _ _ _ _⟩
 intro ds outs h
 unfold q68 at h
 split at h
 ·simp only[Option.some.injEq,Prod.mk.injEq] at h;obtain⟨hg,h⟩:=h;cases h;exact KZ _ _ hg
 ·cases h
noncomputable def C0(y0:List af)(y1:List af)(y2:Int):St:=⟨[(0,.c (.one (.ro .item y0))),(1,.c (.one (.ro .item y1))),(5,.c (.one (.v (.int .i64 y2))))],[],[]⟩
noncomputable def C2:St:=⟨[(4,.c (.one (.v (.bool false))))],[],[]⟩
noncomputable def K1(y0:List af)(y1:List af)(y2:Int)(y3:Bool):St:=⟨[(0,.c (.one (.ro .item y0))),(1,.c (.one (.ro .item y1))),(5,.c (.one (.v (.int .i64 y2)))),(14,.c (.one (.v (.bool y3))))],[],[]⟩
noncomputable def BJ:Code:=(Try.f24.body).getD .skip
def Fu:Nat→Kp:=fF [⟨[0,1],[],[],[]⟩,⟨[0,1,10],[],[],[]⟩,⟨[4],[],[],[]⟩,⟨[0,1,5],[],[],[]⟩,⟨[0,1,5,14],[],[],[]⟩,⟨[0,1,5],[],[],[]⟩,⟨[0,1,5,41],[],[],[]⟩,⟨[4],[],[],[]⟩,⟨[4],[],[],[]⟩]
noncomputable def w8:Env:=bd.env [(68,s68)]
noncomputable def sx{R:Type}(n:Nat)(x0:Option R)(x1:Int→Bool→Option R)(wW:List af)(wX:List af):Nat→Int→Option R
  |0,_=>none
  |m+1,wA=>
    (cond (decide (wA<(wW.length:Int)))
   (cond ((decide ((0:Int)≤wA))&&(decide (wA<(wW.length:Int))))
    (cond ((decide ((0:Int)≤wA))&&(decide (wA<(wX.length:Int))))
     (cond ((af.ver (ax (t:= .item) wW (Int.toNat wA))) !=(af.ver (ax (t:= .item) wX (Int.toNat wA))))
      (x0)
      (cond ((decide ((0:Int)≤wA))&&(decide (wA<(wW.length:Int))))
       (cond ((decide ((0:Int)≤wA))&&(decide (wA<(wX.length:Int))))
        (cond ((kx aL) (af.order (ax (t:= .item) wW (Int.toNat wA))) (af.order (ax (t:= .item) wX (Int.toNat wA))))
         (cond (!((fun(_ _:ae)=>true) (af.order (ax (t:= .item) wW (Int.toNat wA))) (af.order (ax (t:= .item) wX (Int.toNat wA)))))
          (x0)
          (sx n x0 x1 wW wX m (IntKind.wrap .i64 (wA+(1:Int)))))
         none)
        none)
       none))
     none)
    none)
   (x1 wA (decide (wA<(wW.length:Int)))))
theorem OJ{R:Type}(n:Nat)(k':Kx R)(wW:List af)(wX:List af)(wA:Int):ev w8 Fu n (cM [1,1,0,1,0,0] BJ) (C0 wW wX wA) k'=
 (cond (decide (wA<(wW.length:Int)))
 (cond ((decide ((0:Int)≤wA))&&(decide (wA<(wW.length:Int))))
 (cond ((decide ((0:Int)≤wA))&&(decide (wA<(wX.length:Int))))
 (cond ((af.ver (ax (t:= .item) wW (Int.toNat wA))) !=(af.ver (ax (t:= .item) wX (Int.toNat wA))))
 (k' .ret C2)
 (cond ((decide ((0:Int)≤wA))&&(decide (wA<(wW.length:Int))))
 (cond ((decide ((0:Int)≤wA))&&(decide (wA<(wX.length:Int))))
 (cond ((kx aL) (af.order (ax (t:= .item) wW (Int.toNat wA))) (af.order (ax (t:= .item) wX (Int.toNat wA))))
 (cond (!((fun(_ _:ae)=>true) (af.order (ax (t:= .item) wW (Int.toNat wA))) (af.order (ax (t:= .item) wX (Int.toNat wA)))))
 (k' .ret C2)
 (k' .normal (C0 wW wX (IntKind.wrap .i64 (wA+(1:Int))))))
 none)
 none)
 none))
 none)
 none)
 (k' (.exit 0) (K1 wW wX wA (decide (wA<(wW.length:Int)))))):=by kernel_rfl
theorem K2{R:Type}(n:Nat)(k':Kx R)(wW:List af)(wX:List af):∀(m:Nat)(wA:Int),iter (fun st k=>ev w8 Fu n (cM [1,1,0,1,0,0] BJ) st k) m (C0 wW wX wA) k'=sx n (k' .ret C2) (fun(wY:Int)(uC:Bool)=>k' (.exit 0) (K1 wW wX wY uC)) wW wX m wA:=by
 intro m;induction m with
 |zero=>intros;rfl
 |succ m ih=>
  intro wA
  simp only[iter]
  rw[OJ]
  simp only[ih,sx]
noncomputable def K3{R:Type}(n:Nat)(k':Kx R):Kx R:=(cL 0 (gd w8 Fu n (cM [1,1,1] BJ) k'))
theorem K4{R:Type}(n:Nat)(k:Kt R)(a0:List af)(a1:List af):K3 n (bt w8 [.ro,.ro] [false] true [.tmp 4] [4] [.d (.sl .item) a0,.d (.sl .item) a1] k) .ret C2=
 (k [.d .bool false]):=by kernel_rfl
theorem K5{R:Type}(n:Nat)(k:Kt R)(a0:List af)(a1:List af)(wW:List af)(wX:List af)(wY:Int)(uC:Bool):K3 n (bt w8 [.ro,.ro] [false] true [.tmp 4] [4] [.d (.sl .item) a0,.d (.sl .item) a1] k) (.exit 0) (K1 wW wX wY uC)=
 (k [.d .bool true]):=by kernel_rfl
theorem OL{R:Type}(n:Nat)(k:Kt R)(a0:List af)(a1:List af):aO w8 Fu n BJ [.ro,.ro] [false] true [.tmp 4] [4] [.d (.sl .item) a0,.d (.sl .item) a1] k=
 (cond ((a0.length:Int) !=(a1.length:Int))
 (k [.d .bool false])
 (sx n (k [.d .bool false]) (fun(wY:Int)(uC:Bool)=>
 (k [.d .bool true])) a0 a1 n (0:Int))):=by
 refine Eq.trans (b:=(cond ((a0.length:Int) !=(a1.length:Int))
 (k [.d .bool false])
 (iter (fun st k=>ev w8 Fu n (cM [1,1,0,1,0,0] BJ) st k) n (C0 a0 a1 (0:Int)) (K3 n (bt w8 [.ro,.ro] [false] true [.tmp 4] [4] [.d (.sl .item) a0,.d (.sl .item) a1] k))))) (by kernel_rfl) ?_
 simp only[K2,K4,K5]
theorem K6(a0:List af)(a1:List af)(hg:kx (gC bn) a0 a1=true):∃keep rounds,∀{R:Type}(k:Kt R),aO w8 keep rounds BJ [.ro,.ro] [false] true [.tmp 4] [4] [.d (.sl .item) a0,.d (.sl .item) a1] k=k [.d .bool ((fun(_ _:List af)=>true) a0 a1)]:=by
 obtain⟨hs,rfl⟩:=l7.1 hg
 have l1:=dU hs
 obtain⟨N,hN⟩:∃N,N=a0.length+1:=⟨_,rfl⟩
 refine⟨Fu,N,fun {R} k=> ?_⟩
 rw[OL]
 simp only[bne_self_eq_false,cond_false]
 show _=k [.d .bool true]
 have K0:∀(X:Option R)(Y:Int→Bool→Option R)(good:Option R),(∀ i b,Y i b=good)→∀d j m,j+d=a0.length→d<m→sx N X Y a0 a0 m (j:Int)=good:=by
  intro X Y good hY d
  induction d with
  |zero=>
   intro j m hj hm
   obtain⟨m,rfl⟩:∃m',m=m'+1:=⟨m-1,by omega⟩
   simp only[sx,decide_eq_false (show ¬((j:Int)<(a0.length:Int)) by omega),cond_false,hY]
  |succ d ih=>
   intro j m hj hm
   obtain⟨m,rfl⟩:∃m',m=m'+1:=⟨m-1,by omega⟩
   have sR:j<a0.length:=by omega
   obtain⟨h1,h0,hw,ht⟩:=idx sR (by omega)
   have ho:kx aL (ax (t:= .item) a0 j).order (ax (t:= .item) a0 j).order=true:=Ay (by
    have:=ND hs j
    simp only[bn,Bool.and_eq_true] at this
    exact this.1)
   simp only[sx,h1,h0,hw,ht,jn,rT,beq_self_eq_true,bne_self_eq_false,Bool.and_self,Bool.not_true,cond_true,cond_false,ho]
   exact ih (j+1) m (by omega) (by omega)
 exact K0 _ _ _ (fun _ _=>rfl) a0.length 0 N (by omega) (by omega)
noncomputable def q24:Qt
 | [.d (.sl .item) a0,.d (.sl .item) a1]=>some (((kx (gC bn)) a0 a1),[.d .bool ((fun(_ _:List af)=>true) a0 a1)])
 |_=>none
noncomputable def s24:Gm.Spec:=Gm.Spec.of [.ro,.ro] [false] true q24
theorem TC:Gm.Good Try.prog (24,s24):=by
 have hl:∀x∈[(68,s68)],Gm.Good Try.prog x:=aU.2 ⟨TB,gD⟩
 refine⟨⟨aM (aV.env hl) (bd.cz hl) Try.func24 (by kernel_rfl:Try.f24.body=some BJ) [4] (by kernel_rfl) ?_,_,Try.func24,by kernel_rfl,of_decide_eq_true (by kernel_rfl)⟩,Gm.Spec.aG _ _ _ _⟩
 intro ds outs h
 unfold q24 at h
 split at h
 ·simp only[Option.some.injEq,Prod.mk.injEq] at h;obtain⟨hg,h⟩:=h;cases h;exact K6 _ _ hg
 ·cases h
noncomputable def C3(y0:Int)(y1:Int)(y2:List Int):St:=⟨[(0,.c (.one (.h 0 0 0 []))),(3,.c (.one (.v (.int .i64 y0)))),(4,.c (.one (.v (.int .i64 y1))))],[],[(0,.live ⟨(.i .u8),.deep,0,[],y2⟩)]⟩
noncomputable def uK(y0:Int)(y1:Int)(y2:Bool)(y3:List Int):St:=⟨[(0,.c (.one (.h 0 0 0 []))),(3,.c (.one (.v (.int .i64 y0)))),(4,.c (.one (.v (.int .i64 y1)))),(15,.c (.one (.v (.bool y2))))],[],[(0,.live ⟨(.i .u8),.deep,0,[],y3⟩)]⟩
noncomputable def w9:Code:=(Try.f59.body).getD .skip
def yR:Nat→Kp:=fF [⟨[0],[],[],[]⟩,⟨[0,3],[],[],[]⟩,⟨[0,3,4],[],[],[]⟩,⟨[0,3,4,15],[],[],[]⟩,⟨[0,3,4],[],[],[]⟩,⟨[0,3,4],[],[],[]⟩,⟨[2],[],[],[]⟩]
noncomputable def sy:Env:=bd.env []
noncomputable def px{R:Type}(n:Nat)(x0:Int→Int→Bool→Option R)(x1:Int→Int→Option R)(wB:List Int):Nat→Int→Int→Option R
  |0,_,_=>none
  |m+1,wD,wA=>
    (cond (decide (wA<(wB.length:Int)))
   (cond (decide (wA<(4000:Int)))
    (cond ((decide ((0:Int)≤wA))&&(decide (wA<(wB.length:Int))))
     (px n x0 x1 wB m (IntKind.wrap .i64 ((BitVec.toNat (BitVec.ofInt (IntKind.bits .i64) (IntKind.wrap .i64 ((IntKind.wrap .i64 ((IntKind.wrap .i64 (wD*(131:Int)))+(IntKind.wrap .i64 (ax (t:=(.i .u8)) wB (Int.toNat wA)))))+(7:Int))) &&& BitVec.ofInt (IntKind.bits .i64) (1073741823:Int)):Nat):Int)) (IntKind.wrap .i64 (wA+(1:Int))))
     none)
    (x0 wD wA (decide (wA<(4000:Int)))))
   (x1 wD wA))
theorem OM{R:Type}(n:Nat)(k':Kx R)(wD:Int)(wA:Int)(wB:List Int):ev sy yR n (cM [1,1,0,1,0,0] w9) (C3 wD wA wB) k'=
 (cond (decide (wA<(wB.length:Int)))
 (cond (decide (wA<(4000:Int)))
 (cond ((decide ((0:Int)≤wA))&&(decide (wA<(wB.length:Int))))
 (k' .normal (C3 (IntKind.wrap .i64 ((BitVec.toNat (BitVec.ofInt (IntKind.bits .i64) (IntKind.wrap .i64 ((IntKind.wrap .i64 ((IntKind.wrap .i64 (wD*(131:Int)))+(IntKind.wrap .i64 (ax (t:=(.i .u8)) wB (Int.toNat wA)))))+(7:Int))) &&& BitVec.ofInt (IntKind.bits .i64) (1073741823:Int)):Nat):Int)) (IntKind.wrap .i64 (wA+(1:Int))) wB))
 none)
 (k' (.exit 0) (uK wD wA (decide (wA<(4000:Int))) wB)))
 (k' (.exit 0) (uK wD wA false wB))):=by kernel_rfl
theorem K7{R:Type}(n:Nat)(k':Kx R)(wB:List Int):∀(m:Nat)(wD:Int)(wA:Int),iter (fun st k=>ev sy yR n (cM [1,1,0,1,0,0] w9) st k) m (C3 wD wA wB) k'=px n (fun(wC:Int)(wE:Int)(wF:Bool)=>k' (.exit 0) (uK wC wE wF wB)) (fun(wC:Int)(wE:Int)=>k' (.exit 0) (uK wC wE false wB)) wB m wD wA:=by
 intro m;induction m with
 |zero=>intros;rfl
 |succ m ih=>
  intro wD wA
  simp only[iter]
  rw[OM]
  simp only[ih,px]
noncomputable def K8{R:Type}(n:Nat)(k':Kx R):Kx R:=(cL 0 (gd sy yR n (cM [1,1,1] w9) k'))
theorem K9{R:Type}(n:Nat)(k:Kt R)(a0:List Int)(wB:List Int)(wC:Int)(wE:Int)(wF:Bool):K8 n (bt sy [.jK] [true] true [.tmp 2] [97] [.d (.sl (.i .u8)) a0] k) (.exit 0) (uK wC wE wF wB)=
 (k [.d .cp (⟨wB,(0:Int),wC⟩:ay)]):=by kernel_rfl
theorem K'{R:Type}(n:Nat)(k:Kt R)(a0:List Int)(wB:List Int)(wC:Int)(wE:Int):K8 n (bt sy [.jK] [true] true [.tmp 2] [97] [.d (.sl (.i .u8)) a0] k) (.exit 0) (uK wC wE false wB)=
 (k [.d .cp (⟨wB,(0:Int),wC⟩:ay)]):=by kernel_rfl
theorem ON{R:Type}(n:Nat)(k:Kt R)(a0:List Int):aO sy yR n w9 [.jK] [true] true [.tmp 2] [97] [.d (.sl (.i .u8)) a0] k=
 (px n (fun(wC:Int)(wE:Int)(wF:Bool)=>
 (k [.d .cp (⟨a0,(0:Int),wC⟩:ay)])) (fun(wC:Int)(wE:Int)=>
 (k [.d .cp (⟨a0,(0:Int),wC⟩:ay)])) a0 n (IntKind.wrap .i64 ((27212:Int)+(a0.length:Int))) (0:Int)):=by
 refine Eq.trans (b:=(iter (fun st k=>ev sy yR n (cM [1,1,0,1,0,0] w9) st k) n (C3 (IntKind.wrap .i64 ((27212:Int)+(a0.length:Int))) (0:Int) a0) (K8 n (bt sy [.jK] [true] true [.tmp 2] [97] [.d (.sl (.i .u8)) a0] k)))) (by kernel_rfl) ?_
 simp only[K7,K9,K']
def QT(a0:List Int)(o:ay):Prop:=(fun _ o=>aZ o=true) a0 o∧∃n:Nat,∀{R:Type}(k:Kt R),aO sy yR n w9 [.jK] [true] true [.tmp 2] [97] [.d (.sl (.i .u8)) a0] k=k [.d .cp o]
theorem TD(a0:List Int)(hg:gy a0=true):∃o:ay,(fun _ o=>aZ o=true) a0 o∧∃n:Nat,∀{R:Type}(k:Kt R),aO sy yR n w9 [.jK] [true] true [.tmp 2] [97] [.d (.sl (.i .u8)) a0] k=k [.d .cp o]:=by
 have hl:a0.length≤1048576:=gT hg
 have key:∀(d:Nat)(m:Nat)(h:Int)(i:Nat),i+d=4000→d<m→∃h':Int,∀{R:Type}(X:Int→Int→Bool→Option R)(Y:Int→Int→Option R)(Z:Int→Option R),(∀ x y z,X x y z=Z x)→(∀ x y,Y x y=Z x)→px 4001 X Y a0 m h (i:Int)=Z h':=by
  intro d
  induction d with
  |zero=>
   intro m h i hi hm
   obtain⟨m,rfl⟩:∃m',m=m'+1:=⟨m-1,by omega⟩
   refine⟨h,fun {R} X Y Z hX hY=> ?_⟩
   simp only[px,decide_eq_false (show ¬((i:Int)<4000) by omega),cond_false]
   cases decide ((i:Int)<(a0.length:Int))<;>simp only[cond_true,cond_false,hX,hY]
  |succ d ih=>
   intro m h i hi hm
   obtain⟨m,rfl⟩:∃m',m=m'+1:=⟨m-1,by omega⟩
   cases hd:decide ((i:Int)<(a0.length:Int))
   ·refine⟨h,fun {R} X Y Z hX hY=> ?_⟩
    simp only[px,hd,cond_false,hY]
   ·obtain⟨h',hh⟩:=ih m _ (i+1) (by omega) (by omega)
    refine⟨h',fun {R} X Y Z hX hY=> ?_⟩
    simp only[px,hd,decide_eq_true (show (i:Int)<4000 by omega),decide_eq_true (show (0:Int)≤(i:Int) by omega),Bool.and_self,cond_true,cC (x:=(i:Int)+1) (by omega) (by omega)]
    exact hh X Y Z hX hY
 obtain⟨h',hh⟩:=key 4000 4001 (IntKind.wrap .i64 ((27212:Int)+(a0.length:Int))) 0 rfl (by omega)
 refine⟨⟨a0,0,h'⟩,nP.2 ⟨Int.le_refl _,hl⟩,4001,fun {R} k=> ?_⟩
 rw[ON]
 exact hh _ _ (fun x=>k [.d .cp ⟨a0,0,x⟩]) (fun _ _ _=>rfl) (fun _ _=>rfl)
theorem La(a0:List Int):Nonempty {o:ay // gy a0=true→QT a0 o}:=by
 by_cases hg:gy a0=true
 ·obtain⟨o,ho⟩:=TD a0 hg
  exact⟨⟨o,fun _=>ho⟩⟩
 ·exact⟨⟨((zero .cp)),fun h=>absurd h hg⟩⟩
noncomputable def mY(a0:List Int):ay:=(Classical.choice (La a0)).val
theorem Lb(a0:List Int)(hg:gy a0=true):QT a0 (mY a0):=(Classical.choice (La a0)).property hg
theorem uL(a0:List Int)(hg:gy a0=true):(fun _ o=>aZ o=true) a0 (mY a0):=(Lb a0 hg).1
theorem ch(a0:List Int)(hg:gy a0=true):aZ (mY a0)=true:=by
  have h:=uL a0 hg
  first | exact h | exact h.2 | exact h.2.2 | exact h.2.2.2
theorem Lc(a0:List Int)(hg:gy a0=true):∃keep rounds,∀{R:Type}(k:Kt R),aO sy keep rounds w9 [.jK] [true] true [.tmp 2] [97] [.d (.sl (.i .u8)) a0] k=k [.d .cp (mY a0)]:=by
 obtain⟨n,hn⟩:=(Lb a0 hg).2
 exact⟨yR,n,hn⟩
noncomputable def q59:Qt
 | [.d (.sl (.i .u8)) a0]=>some ((gy a0),[.d .cp (mY a0)])
 |_=>none
noncomputable def s59:Gm.Spec:=Gm.Spec.of [.jK] [true] true q59
theorem TE:Gm.Good Try.prog (59,s59):=by
 have hl:∀x∈([]:List (Nat×Gm.Spec)),Gm.Good Try.prog x:=fun _ h=>by cases h
 refine⟨⟨aM (aV.env hl) (bd.cz hl) Try.func59 (by kernel_rfl:Try.f59.body=some w9) [97] (by kernel_rfl) ?_,_,Try.func59,by kernel_rfl,of_decide_eq_true (by kernel_rfl)⟩,Gm.Spec.aG _ _ _ _⟩
 intro ds outs h
 unfold q59 at h
 split at h
 ·simp only[Option.some.injEq,Prod.mk.injEq] at h;obtain⟨hg,h⟩:=h;cases h;exact Lc _ hg
 ·cases h
noncomputable def yS:Code:=(Try.f113.body).getD .skip
def C4:Nat→Kp:=fF [⟨[0],[],[],[]⟩,⟨[0],[],[],[]⟩,⟨[0,3],[],[],[]⟩,⟨[0,3,34],[],[],[]⟩,⟨[0,3],[],[],[]⟩,⟨[0,3],[],[],[]⟩,⟨[0,2],[],[],[]⟩]
noncomputable def C5:Env:=bd.env []
theorem yT{R:Type}(n:Nat)(k:Kt R)(a0:ay):aO C5 C4 n yS [.bX] [false] true [.tmp 2] [3] [.d .cp a0] k=
 (cond (decide ((ay.i a0)<((ay.b a0).length:Int)))
 (cond ((decide ((0:Int)≤(ay.i a0)))&&(decide ((ay.i a0)<((ay.b a0).length:Int))))
 (k [.d (.i .i64) (IntKind.wrap .i64 ((BitVec.toNat (BitVec.ofInt (IntKind.bits .i64) (IntKind.wrap .i64 ((IntKind.wrap .i64 ((BitVec.toNat (BitVec.ofInt (IntKind.bits .i64) (IntKind.wrap .i64 ((BitVec.toNat (BitVec.ofInt (IntKind.bits .i64) (Int.fdiv (IntKind.wrap .i64 ((IntKind.wrap .i64 ((ay.h a0)*(6364136223846793005:Int)))+(1442695040888963407:Int))) (2^(min (Int.toNat (33:Int)) (IntKind.bits .i64)))) ^^^ BitVec.ofInt (IntKind.bits .i64) (Int.fdiv (IntKind.wrap .i64 ((IntKind.wrap .i64 ((ay.h a0)*(6364136223846793005:Int)))+(1442695040888963407:Int))) (2^(min (Int.toNat (45:Int)) (IntKind.bits .i64))))):Nat):Int)) &&& BitVec.ofInt (IntKind.bits .i64) (255:Int)):Nat):Int))+(IntKind.wrap .i64 (ax (t:=(.i .u8)) (ay.b a0) (Int.toNat (ay.i a0)))))) &&& BitVec.ofInt (IntKind.bits .i64) (255:Int)):Nat):Int)),.d .cp (⟨(ay.b a0),(IntKind.wrap .i64 ((ay.i a0)+(1:Int))),(IntKind.wrap .i64 ((IntKind.wrap .i64 ((ay.h a0)*(6364136223846793005:Int)))+(1442695040888963407:Int)))⟩:ay)])
 none)
 (k [.d (.i .i64) (IntKind.wrap .i64 ((BitVec.toNat (BitVec.ofInt (IntKind.bits .i64) (IntKind.wrap .i64 ((BitVec.toNat (BitVec.ofInt (IntKind.bits .i64) (Int.fdiv (IntKind.wrap .i64 ((IntKind.wrap .i64 ((ay.h a0)*(6364136223846793005:Int)))+(1442695040888963407:Int))) (2^(min (Int.toNat (33:Int)) (IntKind.bits .i64)))) ^^^ BitVec.ofInt (IntKind.bits .i64) (Int.fdiv (IntKind.wrap .i64 ((IntKind.wrap .i64 ((ay.h a0)*(6364136223846793005:Int)))+(1442695040888963407:Int))) (2^(min (Int.toNat (45:Int)) (IntKind.bits .i64))))):Nat):Int)) &&& BitVec.ofInt (IntKind.bits .i64) (255:Int)):Nat):Int)),.d .cp (⟨(ay.b a0),(ay.i a0),(IntKind.wrap .i64 ((IntKind.wrap .i64 ((ay.h a0)*(6364136223846793005:Int)))+(1442695040888963407:Int)))⟩:ay)])):=by kernel_rfl
def Ld(a0:ay)(o:Int×ay):Prop:=(fun _ o=>(0≤o.1∧o.1≤255)∧aZ o.2=true) a0 o∧∃n:Nat,∀{R:Type}(k:Kt R),aO C5 C4 n yS [.bX] [false] true [.tmp 2] [3] [.d .cp a0] k=k [.d (.i .i64) o.1,.d .cp o.2]
theorem OO(a0:ay)(hg:aZ a0=true):∃o:Int×ay,(fun _ o=>(0≤o.1∧o.1≤255)∧aZ o.2=true) a0 o∧∃n:Nat,∀{R:Type}(k:Kt R),aO C5 C4 n yS [.bX] [false] true [.tmp 2] [3] [.d .cp a0] k=k [.d (.i .i64) o.1,.d .cp o.2]:=by
 obtain⟨h0,hl⟩:=nP.1 hg
 cases hd:decide (ay.i a0<((ay.b a0).length:Int))
 ·refine⟨(?XJ,?XK),?Fv,0,?Fw⟩
  case Fw=>
   intro R k
   rw[yT]
   simp only[hd,Bool.and_self,cond_true,cond_false]
   exact rfl
  case Fv=>exact⟨CI _,nP.2 ⟨h0,hl⟩⟩
 ·have cc:=of_decide_eq_true hd
  refine⟨(?az1,?bz1),?gz1,0,?rz1⟩
  case rz1=>
   intro R k
   rw[yT]
   simp only[hd,decide_eq_true h0,Bool.and_self,cond_true,cond_false]
   exact rfl
  case gz1=>
   refine⟨CI _,nP.2 ⟨?_,hl⟩⟩
   show 0≤IntKind.wrap .i64 (ay.i a0+1)
   rw[cC (by omega) (by omega)];omega
theorem C6(a0:ay):Nonempty {o:Int×ay // aZ a0=true→Ld a0 o}:=by
 by_cases hg:aZ a0=true
 ·obtain⟨o,ho⟩:=OO a0 hg
  exact⟨⟨o,fun _=>ho⟩⟩
 ·exact⟨⟨((zero (.i .i64)),(zero .cp)),fun h=>absurd h hg⟩⟩
noncomputable def cw(a0:ay):Int×ay:=(Classical.choice (C6 a0)).val
theorem C7(a0:ay)(hg:aZ a0=true):Ld a0 (cw a0):=(Classical.choice (C6 a0)).property hg
theorem jt(a0:ay)(hg:aZ a0=true):(fun _ o=>(0≤o.1∧o.1≤255)∧aZ o.2=true) a0 (cw a0):=(C7 a0 hg).1
theorem bJ(a0:ay)(hg:aZ a0=true):aZ (cw a0).2=true:=by
  have h:=jt a0 hg
  first | exact h | exact h.2 | exact h.2.2 | exact h.2.2.2
theorem Fy(a0:ay)(hg:aZ a0=true):∃keep rounds,∀{R:Type}(k:Kt R),aO C5 keep rounds yS [.bX] [false] true [.tmp 2] [3] [.d .cp a0] k=k [.d (.i .i64) ((cw a0).1),.d .cp ((cw a0).2)]:=by
 obtain⟨n,hn⟩:=(C7 a0 hg).2
 exact⟨C4,n,hn⟩
noncomputable def XL:Qt
 | [.d .cp a0]=>some ((aZ a0),[.d (.i .i64) ((cw a0).1),.d .cp ((cw a0).2)])
 |_=>none
noncomputable def TF:Gm.Spec:=Gm.Spec.of [.bX] [false] true XL
theorem OP:Gm.Good Try.prog (113,TF):=by
 have hl:∀x∈([]:List (Nat×Gm.Spec)),Gm.Good Try.prog x:=fun _ h=>by cases h
 refine⟨⟨aM (aV.env hl) (bd.cz hl) Try.func113 (by kernel_rfl:Try.f113.body=some yS) [3] (by kernel_rfl) ?_,_,Try.func113,by kernel_rfl,of_decide_eq_true (by kernel_rfl)⟩,Gm.Spec.aG _ _ _ _⟩
 intro ds outs h
 unfold XL at h
 split at h
 ·simp only[Option.some.injEq,Prod.mk.injEq] at h;obtain⟨hg,h⟩:=h;cases h;exact Fy _ hg
 ·cases h
noncomputable def Le:Code:=(Try.f80.body).getD .skip
def OQ:Nat→Kp:=fF [⟨[0,1],[],[],[]⟩,⟨[0,1,10],[],[],[]⟩,⟨[0,4],[],[],[]⟩,⟨[0,1,12],[],[],[]⟩,⟨[0,4],[],[],[]⟩,⟨[0,1,5],[],[],[]⟩,⟨[0,1,5,6],[],[],[]⟩,⟨[0,1,5,6,7],[],[],[]⟩,⟨[0,1,5,6,7,8],[],[],[]⟩,⟨[0,4],[],[],[]⟩]
noncomputable def OR:Env:=bd.env [(113,TF)]
theorem xb{R:Type}(n:Nat)(k:Kt R)(a0:ay)(a1:Int):aO OR OQ n Le [.bX,.ro] [false] true [.tmp 4] [3] [.d .cp a0,.d (.i .i64) a1] k=
 (cond (decide (a1≤(0:Int)))
 (k [.d (.i .i64) (0:Int),.d .cp a0])
 (cond (decide (a1≤(256:Int)))
 (cond (aZ a0)
 (cond (decide (a1=0))
 none
 (k [.d (.i .i64) (Int.tmod ((cw a0).1) a1),.d .cp ((cw a0).2)]))
 none)
 (cond (aZ a0)
 (cond (aZ ((cw a0).2))
 (cond (aZ ((cw ((cw a0).2)).2))
 (cond (aZ ((cw ((cw ((cw a0).2)).2)).2))
 (cond (decide (a1=0))
 none
 (k [.d (.i .i64) (Int.tmod (IntKind.wrap .i64 ((IntKind.wrap .i64 ((IntKind.wrap .i64 ((IntKind.wrap .i64 (((cw a0).1)*(16777216:Int)))+(IntKind.wrap .i64 (((cw ((cw a0).2)).1)*(65536:Int)))))+(IntKind.wrap .i64 (((cw ((cw ((cw a0).2)).2)).1)*(256:Int)))))+((cw ((cw ((cw ((cw a0).2)).2)).2)).1))) a1),.d .cp ((cw ((cw ((cw ((cw a0).2)).2)).2)).2)]))
 none)
 none)
 none)
 none))):=by kernel_rfl
def QU(a0:ay)(a1:Int)(o:Int×ay):Prop:=(fun _ n o=>0≤o.1∧(0<n→o.1<n)∧aZ o.2=true) a0 a1 o∧∃n:Nat,∀{R:Type}(k:Kt R),aO OR OQ n Le [.bX,.ro] [false] true [.tmp 4] [3] [.d .cp a0,.d (.i .i64) a1] k=k [.d (.i .i64) o.1,.d .cp o.2]
theorem TG(a0:ay)(a1:Int)(hg:(fun c _=>aZ c) a0 a1=true):∃o:Int×ay,(fun _ n o=>0≤o.1∧(0<n→o.1<n)∧aZ o.2=true) a0 a1 o∧∃n:Nat,∀{R:Type}(k:Kt R),aO OR OQ n Le [.bX,.ro] [false] true [.tmp 4] [3] [.d .cp a0,.d (.i .i64) a1] k=k [.d (.i .i64) o.1,.d .cp o.2]:=by
 have hg:aZ a0=true:=hg
 cases h1:decide (a1≤(0:Int))
 ·have hn:=of_decide_eq_false h1
  have hz:decide (a1=0)=false:=decide_eq_false (by omega)
  obtain⟨b1,g1⟩:=jt a0 hg
  cases h2:decide (a1≤(256:Int))
  ·obtain⟨b2,g2⟩:=jt _ g1
   obtain⟨b3,g3⟩:=jt _ g2
   obtain⟨b4,g4⟩:=jt _ g3
   refine⟨(?XJ,?XK),?Fv,0,?Fw⟩
   case Fw=>
    intro R k
    rw[xb]
    simp only[h1,h2,hz,hg,g1,g2,g3,Bool.and_self,cond_true,cond_false]
    exact rfl
   case Fv=>
    have:=CJ (Sm b1 b2 b3 b4) (show 0<a1 by omega)
    exact⟨this.1,fun _=>this.2,g4⟩
  ·refine⟨(?az1,?bz1),?gz1,0,?rz1⟩
   case rz1=>
    intro R k
    rw[xb]
    simp only[h1,h2,hz,hg,Bool.and_self,cond_true,cond_false]
    exact rfl
   case gz1=>
    have:=CJ b1.1 (show 0<a1 by omega)
    exact⟨this.1,fun _=>this.2,g1⟩
 ·have hn:=of_decide_eq_true h1
  refine⟨(?az2,?bz2),?gz2,0,?rz2⟩
  case rz2=>
   intro R k
   rw[xb]
   simp only[h1,Bool.and_self,cond_true,cond_false]
   exact rfl
  case gz2=>exact⟨Int.le_refl _,fun h=>by omega,hg⟩
theorem Lf(a0:ay)(a1:Int):Nonempty {o:Int×ay // (fun c _=>aZ c) a0 a1=true→QU a0 a1 o}:=by
 by_cases hg:(fun c _=>aZ c) a0 a1=true
 ·obtain⟨o,ho⟩:=TG a0 a1 hg
  exact⟨⟨o,fun _=>ho⟩⟩
 ·exact⟨⟨((zero (.i .i64)),(zero .cp)),fun h=>absurd h hg⟩⟩
noncomputable def al(a0:ay)(a1:Int):Int×ay:=(Classical.choice (Lf a0 a1)).val
theorem Lg(a0:ay)(a1:Int)(hg:(fun c _=>aZ c) a0 a1=true):QU a0 a1 (al a0 a1):=(Classical.choice (Lf a0 a1)).property hg
theorem gA(a0:ay)(a1:Int)(hg:(fun c _=>aZ c) a0 a1=true):(fun _ n o=>0≤o.1∧(0<n→o.1<n)∧aZ o.2=true) a0 a1 (al a0 a1):=(Lg a0 a1 hg).1
theorem bu(a0:ay)(a1:Int)(hg:aZ a0=true):aZ (al a0 a1).2=true:=by
  have h:=gA a0 a1 hg
  first | exact h | exact h.2 | exact h.2.2 | exact h.2.2.2
theorem Lh(a0:ay)(a1:Int)(hg:(fun c _=>aZ c) a0 a1=true):∃keep rounds,∀{R:Type}(k:Kt R),aO OR keep rounds Le [.bX,.ro] [false] true [.tmp 4] [3] [.d .cp a0,.d (.i .i64) a1] k=k [.d (.i .i64) ((al a0 a1).1),.d .cp ((al a0 a1).2)]:=by
 obtain⟨n,hn⟩:=(Lg a0 a1 hg).2
 exact⟨OQ,n,hn⟩
noncomputable def q80:Qt
 | [.d .cp a0,.d (.i .i64) a1]=>some (((fun c _=>aZ c) a0 a1),[.d (.i .i64) ((al a0 a1).1),.d .cp ((al a0 a1).2)])
 |_=>none
noncomputable def Fz:Gm.Spec:=Gm.Spec.of [.bX,.ro] [false] true q80
theorem oT:Gm.Good Try.prog (80,Fz):=by
 have hl:∀x∈[(113,TF)],Gm.Good Try.prog x:=aU.2 ⟨OP,gD⟩
 refine⟨⟨aM (aV.env hl) (bd.cz hl) Try.func80 (by kernel_rfl:Try.f80.body=some Le) [3] (by kernel_rfl) ?_,_,Try.func80,by kernel_rfl,of_decide_eq_true (by kernel_rfl)⟩,Gm.Spec.aG _ _ _ _⟩
 intro ds outs h
 unfold q80 at h
 split at h
 ·simp only[Option.some.injEq,Prod.mk.injEq] at h;obtain⟨hg,h⟩:=h;cases h;exact Lh _ _ hg
 ·cases h
noncomputable def Li:Code:=(Try.f82.body).getD .skip
def OS:Nat→Kp:=fF [⟨[0,1],[],[],[]⟩,⟨[0,4],[],[],[]⟩]
noncomputable def OT:Env:=bd.env [(80,Fz)]
theorem OU{R:Type}(n:Nat)(k:Kt R)(a0:ay)(a1:Int):aO OT OS n Li [.bX,.ro] [false] true [.tmp 4] [4] [.d .cp a0,.d (.i .i64) a1] k=
 (cond ((fun c _=>aZ c) a0 a1)
 (k [.d .bool (((al a0 a1).1)==(0:Int)),.d .cp ((al a0 a1).2)])
 none):=by kernel_rfl
def QV(a0:ay)(a1:Int)(o:Bool×ay):Prop:=(fun _ _ o=>aZ o.2=true) a0 a1 o∧∃n:Nat,∀{R:Type}(k:Kt R),aO OT OS n Li [.bX,.ro] [false] true [.tmp 4] [4] [.d .cp a0,.d (.i .i64) a1] k=k [.d .bool o.1,.d .cp o.2]
theorem TH(a0:ay)(a1:Int)(hg:(fun c _=>aZ c) a0 a1=true):∃o:Bool×ay,(fun _ _ o=>aZ o.2=true) a0 a1 o∧∃n:Nat,∀{R:Type}(k:Kt R),aO OT OS n Li [.bX,.ro] [false] true [.tmp 4] [4] [.d .cp a0,.d (.i .i64) a1] k=k [.d .bool o.1,.d .cp o.2]:=by
 have hg:aZ a0=true:=hg
 obtain⟨_,_,g1⟩:=gA a0 a1 hg
 refine⟨(?XJ,?XK),?Fv,0,?Fw⟩
 case Fw=>
  intro R k
  rw[OU]
  simp only[hg,cond_true]
  exact rfl
 case Fv=>exact g1
theorem Lj(a0:ay)(a1:Int):Nonempty {o:Bool×ay // (fun c _=>aZ c) a0 a1=true→QV a0 a1 o}:=by
 by_cases hg:(fun c _=>aZ c) a0 a1=true
 ·obtain⟨o,ho⟩:=TH a0 a1 hg
  exact⟨⟨o,fun _=>ho⟩⟩
 ·exact⟨⟨((zero .bool),(zero .cp)),fun h=>absurd h hg⟩⟩
noncomputable def aN(a0:ay)(a1:Int):Bool×ay:=(Classical.choice (Lj a0 a1)).val
theorem Ll(a0:ay)(a1:Int)(hg:(fun c _=>aZ c) a0 a1=true):QV a0 a1 (aN a0 a1):=(Classical.choice (Lj a0 a1)).property hg
theorem BK(a0:ay)(a1:Int)(hg:(fun c _=>aZ c) a0 a1=true):(fun _ _ o=>aZ o.2=true) a0 a1 (aN a0 a1):=(Ll a0 a1 hg).1
theorem bE(a0:ay)(a1:Int)(hg:aZ a0=true):aZ (aN a0 a1).2=true:=by
  have h:=BK a0 a1 hg
  first | exact h | exact h.2 | exact h.2.2 | exact h.2.2.2
theorem Lm(a0:ay)(a1:Int)(hg:(fun c _=>aZ c) a0 a1=true):∃keep rounds,∀{R:Type}(k:Kt R),aO OT keep rounds Li [.bX,.ro] [false] true [.tmp 4] [4] [.d .cp a0,.d (.i .i64) a1] k=k [.d .bool ((aN a0 a1).1),.d .cp ((aN a0 a1).2)]:=by
 obtain⟨n,hn⟩:=(Ll a0 a1 hg).2
 exact⟨OS,n,hn⟩
noncomputable def q82:Qt
 | [.d .cp a0,.d (.i .i64) a1]=>some (((fun c _=>aZ c) a0 a1),[.d .bool ((aN a0 a1).1),.d .cp ((aN a0 a1).2)])
 |_=>none
noncomputable def XM:Gm.Spec:=Gm.Spec.of [.bX,.ro] [false] true q82
theorem Ln:Gm.Good Try.prog (82,XM):=by
 have hl:∀x∈[(80,Fz)],Gm.Good Try.prog x:=aU.2 ⟨oT,gD⟩
 refine⟨⟨aM (aV.env hl) (bd.cz hl) Try.func82 (by kernel_rfl:Try.f82.body=some Li) [4] (by kernel_rfl) ?_,_,Try.func82,by kernel_rfl,of_decide_eq_true (by kernel_rfl)⟩,Gm.Spec.aG _ _ _ _⟩
 intro ds outs h
 unfold q82 at h
 split at h
 ·simp only[Option.some.injEq,Prod.mk.injEq] at h;obtain⟨hg,h⟩:=h;cases h;exact Lm _ _ hg
 ·cases h
noncomputable def yU:Code:=(Try.f100.body).getD .skip
def C8:Nat→Kp:=fF [⟨[0,1],[],[],[]⟩,⟨[0,4],[],[],[]⟩]
noncomputable def C9:Env:=bd.env [(80,Fz)]
theorem Lo{R:Type}(n:Nat)(k:Kt R)(a0:ay)(a1:List BA):aO C9 C8 n yU [.bX,.ro] [false] true [.tmp 4] [9] [.d .cp a0,.d (.sl .str) a1] k=
 (cond ((fun c _=>aZ c) a0 (a1.length:Int))
 (cond ((decide ((0:Int)≤((al a0 (a1.length:Int)).1)))&&(decide (((al a0 (a1.length:Int)).1)<(a1.length:Int))))
 (k [.d .str (ax (t:= .str) a1 (Int.toNat ((al a0 (a1.length:Int)).1))),.d .cp ((al a0 (a1.length:Int)).2)])
 none)
 none):=by kernel_rfl
def Lp(a0:ay)(a1:List BA)(o:BA×ay):Prop:=(fun _ l o=>o.1∈l∧aZ o.2=true) a0 a1 o∧∃n:Nat,∀{R:Type}(k:Kt R),aO C9 C8 n yU [.bX,.ro] [false] true [.tmp 4] [9] [.d .cp a0,.d (.sl .str) a1] k=k [.d .str o.1,.d .cp o.2]
theorem OV(a0:ay)(a1:List BA)(hg:gZ a0 a1=true):∃o:BA×ay,(fun _ l o=>o.1∈l∧aZ o.2=true) a0 a1 o∧∃n:Nat,∀{R:Type}(k:Kt R),aO C9 C8 n yU [.bX,.ro] [false] true [.tmp 4] [9] [.d .cp a0,.d (.sl .str) a1] k=k [.d .str o.1,.d .cp o.2]:=by
 obtain⟨hg,dP⟩:=Bool.and_eq_true_iff.1 hg
 obtain⟨dP,hl⟩:=Bool.and_eq_true_iff.1 dP
 obtain⟨h0,h1,g1⟩:=gA a0 (a1.length:Int) hg
 have h1:=h1 (HL dP)
 refine⟨(?XJ,?XK),?Fv,0,?Fw⟩
 case Fw=>
  intro R k
  rw[Lo]
  simp only[hg,Qi h0 h1,cond_true]
  exact rfl
 case Fv=>exact⟨CK (t:= .str) h0 h1,g1⟩
theorem C'(a0:ay)(a1:List BA):Nonempty {o:BA×ay // gZ a0 a1=true→Lp a0 a1 o}:=by
 by_cases hg:gZ a0 a1=true
 ·obtain⟨o,ho⟩:=OV a0 a1 hg
  exact⟨⟨o,fun _=>ho⟩⟩
 ·exact⟨⟨((zero .str),(zero .cp)),fun h=>absurd h hg⟩⟩
noncomputable def aC(a0:ay)(a1:List BA):BA×ay:=(Classical.choice (C' a0 a1)).val
theorem Da(a0:ay)(a1:List BA)(hg:gZ a0 a1=true):Lp a0 a1 (aC a0 a1):=(Classical.choice (C' a0 a1)).property hg
theorem kX(a0:ay)(a1:List BA)(hg:gZ a0 a1=true):(fun _ l o=>o.1∈l∧aZ o.2=true) a0 a1 (aC a0 a1):=(Da a0 a1 hg).1
theorem bK(a0:ay)(a1:List BA)(hg:gZ a0 a1=true):aZ (aC a0 a1).2=true:=by
  have h:=kX a0 a1 hg
  first | exact h | exact h.2 | exact h.2.2 | exact h.2.2.2
theorem FA(a0:ay)(a1:List BA)(hg:gZ a0 a1=true):∃keep rounds,∀{R:Type}(k:Kt R),aO C9 keep rounds yU [.bX,.ro] [false] true [.tmp 4] [9] [.d .cp a0,.d (.sl .str) a1] k=k [.d .str ((aC a0 a1).1),.d .cp ((aC a0 a1).2)]:=by
 obtain⟨n,hn⟩:=(Da a0 a1 hg).2
 exact⟨C8,n,hn⟩
noncomputable def XN:Qt
 | [.d .cp a0,.d (.sl .str) a1]=>some ((gZ a0 a1),[.d .str ((aC a0 a1).1),.d .cp ((aC a0 a1).2)])
 |_=>none
noncomputable def xc:Gm.Spec:=Gm.Spec.of [.bX,.ro] [false] true XN
theorem p4:Gm.Good Try.prog (100,xc):=by
 have hl:∀x∈[(80,Fz)],Gm.Good Try.prog x:=aU.2 ⟨oT,gD⟩
 refine⟨⟨aM (aV.env hl) (bd.cz hl) Try.func100 (by kernel_rfl:Try.f100.body=some yU) [9] (by kernel_rfl) ?_,_,Try.func100,by kernel_rfl,of_decide_eq_true (by kernel_rfl)⟩,Gm.Spec.aG _ _ _ _⟩
 intro ds outs h
 unfold XN at h
 split at h
 ·simp only[Option.some.injEq,Prod.mk.injEq] at h;obtain⟨hg,h⟩:=h;cases h;exact FA _ _ hg
 ·cases h
noncomputable def Lq:Code:=(Try.f83.body).getD .skip
def OW:Nat→Kp:=fF [⟨[0,1],[],[],[]⟩,⟨[0,4],[],[],[]⟩]
noncomputable def OX:Env:=bd.env [(80,Fz)]
theorem OY{R:Type}(n:Nat)(k:Kt R)(a0:ay)(a1:List Int):aO OX OW n Lq [.bX,.ro] [false] true [.tmp 4] [3] [.d .cp a0,.d (.sl (.i .i64)) a1] k=
 (cond ((fun c _=>aZ c) a0 (a1.length:Int))
 (cond ((decide ((0:Int)≤((al a0 (a1.length:Int)).1)))&&(decide (((al a0 (a1.length:Int)).1)<(a1.length:Int))))
 (k [.d (.i .i64) (ax (t:=(.i .i64)) a1 (Int.toNat ((al a0 (a1.length:Int)).1))),.d .cp ((al a0 (a1.length:Int)).2)])
 none)
 none):=by kernel_rfl
def QW(a0:ay)(a1:List Int)(o:Int×ay):Prop:=(fun _ l o=>o.1∈l∧aZ o.2=true) a0 a1 o∧∃n:Nat,∀{R:Type}(k:Kt R),aO OX OW n Lq [.bX,.ro] [false] true [.tmp 4] [3] [.d .cp a0,.d (.sl (.i .i64)) a1] k=k [.d (.i .i64) o.1,.d .cp o.2]
theorem TI(a0:ay)(a1:List Int)(hg:fU a0 a1=true):∃o:Int×ay,(fun _ l o=>o.1∈l∧aZ o.2=true) a0 a1 o∧∃n:Nat,∀{R:Type}(k:Kt R),aO OX OW n Lq [.bX,.ro] [false] true [.tmp 4] [3] [.d .cp a0,.d (.sl (.i .i64)) a1] k=k [.d (.i .i64) o.1,.d .cp o.2]:=by
 obtain⟨hg,dP⟩:=Bool.and_eq_true_iff.1 hg
 obtain⟨dP,hl⟩:=Bool.and_eq_true_iff.1 dP
 obtain⟨h0,h1,g1⟩:=gA a0 (a1.length:Int) hg
 have h1:=h1 (HL dP)
 refine⟨(?XJ,?XK),?Fv,0,?Fw⟩
 case Fw=>
  intro R k
  rw[OY]
  simp only[hg,Qi h0 h1,cond_true]
  exact rfl
 case Fv=>exact⟨CK (t:=(.i .i64)) h0 h1,g1⟩
theorem Lr(a0:ay)(a1:List Int):Nonempty {o:Int×ay // fU a0 a1=true→QW a0 a1 o}:=by
 by_cases hg:fU a0 a1=true
 ·obtain⟨o,ho⟩:=TI a0 a1 hg
  exact⟨⟨o,fun _=>ho⟩⟩
 ·exact⟨⟨((zero (.i .i64)),(zero .cp)),fun h=>absurd h hg⟩⟩
noncomputable def aH(a0:ay)(a1:List Int):Int×ay:=(Classical.choice (Lr a0 a1)).val
theorem Ls(a0:ay)(a1:List Int)(hg:fU a0 a1=true):QW a0 a1 (aH a0 a1):=(Classical.choice (Lr a0 a1)).property hg
theorem lL(a0:ay)(a1:List Int)(hg:fU a0 a1=true):(fun _ l o=>o.1∈l∧aZ o.2=true) a0 a1 (aH a0 a1):=(Ls a0 a1 hg).1
theorem bA(a0:ay)(a1:List Int)(hg:fU a0 a1=true):aZ (aH a0 a1).2=true:=by
  have h:=lL a0 a1 hg
  first | exact h | exact h.2 | exact h.2.2 | exact h.2.2.2
theorem Lt(a0:ay)(a1:List Int)(hg:fU a0 a1=true):∃keep rounds,∀{R:Type}(k:Kt R),aO OX keep rounds Lq [.bX,.ro] [false] true [.tmp 4] [3] [.d .cp a0,.d (.sl (.i .i64)) a1] k=k [.d (.i .i64) ((aH a0 a1).1),.d .cp ((aH a0 a1).2)]:=by
 obtain⟨n,hn⟩:=(Ls a0 a1 hg).2
 exact⟨OW,n,hn⟩
theorem df{c:ay}{l:List BA}(hg:aZ c=true)(hn:(!l.isEmpty&&Nat.ble l.length 1048576)=true)(h:(l.all gx)=true):gx (aC c l).1=true:=
  rU (kX c l (bP hg hn)).1 h
theorem dD{c:ay}{l:List Int}(hg:aZ c=true)(hn:(!l.isEmpty&&Nat.ble l.length 1048576)=true)(h:(l.all oF)=true):oF (aH c l).1=true:=
  List.all_eq_true.1 h _ (lL c l (bW hg hn)).1
theorem dE{c:ay}{n:Int}(hg:aZ c=true)(h:0<n)(h2:n≤9223372036854775807):oF (al c n).1=true:=by
 obtain⟨h0,h1,_⟩:=gA c n hg
 have:=h1 h
 exact Hy (by omega) (by omega)
noncomputable def q83:Qt
 | [.d .cp a0,.d (.sl (.i .i64)) a1]=>some ((fU a0 a1),[.d (.i .i64) ((aH a0 a1).1),.d .cp ((aH a0 a1).2)])
 |_=>none
noncomputable def OZ:Gm.Spec:=Gm.Spec.of [.bX,.ro] [false] true q83
theorem xd:Gm.Good Try.prog (83,OZ):=by
 have hl:∀x∈[(80,Fz)],Gm.Good Try.prog x:=aU.2 ⟨oT,gD⟩
 refine⟨⟨aM (aV.env hl) (bd.cz hl) Try.func83 (by kernel_rfl:Try.f83.body=some Lq) [3] (by kernel_rfl) ?_,_,Try.func83,by kernel_rfl,of_decide_eq_true (by kernel_rfl)⟩,Gm.Spec.aG _ _ _ _⟩
 intro ds outs h
 unfold q83 at h
 split at h
 ·simp only[Option.some.injEq,Prod.mk.injEq] at h;obtain⟨hg,h⟩:=h;cases h;exact Lt _ _ hg
 ·cases h
noncomputable def Lu:Code:=(Try.f152.body).getD .skip
def QX:Nat→Kp:=fF [⟨[0],[],[],[]⟩,⟨[0],[],[],[]⟩]
noncomputable def QY:Env:=bd.env []
theorem Lv{R:Type}(n:Nat)(k:Kt R):aO QY QX n Lu [] [false] true [.cell 0 42] [42] [] k=
 (k [.d .aD (⟨(0:Int),(0:Int),(0:Int),(300:Int)⟩:aB)]):=by kernel_rfl
theorem FB:∃keep rounds,∀{R:Type}(k:Kt R),aO QY keep rounds Lu [] [false] true [.cell 0 42] [42] [] k=k [.d .aD vP]:=by
 exact⟨QX,0,fun k=>Lv 0 k⟩
noncomputable def XO:Qt
 | []=>some (true,[.d .aD vP])
 |_=>none
noncomputable def TJ:Gm.Spec:=Gm.Spec.of [] [false] true XO
theorem O0:Gm.Good Try.prog (152,TJ):=by
 have hl:∀x∈([]:List (Nat×Gm.Spec)),Gm.Good Try.prog x:=fun _ h=>by cases h
 refine⟨⟨aM (aV.env hl) (bd.cz hl) Try.func152 (by kernel_rfl:Try.f152.body=some Lu) [42] (by kernel_rfl) ?_,_,Try.func152,by kernel_rfl,of_decide_eq_true (by kernel_rfl)⟩,Gm.Spec.aG _ _ _ _⟩
 intro ds outs h
 unfold XO at h
 split at h
 ·cases h;exact FB
 ·cases h
noncomputable def yV:Code:=(Try.f134.body).getD .skip
def Db:Nat→Kp:=fF [⟨[0],[],[],[]⟩,⟨[0,2],[],[],[]⟩]
noncomputable def Dc:Env:=bd.env [(100,xc)]
theorem Lw{R:Type}(n:Nat)(k:Kt R)(a0:ay):aO Dc Db n yV [.bX] [false] true [.tmp 2] [9] [.d .cp a0] k=
 (cond (gZ a0 ([ByteArray.empty,(bs [97]),(bs [119,101,98]),(bs [116,114,117,101]),(bs [49,50]),(bs [115,97,121,32,34,110,111,34]),(bs [98,97,99,107,92]),(bs [97,58,32,98]),(bs [45,32,120]),(bs [35]),(bs [53,109]),(bs [110,117,108,108]),(bs [32,120])]:List BA))
 (k [.d .str ((aC a0 ([ByteArray.empty,(bs [97]),(bs [119,101,98]),(bs [116,114,117,101]),(bs [49,50]),(bs [115,97,121,32,34,110,111,34]),(bs [98,97,99,107,92]),(bs [97,58,32,98]),(bs [45,32,120]),(bs [35]),(bs [53,109]),(bs [110,117,108,108]),(bs [32,120])]:List BA)).1),.d .cp ((aC a0 ([ByteArray.empty,(bs [97]),(bs [119,101,98]),(bs [116,114,117,101]),(bs [49,50]),(bs [115,97,121,32,34,110,111,34]),(bs [98,97,99,107,92]),(bs [97,58,32,98]),(bs [45,32,120]),(bs [35]),(bs [53,109]),(bs [110,117,108,108]),(bs [32,120])]:List BA)).2)])
 none):=by kernel_rfl
def Lx(a0:ay)(o:BA×ay):Prop:=(fun _ o=>gx o.1=true∧aZ o.2=true) a0 o∧∃n:Nat,∀{R:Type}(k:Kt R),aO Dc Db n yV [.bX] [false] true [.tmp 2] [9] [.d .cp a0] k=k [.d .str o.1,.d .cp o.2]
theorem O1(a0:ay)(hg:aZ a0=true):∃o:BA×ay,(fun _ o=>gx o.1=true∧aZ o.2=true) a0 o∧∃n:Nat,∀{R:Type}(k:Kt R),aO Dc Db n yV [.bX] [false] true [.tmp 2] [9] [.d .cp a0] k=k [.d .str o.1,.d .cp o.2]:=by
 refine⟨(?aaq,?aar),?gx0,0,?rx0⟩
 case rx0=>
  intro R k
  rw[Lw]
  simp (decide:=true) (maxDischargeDepth:=60) only[hg,ch,bJ,bu,bE,bK,bA,bP,bW,cond_true,cond_false,Bool.not_true,Bool.not_false]
  exact rfl
 case gx0=>
  simp (decide:=true) (maxDischargeDepth:=60) only[hg,ch,bJ,bu,bE,bK,bA,df,dD,dv,dE,aY,dV,cD,Bool.and_eq_true,and_self,true_and,and_true,bP,bW]
theorem Dd(a0:ay):Nonempty {o:BA×ay // aZ a0=true→Lx a0 o}:=by
 by_cases hg:aZ a0=true
 ·obtain⟨o,ho⟩:=O1 a0 hg
  exact⟨⟨o,fun _=>ho⟩⟩
 ·exact⟨⟨((zero .str),(zero .cp)),fun h=>absurd h hg⟩⟩
noncomputable def hC(a0:ay):BA×ay:=(Classical.choice (Dd a0)).val
theorem De(a0:ay)(hg:aZ a0=true):Lx a0 (hC a0):=(Classical.choice (Dd a0)).property hg
theorem yW(a0:ay)(hg:aZ a0=true):(fun _ o=>gx o.1=true∧aZ o.2=true) a0 (hC a0):=(De a0 hg).1
theorem cP(a0:ay)(hg:aZ a0=true):aZ (hC a0).2=true:=by
  have h:=yW a0 hg
  first | exact h | exact h.2 | exact h.2.2 | exact h.2.2.2
theorem FC(a0:ay)(hg:aZ a0=true):∃keep rounds,∀{R:Type}(k:Kt R),aO Dc keep rounds yV [.bX] [false] true [.tmp 2] [9] [.d .cp a0] k=k [.d .str ((hC a0).1),.d .cp ((hC a0).2)]:=by
 obtain⟨n,hn⟩:=(De a0 hg).2
 exact⟨Db,n,hn⟩
noncomputable def XP:Qt
 | [.d .cp a0]=>some ((aZ a0),[.d .str ((hC a0).1),.d .cp ((hC a0).2)])
 |_=>none
noncomputable def TL:Gm.Spec:=Gm.Spec.of [.bX] [false] true XP
theorem O2:Gm.Good Try.prog (134,TL):=by
 have hl:∀x∈[(100,xc)],Gm.Good Try.prog x:=aU.2 ⟨p4,gD⟩
 refine⟨⟨aM (aV.env hl) (bd.cz hl) Try.func134 (by kernel_rfl:Try.f134.body=some yV) [9] (by kernel_rfl) ?_,_,Try.func134,by kernel_rfl,of_decide_eq_true (by kernel_rfl)⟩,Gm.Spec.aG _ _ _ _⟩
 intro ds outs h
 unfold XP at h
 split at h
 ·simp only[Option.some.injEq,Prod.mk.injEq] at h;obtain⟨hg,h⟩:=h;cases h;exact FC _ hg
 ·cases h
noncomputable def yX:Code:=(Try.f101.body).getD .skip
def Df:Nat→Kp:=fF [⟨[0,2],[],[],[]⟩,⟨[0,2,3],[],[],[]⟩,⟨[0,2,3,4],[],[],[]⟩,⟨[0,2],[],[],[]⟩]
noncomputable def Dg:Env:=bd.env [(80,Fz),(83,OZ),(100,xc)]
theorem Ly{R:Type}(n:Nat)(k:Kt R)(a0:ay):aO Dg Df n yX [.bX] [false] true [.cell 2 132] [132] [.d .cp a0] k=
 (cond (gZ a0 ([(bs [99,112,117]),(bs [109,101,109]),(bs [113,117,101,117,101]),(bs [104,105,116,115])]:List BA))
 (cond ((fun c _=>aZ c) ((aC a0 ([(bs [99,112,117]),(bs [109,101,109]),(bs [113,117,101,117,101]),(bs [104,105,116,115])]:List BA)).2) (3:Int))
 (cond (fU ((al ((aC a0 ([(bs [99,112,117]),(bs [109,101,109]),(bs [113,117,101,117,101]),(bs [104,105,116,115])]:List BA)).2) (3:Int)).2) ([(1:Int),(500:Int),(700:Int),(800:Int),(805:Int),(1000:Int),(50000:Int),(1000000:Int)]:List Int))
 (k [.d .aw (⟨((aC a0 ([(bs [99,112,117]),(bs [109,101,109]),(bs [113,117,101,117,101]),(bs [104,105,116,115])]:List BA)).1),(IntKind.wrap .i64 ((1:Int)+((al ((aC a0 ([(bs [99,112,117]),(bs [109,101,109]),(bs [113,117,101,117,101]),(bs [104,105,116,115])]:List BA)).2) (3:Int)).1))),((aH ((al ((aC a0 ([(bs [99,112,117]),(bs [109,101,109]),(bs [113,117,101,117,101]),(bs [104,105,116,115])]:List BA)).2) (3:Int)).2) ([(1:Int),(500:Int),(700:Int),(800:Int),(805:Int),(1000:Int),(50000:Int),(1000000:Int)]:List Int)).1)⟩:aj),.d .cp ((aH ((al ((aC a0 ([(bs [99,112,117]),(bs [109,101,109]),(bs [113,117,101,117,101]),(bs [104,105,116,115])]:List BA)).2) (3:Int)).2) ([(1:Int),(500:Int),(700:Int),(800:Int),(805:Int),(1000:Int),(50000:Int),(1000000:Int)]:List Int)).2)])
 none)
 none)
 none):=by kernel_rfl
def Lz(a0:ay)(o:aj×ay):Prop:=(fun _ o=>aY o.1=true∧aZ o.2=true) a0 o∧∃n:Nat,∀{R:Type}(k:Kt R),aO Dg Df n yX [.bX] [false] true [.cell 2 132] [132] [.d .cp a0] k=k [.d .aw o.1,.d .cp o.2]
theorem O3(a0:ay)(hg:aZ a0=true):∃o:aj×ay,(fun _ o=>aY o.1=true∧aZ o.2=true) a0 o∧∃n:Nat,∀{R:Type}(k:Kt R),aO Dg Df n yX [.bX] [false] true [.cell 2 132] [132] [.d .cp a0] k=k [.d .aw o.1,.d .cp o.2]:=by
 refine⟨(?aaq,?aar),?gx0,0,?rx0⟩
 case rx0=>
  intro R k
  rw[Ly]
  simp (decide:=true) (maxDischargeDepth:=60) only[hg,ch,bJ,bu,bE,bK,bA,cP,bP,bW,cond_true,cond_false,Bool.not_true,Bool.not_false]
  exact rfl
 case gx0=>
  simp (decide:=true) (maxDischargeDepth:=60) only[hg,ch,bJ,bu,bE,bK,bA,cP,df,dD,dv,dE,aY,dV,cD,Bool.and_eq_true,and_self,true_and,and_true,bP,bW]
theorem Dh(a0:ay):Nonempty {o:aj×ay // aZ a0=true→Lz a0 o}:=by
 by_cases hg:aZ a0=true
 ·obtain⟨o,ho⟩:=O3 a0 hg
  exact⟨⟨o,fun _=>ho⟩⟩
 ·exact⟨⟨((zero .aw),(zero .cp)),fun h=>absurd h hg⟩⟩
noncomputable def iL(a0:ay):aj×ay:=(Classical.choice (Dh a0)).val
theorem Di(a0:ay)(hg:aZ a0=true):Lz a0 (iL a0):=(Classical.choice (Dh a0)).property hg
theorem xe(a0:ay)(hg:aZ a0=true):(fun _ o=>aY o.1=true∧aZ o.2=true) a0 (iL a0):=(Di a0 hg).1
theorem dW(a0:ay)(hg:aZ a0=true):aZ (iL a0).2=true:=by
  have h:=xe a0 hg
  first | exact h | exact h.2 | exact h.2.2 | exact h.2.2.2
theorem FD(a0:ay)(hg:aZ a0=true):∃keep rounds,∀{R:Type}(k:Kt R),aO Dg keep rounds yX [.bX] [false] true [.cell 2 132] [132] [.d .cp a0] k=k [.d .aw ((iL a0).1),.d .cp ((iL a0).2)]:=by
 obtain⟨n,hn⟩:=(Di a0 hg).2
 exact⟨Df,n,hn⟩
noncomputable def XQ:Qt
 | [.d .cp a0]=>some ((aZ a0),[.d .aw ((iL a0).1),.d .cp ((iL a0).2)])
 |_=>none
noncomputable def LA:Gm.Spec:=Gm.Spec.of [.bX] [false] true XQ
theorem Dj:Gm.Good Try.prog (101,LA):=by
 have hl:∀x∈[(80,Fz),(83,OZ),(100,xc)],Gm.Good Try.prog x:=aU.2 ⟨oT,aU.2 ⟨xd,aU.2 ⟨p4,gD⟩⟩⟩
 refine⟨⟨aM (aV.env hl) (bd.cz hl) Try.func101 (by kernel_rfl:Try.f101.body=some yX) [132] (by kernel_rfl) ?_,_,Try.func101,by kernel_rfl,of_decide_eq_true (by kernel_rfl)⟩,Gm.Spec.aG _ _ _ _⟩
 intro ds outs h
 unfold XQ at h
 split at h
 ·simp only[Option.some.injEq,Prod.mk.injEq] at h;obtain⟨hg,h⟩:=h;cases h;exact FD _ hg
 ·cases h
noncomputable def yY:Code:=(Try.f133.body).getD .skip
def Dk:Nat→Kp:=fF [⟨[0,2],[],[],[]⟩,⟨[0,2,7],[],[],[]⟩,⟨[0,2],[],[],[]⟩,⟨[0,2,3],[],[],[]⟩,⟨[0,2,3,4],[],[],[]⟩,⟨[0,2,3,4,5],[],[],[]⟩,⟨[0,2],[],[],[]⟩]
noncomputable def Dm:Env:=bd.env [(82,XM),(83,OZ),(152,TJ)]
theorem yZ{R:Type}(n:Nat)(k:Kt R)(a0:ay):aO Dm Dk n yY [.bX] [false] true [.cell 2 42] [42] [.d .cp a0] k=
 (cond ((fun c _=>aZ c) a0 (3:Int))
 (cond ((aN a0 (3:Int)).1)
 (k [.d .aD vP,.d .cp ((aN a0 (3:Int)).2)])
 (cond (fU ((aN a0 (3:Int)).2) ([(0:Int),(1:Int),(4:Int)]:List Int))
 (cond (fU ((aH ((aN a0 (3:Int)).2) ([(0:Int),(1:Int),(4:Int)]:List Int)).2) ([(0:Int),(1:Int),(2:Int)]:List Int))
 (cond (fU ((aH ((aH ((aN a0 (3:Int)).2) ([(0:Int),(1:Int),(4:Int)]:List Int)).2) ([(0:Int),(1:Int),(2:Int)]:List Int)).2) ([(0:Int),(30:Int),(60:Int)]:List Int))
 (cond (fU ((aH ((aH ((aH ((aN a0 (3:Int)).2) ([(0:Int),(1:Int),(4:Int)]:List Int)).2) ([(0:Int),(1:Int),(2:Int)]:List Int)).2) ([(0:Int),(30:Int),(60:Int)]:List Int)).2) ([(0:Int),(60:Int),(300:Int),(3600:Int)]:List Int))
 (k [.d .aD (⟨((aH ((aN a0 (3:Int)).2) ([(0:Int),(1:Int),(4:Int)]:List Int)).1),((aH ((aH ((aN a0 (3:Int)).2) ([(0:Int),(1:Int),(4:Int)]:List Int)).2) ([(0:Int),(1:Int),(2:Int)]:List Int)).1),((aH ((aH ((aH ((aN a0 (3:Int)).2) ([(0:Int),(1:Int),(4:Int)]:List Int)).2) ([(0:Int),(1:Int),(2:Int)]:List Int)).2) ([(0:Int),(30:Int),(60:Int)]:List Int)).1),((aH ((aH ((aH ((aH ((aN a0 (3:Int)).2) ([(0:Int),(1:Int),(4:Int)]:List Int)).2) ([(0:Int),(1:Int),(2:Int)]:List Int)).2) ([(0:Int),(30:Int),(60:Int)]:List Int)).2) ([(0:Int),(60:Int),(300:Int),(3600:Int)]:List Int)).1)⟩:aB),.d .cp ((aH ((aH ((aH ((aH ((aN a0 (3:Int)).2) ([(0:Int),(1:Int),(4:Int)]:List Int)).2) ([(0:Int),(1:Int),(2:Int)]:List Int)).2) ([(0:Int),(30:Int),(60:Int)]:List Int)).2) ([(0:Int),(60:Int),(300:Int),(3600:Int)]:List Int)).2)])
 none)
 none)
 none)
 none))
 none):=by kernel_rfl
def LB(a0:ay)(o:aB×ay):Prop:=(fun _ o=>dV o.1=true∧aZ o.2=true) a0 o∧∃n:Nat,∀{R:Type}(k:Kt R),aO Dm Dk n yY [.bX] [false] true [.cell 2 42] [42] [.d .cp a0] k=k [.d .aD o.1,.d .cp o.2]
theorem O4(a0:ay)(hg:aZ a0=true):∃o:aB×ay,(fun _ o=>dV o.1=true∧aZ o.2=true) a0 o∧∃n:Nat,∀{R:Type}(k:Kt R),aO Dm Dk n yY [.bX] [false] true [.cell 2 42] [42] [.d .cp a0] k=k [.d .aD o.1,.d .cp o.2]:=by
 cases e0:((aN a0 (3:Int)).1)
 ·skip
  refine⟨(?aez,?aeA),?gx1,0,?rx1⟩
  case rx1=>
   intro R k
   rw[yZ]
   simp (decide:=true) (maxDischargeDepth:=60) only[hg,ch,bJ,bu,bE,bK,bA,cP,dW,bP,bW,cond_true,cond_false,Bool.not_true,Bool.not_false,e0]
   exact rfl
  case gx1=>
   simp (decide:=true) (maxDischargeDepth:=60) only[hg,ch,bJ,bu,bE,bK,bA,cP,dW,df,dD,dv,dE,aY,dV,cD,Bool.and_eq_true,and_self,true_and,and_true,bP,bW,e0]
 refine⟨(?aeD,?aeE),?gx2,0,?rx2⟩
 case rx2=>
  intro R k
  rw[yZ]
  simp (decide:=true) (maxDischargeDepth:=60) only[hg,ch,bJ,bu,bE,bK,bA,cP,dW,bP,bW,cond_true,cond_false,Bool.not_true,Bool.not_false,e0]
  exact rfl
 case gx2=>
  simp (decide:=true) (maxDischargeDepth:=60) only[hg,ch,bJ,bu,bE,bK,bA,cP,dW,df,dD,dv,dE,aY,dV,cD,Bool.and_eq_true,and_self,true_and,and_true,bP,bW,e0]
theorem Dn(a0:ay):Nonempty {o:aB×ay // aZ a0=true→LB a0 o}:=by
 by_cases hg:aZ a0=true
 ·obtain⟨o,ho⟩:=O4 a0 hg
  exact⟨⟨o,fun _=>ho⟩⟩
 ·exact⟨⟨((zero .aD),(zero .cp)),fun h=>absurd h hg⟩⟩
noncomputable def eF(a0:ay):aB×ay:=(Classical.choice (Dn a0)).val
theorem Dp(a0:ay)(hg:aZ a0=true):LB a0 (eF a0):=(Classical.choice (Dn a0)).property hg
theorem za(a0:ay)(hg:aZ a0=true):(fun _ o=>dV o.1=true∧aZ o.2=true) a0 (eF a0):=(Dp a0 hg).1
theorem dF(a0:ay)(hg:aZ a0=true):aZ (eF a0).2=true:=by
  have h:=za a0 hg
  first | exact h | exact h.2 | exact h.2.2 | exact h.2.2.2
theorem FE(a0:ay)(hg:aZ a0=true):∃keep rounds,∀{R:Type}(k:Kt R),aO Dm keep rounds yY [.bX] [false] true [.cell 2 42] [42] [.d .cp a0] k=k [.d .aD ((eF a0).1),.d .cp ((eF a0).2)]:=by
 obtain⟨n,hn⟩:=(Dp a0 hg).2
 exact⟨Dk,n,hn⟩
noncomputable def XR:Qt
 | [.d .cp a0]=>some ((aZ a0),[.d .aD ((eF a0).1),.d .cp ((eF a0).2)])
 |_=>none
noncomputable def TM:Gm.Spec:=Gm.Spec.of [.bX] [false] true XR
theorem O5:Gm.Good Try.prog (133,TM):=by
 have hl:∀x∈[(82,XM),(83,OZ),(152,TJ)],Gm.Good Try.prog x:=aU.2 ⟨Ln,aU.2 ⟨xd,aU.2 ⟨O0,gD⟩⟩⟩
 refine⟨⟨aM (aV.env hl) (bd.cz hl) Try.func133 (by kernel_rfl:Try.f133.body=some yY) [42] (by kernel_rfl) ?_,_,Try.func133,by kernel_rfl,of_decide_eq_true (by kernel_rfl)⟩,Gm.Spec.aG _ _ _ _⟩
 intro ds outs h
 unfold XR at h
 split at h
 ·simp only[Option.some.injEq,Prod.mk.injEq] at h;obtain⟨hg,h⟩:=h;cases h;exact FE _ hg
 ·cases h
noncomputable def zb(y0:Int)(y1:Int)(y2:Int)(wa:BA)(sb:BA)(tq:Int)(wy:Int)(wz:Int)(w3:Int)(w4:Int)(w5:Int)(w6:List Int)(w7:List aj)(BI:List BA):St:=⟨[(0,.c (.one (.pt 0 0))),(2,.c (.one (.pt 2 0))),(4,.c (.one (.pt 4 0))),(5,.c (.one (.h 1792 0 0 []))),(6,.c (.one (.v (.int .i64 y0))))],[(0,⟨.cp,[.h 0 0 0 [],.v (.int .i64 y1),.v (.int .i64 y2)]⟩),(2,⟨.order,[.v (.string ByteArray.empty),.v (.string ByteArray.empty),.v (.int .i64 (0:Int)),.v (.int .i64 (0:Int)),.nl,.v (.int .i64 (0:Int)),.v (.int .i64 (0:Int)),.v (.int .i64 (0:Int)),.v (.int .i64 (0:Int)),.nl]⟩),(4,⟨.order,[.v (.string wa),.v (.string sb),.v (.int .i64 tq),.v (.int .i64 wy),.h 260 0 0 [],.v (.int .i64 wz),.v (.int .i64 w3),.v (.int .i64 w4),.v (.int .i64 w5),.nl]⟩)],[(0,.live ⟨(.i .u8),.deep,0,[],w6⟩),(260,.live ⟨.aw,.deep,0,[],w7⟩),(1792,.live ⟨.str,.deep,0,[],BI⟩)]⟩
noncomputable def LC(y0:Int)(y1:Bool)(y2:Int)(y3:Int)(sb:BA)(tq:BA)(wy:Int)(wz:Int)(w3:Int)(w4:Int)(w5:Int)(w6:Int)(w7:List Int)(BI:List aj)(TN:List BA):St:=⟨[(0,.c (.one (.pt 0 0))),(2,.c (.one (.pt 2 0))),(4,.c (.one (.pt 4 0))),(5,.c (.one (.h 1792 0 0 []))),(6,.c (.one (.v (.int .i64 y0)))),(32,.c (.one (.v (.bool y1))))],[(0,⟨.cp,[.h 0 0 0 [],.v (.int .i64 y2),.v (.int .i64 y3)]⟩),(2,⟨.order,[.v (.string ByteArray.empty),.v (.string ByteArray.empty),.v (.int .i64 (0:Int)),.v (.int .i64 (0:Int)),.nl,.v (.int .i64 (0:Int)),.v (.int .i64 (0:Int)),.v (.int .i64 (0:Int)),.v (.int .i64 (0:Int)),.nl]⟩),(4,⟨.order,[.v (.string sb),.v (.string tq),.v (.int .i64 wy),.v (.int .i64 wz),.h 260 0 0 [],.v (.int .i64 w3),.v (.int .i64 w4),.v (.int .i64 w5),.v (.int .i64 w6),.nl]⟩)],[(0,.live ⟨(.i .u8),.deep,0,[],w7⟩),(260,.live ⟨.aw,.deep,0,[],BI⟩),(1792,.live ⟨.str,.deep,0,[],TN⟩)]⟩
noncomputable def zc(y0:Int)(y1:Int)(y2:Int)(wa:BA)(sb:BA)(tq:Int)(wy:Int)(wz:Int)(w3:Int)(w4:Int)(w5:Int)(w6:List Int)(w7:List aj)(BI:List aF)(TN:List BA):St:=⟨[(0,.c (.one (.pt 0 0))),(2,.c (.one (.pt 2 0))),(4,.c (.one (.pt 4 0))),(8,.c (.one (.h 3200 0 0 []))),(9,.c (.one (.v (.int .i64 y0))))],[(0,⟨.cp,[.h 0 0 0 [],.v (.int .i64 y1),.v (.int .i64 y2)]⟩),(2,⟨.order,[.v (.string ByteArray.empty),.v (.string ByteArray.empty),.v (.int .i64 (0:Int)),.v (.int .i64 (0:Int)),.nl,.v (.int .i64 (0:Int)),.v (.int .i64 (0:Int)),.v (.int .i64 (0:Int)),.v (.int .i64 (0:Int)),.nl]⟩),(4,⟨.order,[.v (.string wa),.v (.string sb),.v (.int .i64 tq),.v (.int .i64 wy),.h 260 0 0 [],.v (.int .i64 wz),.v (.int .i64 w3),.v (.int .i64 w4),.v (.int .i64 w5),.h 265 0 0 []]⟩)],[(0,.live ⟨(.i .u8),.deep,0,[],w6⟩),(260,.live ⟨.aw,.deep,0,[],w7⟩),(265,.live ⟨.note,.deep,0,[],BI⟩),(3200,.live ⟨.str,.deep,0,[],TN⟩)]⟩
noncomputable def LD(y0:Int)(y1:Bool)(y2:Int)(y3:Int)(sb:BA)(tq:BA)(wy:Int)(wz:Int)(w3:Int)(w4:Int)(w5:Int)(w6:Int)(w7:List Int)(BI:List aj)(TN:List aF)(y23:List BA):St:=⟨[(0,.c (.one (.pt 0 0))),(2,.c (.one (.pt 2 0))),(4,.c (.one (.pt 4 0))),(8,.c (.one (.h 3200 0 0 []))),(9,.c (.one (.v (.int .i64 y0)))),(54,.c (.one (.v (.bool y1))))],[(0,⟨.cp,[.h 0 0 0 [],.v (.int .i64 y2),.v (.int .i64 y3)]⟩),(2,⟨.order,[.v (.string ByteArray.empty),.v (.string ByteArray.empty),.v (.int .i64 (0:Int)),.v (.int .i64 (0:Int)),.nl,.v (.int .i64 (0:Int)),.v (.int .i64 (0:Int)),.v (.int .i64 (0:Int)),.v (.int .i64 (0:Int)),.nl]⟩),(4,⟨.order,[.v (.string sb),.v (.string tq),.v (.int .i64 wy),.v (.int .i64 wz),.h 260 0 0 [],.v (.int .i64 w3),.v (.int .i64 w4),.v (.int .i64 w5),.v (.int .i64 w6),.h 265 0 0 []]⟩)],[(0,.live ⟨(.i .u8),.deep,0,[],w7⟩),(260,.live ⟨.aw,.deep,0,[],BI⟩),(265,.live ⟨.note,.deep,0,[],TN⟩),(3200,.live ⟨.str,.deep,0,[],y23⟩)]⟩
noncomputable def oU:Code:=(Try.f99.body).getD .skip
def pJ:Nat→Kp:=fF [⟨[0,2],[],[],[]⟩,⟨[0,2,3],[],[],[]⟩,⟨[0,2,4],[],[],[]⟩,⟨[0,2,4,5],[],[],[]⟩,⟨[0,2,4,5,6],[⟨true,false,4,4,.aw⟩],[],[]⟩,⟨[0,2,4,5,6,32],[],[],[]⟩,⟨[0,2,4,5,6],[],[],[]⟩,⟨[0,2,4,5,6,36],[],[],[]⟩,⟨[0,2,4,5,6,7],[],[],[]⟩,⟨[0,2,4,5,6,7],[],[],[]⟩,⟨[0,2,4,5,6],[],[],[]⟩,⟨[0,2,4,8],[],[],[]⟩,⟨[0,2,4,8,9],[⟨true,false,4,9,.note⟩],[],[]⟩,⟨[0,2,4,8,9,54],[],[],[]⟩,⟨[0,2,4,8,9],[],[],[]⟩,⟨[0,2,4,8,9,58],[],[],[]⟩,⟨[0,2,4,8,9],[],[],[]⟩,⟨[0,2],[],[],[]⟩]
noncomputable def mn:Env:=bd.env [(80,Fz),(82,XM),(83,OZ),(100,xc),(101,LA),(133,TM),(134,TL)]
noncomputable def nW{R:Type}(n:Nat)(x0:Int→Bool→Int→Int→(List Int)→(List aj)→Option R)(wD:BA)(wE:BA)(wF:Int)(wG:Int)(wH:Int)(wI:Int)(wJ:Int)(wK:Int)(wO:List BA):Nat→Int→Int→Int→(List Int)→(List aj)→Option R
  |0,_,_,_,_,_=>none
  |m+1,wM,wA,wB,wC,wL=>
    (cond (decide (wM<(wO.length:Int)))
   (cond ((fun c _=>aZ c) (⟨wC,wA,wB⟩:ay) (2:Int))
    (cond ((aN (⟨wC,wA,wB⟩:ay) (2:Int)).1)
     (cond (aZ ((aN (⟨wC,wA,wB⟩:ay) (2:Int)).2))
      (cond ((decide ((0:Int)≤wM))&&(decide (wM<(wO.length:Int))))
       (cond (Nat.ble (wL.length+1) fO)
        (nW n x0 wD wE wF wG wH wI wJ wK wO m (IntKind.wrap .i64 (wM+(1:Int))) (ay.i ((iL ((aN (⟨wC,wA,wB⟩:ay) (2:Int)).2)).2)) (ay.h ((iL ((aN (⟨wC,wA,wB⟩:ay) (2:Int)).2)).2)) (ay.b ((iL ((aN (⟨wC,wA,wB⟩:ay) (2:Int)).2)).2)) (wL++([(⟨(ax (t:= .str) wO (Int.toNat wM)),(aj.kind ((iL ((aN (⟨wC,wA,wB⟩:ay) (2:Int)).2)).1)),(aj.goal ((iL ((aN (⟨wC,wA,wB⟩:ay) (2:Int)).2)).1))⟩:aj)]:List aj)))
        none)
       none)
      none)
     (nW n x0 wD wE wF wG wH wI wJ wK wO m (IntKind.wrap .i64 (wM+(1:Int))) (ay.i ((aN (⟨wC,wA,wB⟩:ay) (2:Int)).2)) (ay.h ((aN (⟨wC,wA,wB⟩:ay) (2:Int)).2)) (ay.b ((aN (⟨wC,wA,wB⟩:ay) (2:Int)).2)) wL))
    none)
   (x0 wM (decide (wM<(wO.length:Int))) wA wB wC wL))
theorem O6{R:Type}(n:Nat)(k':Kx R)(wM:Int)(wA:Int)(wB:Int)(wD:BA)(wE:BA)(wF:Int)(wG:Int)(wH:Int)(wI:Int)(wJ:Int)(wK:Int)(wC:List Int)(wL:List aj)(wO:List BA):ev mn pJ n (cM [1,1,1,1,0,1,0,0] oU) (zb wM wA wB wD wE wF wG wH wI wJ wK wC wL wO) k'=
 (cond (decide (wM<(wO.length:Int)))
 (cond ((fun c _=>aZ c) (⟨wC,wA,wB⟩:ay) (2:Int))
 (cond ((aN (⟨wC,wA,wB⟩:ay) (2:Int)).1)
 (cond (aZ ((aN (⟨wC,wA,wB⟩:ay) (2:Int)).2))
 (cond ((decide ((0:Int)≤wM))&&(decide (wM<(wO.length:Int))))
 (cond (Nat.ble (wL.length+1) fO)
 (k' .normal (zb (IntKind.wrap .i64 (wM+(1:Int))) (ay.i ((iL ((aN (⟨wC,wA,wB⟩:ay) (2:Int)).2)).2)) (ay.h ((iL ((aN (⟨wC,wA,wB⟩:ay) (2:Int)).2)).2)) wD wE wF wG wH wI wJ wK (ay.b ((iL ((aN (⟨wC,wA,wB⟩:ay) (2:Int)).2)).2)) (wL++([(⟨(ax (t:= .str) wO (Int.toNat wM)),(aj.kind ((iL ((aN (⟨wC,wA,wB⟩:ay) (2:Int)).2)).1)),(aj.goal ((iL ((aN (⟨wC,wA,wB⟩:ay) (2:Int)).2)).1))⟩:aj)]:List aj)) wO))
 none)
 none)
 none)
 (k' .normal (zb (IntKind.wrap .i64 (wM+(1:Int))) (ay.i ((aN (⟨wC,wA,wB⟩:ay) (2:Int)).2)) (ay.h ((aN (⟨wC,wA,wB⟩:ay) (2:Int)).2)) wD wE wF wG wH wI wJ wK (ay.b ((aN (⟨wC,wA,wB⟩:ay) (2:Int)).2)) wL wO)))
 none)
 (k' (.exit 0) (LC wM (decide (wM<(wO.length:Int))) wA wB wD wE wF wG wH wI wJ wK wC wL wO))):=by kernel_rfl
theorem LF{R:Type}(n:Nat)(k':Kx R)(wD:BA)(wE:BA)(wF:Int)(wG:Int)(wH:Int)(wI:Int)(wJ:Int)(wK:Int)(wO:List BA):∀(m:Nat)(wM:Int)(wA:Int)(wB:Int)(wC:List Int)(wL:List aj),iter (fun st k=>ev mn pJ n (cM [1,1,1,1,0,1,0,0] oU) st k) m (zb wM wA wB wD wE wF wG wH wI wJ wK wC wL wO) k'=nW n (fun(wY:Int)(wZ:Bool)(wQ:Int)(wR:Int)(wS:List Int)(wU:List aj)=>k' (.exit 0) (LC wY wZ wQ wR wD wE wF wG wH wI wJ wK wS wU wO)) wD wE wF wG wH wI wJ wK wO m wM wA wB wC wL:=by
 intro m;induction m with
 |zero=>intros;rfl
 |succ m ih=>
  intro wM wA wB wC wL
  simp only[iter]
  rw[O6]
  simp only[ih,nW]
noncomputable def mB{R:Type}(n:Nat)(x0:Int→Bool→Int→Int→(List Int)→(List aF)→Option R)(wD:BA)(wE:BA)(wF:Int)(wG:Int)(wH:Int)(wI:Int)(wJ:Int)(wK:Int)(wL:List aj)(wP:List BA):Nat→Int→Int→Int→(List Int)→(List aF)→Option R
  |0,_,_,_,_,_=>none
  |m+1,wN,wA,wB,wC,wT=>
    (cond (decide (wN<(wP.length:Int)))
   (cond ((fun c _=>aZ c) (⟨wC,wA,wB⟩:ay) (3:Int))
    (cond ((aN (⟨wC,wA,wB⟩:ay) (3:Int)).1)
     (cond ((decide ((0:Int)≤wN))&&(decide (wN<(wP.length:Int))))
      (cond (aZ ((aN (⟨wC,wA,wB⟩:ay) (3:Int)).2))
       (cond (Nat.ble (wT.length+1) fO)
        (mB n x0 wD wE wF wG wH wI wJ wK wL wP m (IntKind.wrap .i64 (wN+(1:Int))) (ay.i ((hC ((aN (⟨wC,wA,wB⟩:ay) (3:Int)).2)).2)) (ay.h ((hC ((aN (⟨wC,wA,wB⟩:ay) (3:Int)).2)).2)) (ay.b ((hC ((aN (⟨wC,wA,wB⟩:ay) (3:Int)).2)).2)) (wT++([(⟨(ax (t:= .str) wP (Int.toNat wN)),((hC ((aN (⟨wC,wA,wB⟩:ay) (3:Int)).2)).1)⟩:aF)]:List aF)))
        none)
       none)
      none)
     (mB n x0 wD wE wF wG wH wI wJ wK wL wP m (IntKind.wrap .i64 (wN+(1:Int))) (ay.i ((aN (⟨wC,wA,wB⟩:ay) (3:Int)).2)) (ay.h ((aN (⟨wC,wA,wB⟩:ay) (3:Int)).2)) (ay.b ((aN (⟨wC,wA,wB⟩:ay) (3:Int)).2)) wT))
    none)
   (x0 wN (decide (wN<(wP.length:Int))) wA wB wC wT))
theorem O7{R:Type}(n:Nat)(k':Kx R)(wN:Int)(wA:Int)(wB:Int)(wD:BA)(wE:BA)(wF:Int)(wG:Int)(wH:Int)(wI:Int)(wJ:Int)(wK:Int)(wC:List Int)(wL:List aj)(wT:List aF)(wP:List BA):ev mn pJ n (cM [1,1,1,1,1,1,0,1,0,0] oU) (zc wN wA wB wD wE wF wG wH wI wJ wK wC wL wT wP) k'=
 (cond (decide (wN<(wP.length:Int)))
 (cond ((fun c _=>aZ c) (⟨wC,wA,wB⟩:ay) (3:Int))
 (cond ((aN (⟨wC,wA,wB⟩:ay) (3:Int)).1)
 (cond ((decide ((0:Int)≤wN))&&(decide (wN<(wP.length:Int))))
 (cond (aZ ((aN (⟨wC,wA,wB⟩:ay) (3:Int)).2))
 (cond (Nat.ble (wT.length+1) fO)
 (k' .normal (zc (IntKind.wrap .i64 (wN+(1:Int))) (ay.i ((hC ((aN (⟨wC,wA,wB⟩:ay) (3:Int)).2)).2)) (ay.h ((hC ((aN (⟨wC,wA,wB⟩:ay) (3:Int)).2)).2)) wD wE wF wG wH wI wJ wK (ay.b ((hC ((aN (⟨wC,wA,wB⟩:ay) (3:Int)).2)).2)) wL (wT++([(⟨(ax (t:= .str) wP (Int.toNat wN)),((hC ((aN (⟨wC,wA,wB⟩:ay) (3:Int)).2)).1)⟩:aF)]:List aF)) wP))
 none)
 none)
 none)
 (k' .normal (zc (IntKind.wrap .i64 (wN+(1:Int))) (ay.i ((aN (⟨wC,wA,wB⟩:ay) (3:Int)).2)) (ay.h ((aN (⟨wC,wA,wB⟩:ay) (3:Int)).2)) wD wE wF wG wH wI wJ wK (ay.b ((aN (⟨wC,wA,wB⟩:ay) (3:Int)).2)) wL wT wP)))
 none)
 (k' (.exit 2) (LD wN (decide (wN<(wP.length:Int))) wA wB wD wE wF wG wH wI wJ wK wC wL wT wP))):=by kernel_rfl
theorem zd{R:Type}(n:Nat)(k':Kx R)(wD:BA)(wE:BA)(wF:Int)(wG:Int)(wH:Int)(wI:Int)(wJ:Int)(wK:Int)(wL:List aj)(wP:List BA):∀(m:Nat)(wN:Int)(wA:Int)(wB:Int)(wC:List Int)(wT:List aF),iter (fun st k=>ev mn pJ n (cM [1,1,1,1,1,1,0,1,0,0] oU) st k) m (zc wN wA wB wD wE wF wG wH wI wJ wK wC wL wT wP) k'=mB n (fun(wW:Int)(wX:Bool)(wQ:Int)(wR:Int)(wS:List Int)(wV:List aF)=>k' (.exit 2) (LD wW wX wQ wR wD wE wF wG wH wI wJ wK wS wL wV wP)) wD wE wF wG wH wI wJ wK wL wP m wN wA wB wC wT:=by
 intro m;induction m with
 |zero=>intros;rfl
 |succ m ih=>
  intro wN wA wB wC wT
  simp only[iter]
  rw[O7]
  simp only[ih,mB]
noncomputable def QZ{R:Type}(n:Nat)(k':Kx R):Kx R:=(cL 2 (gd mn pJ n (cM [1,1,1,1,1,1,1] oU) k'))
theorem ze{R:Type}(n:Nat)(k:Kt R)(a0:ay)(wD:BA)(wE:BA)(wF:Int)(wG:Int)(wH:Int)(wI:Int)(wJ:Int)(wK:Int)(wL:List aj)(wP:List BA)(wW:Int)(wX:Bool)(wQ:Int)(wR:Int)(wS:List Int)(wV:List aF):QZ n (bt mn [.bX] [false] true [.cell 2 45] [45] [.d .cp a0] k) (.exit 2) (LD wW wX wQ wR wD wE wF wG wH wI wJ wK wS wL wV wP)=
 (k [.d .order (⟨wD,wE,wF,wG,wL,(⟨wH,wI,wJ,wK⟩:aB),wV⟩:ae),.d .cp (⟨wS,wQ,wR⟩:ay)]):=by kernel_rfl
noncomputable def Q0{R:Type}(n:Nat)(k':Kx R):Kx R:=(cL 0 (gd mn pJ n (cM [1,1,1,1,1] oU) k'))
theorem LG{R:Type}(n:Nat)(k:Kt R)(a0:ay)(wD:BA)(wE:BA)(wF:Int)(wG:Int)(wH:Int)(wI:Int)(wJ:Int)(wK:Int)(wO:List BA)(wY:Int)(wZ:Bool)(wQ:Int)(wR:Int)(wS:List Int)(wU:List aj):Q0 n (bt mn [.bX] [false] true [.cell 2 45] [45] [.d .cp a0] k) (.exit 0) (LC wY wZ wQ wR wD wE wF wG wH wI wJ wK wS wU wO)=
 (mB n (fun(wW:Int)(wX:Bool)(wQ:Int)(wR:Int)(wS:List Int)(wV:List aF)=>
 (k [.d .order (⟨wD,wE,wF,wG,wU,(⟨wH,wI,wJ,wK⟩:aB),wV⟩:ae),.d .cp (⟨wS,wQ,wR⟩:ay)])) wD wE wF wG wH wI wJ wK wU [(bs [97]),(bs [111,119,110,101,114]),(bs [120,47,121])] n (0:Int) wQ wR wS ([]:List aF)):=by
 refine Eq.trans (b:=(iter (fun st k=>ev mn pJ n (cM [1,1,1,1,1,1,0,1,0,0] oU) st k) n (zc (0:Int) wQ wR wD wE wF wG wH wI wJ wK wS wU ([]:List aF) ([(bs [97]),(bs [111,119,110,101,114]),(bs [120,47,121])]:List BA)) (QZ n (bt mn [.bX] [false] true [.cell 2 45] [45] [.d .cp a0] k)))) (by kernel_rfl) ?_
 simp only[zd,ze]
theorem O8{R:Type}(n:Nat)(k:Kt R)(a0:ay):aO mn pJ n oU [.bX] [false] true [.cell 2 45] [45] [.d .cp a0] k=
 (cond ((fun c _=>aZ c) a0 (4:Int))
 (cond (gZ ((al a0 (4:Int)).2) ([(bs [119,101,98]),(bs [97,112,105]),(bs [106,111,98,45,49])]:List BA))
 (cond (gZ ((aC ((al a0 (4:Int)).2) ([(bs [119,101,98]),(bs [97,112,105]),(bs [106,111,98,45,49])]:List BA)).2) ([(bs [119,101,98]),(bs [112,111,111,108])]:List BA))
 (cond (fU ((aC ((aC ((al a0 (4:Int)).2) ([(bs [119,101,98]),(bs [97,112,105]),(bs [106,111,98,45,49])]:List BA)).2) ([(bs [119,101,98]),(bs [112,111,111,108])]:List BA)).2) ([(0:Int),(3:Int),(10:Int),(900:Int)]:List Int))
 (cond (aZ ((aH ((aC ((aC ((al a0 (4:Int)).2) ([(bs [119,101,98]),(bs [97,112,105]),(bs [106,111,98,45,49])]:List BA)).2) ([(bs [119,101,98]),(bs [112,111,111,108])]:List BA)).2) ([(0:Int),(3:Int),(10:Int),(900:Int)]:List Int)).2))
 (nW n (fun(wY:Int)(wZ:Bool)(wQ:Int)(wR:Int)(wS:List Int)(wU:List aj)=>
 (mB n (fun(wW:Int)(wX:Bool)(wQ:Int)(wR:Int)(wS:List Int)(wV:List aF)=>
 (k [.d .order (⟨((aC ((al a0 (4:Int)).2) ([(bs [119,101,98]),(bs [97,112,105]),(bs [106,111,98,45,49])]:List BA)).1),((aC ((aC ((al a0 (4:Int)).2) ([(bs [119,101,98]),(bs [97,112,105]),(bs [106,111,98,45,49])]:List BA)).2) ([(bs [119,101,98]),(bs [112,111,111,108])]:List BA)).1),(IntKind.wrap .i64 ((1:Int)+((al a0 (4:Int)).1))),(IntKind.wrap .i64 ((IntKind.wrap .i64 ((1:Int)+((al a0 (4:Int)).1)))+((aH ((aC ((aC ((al a0 (4:Int)).2) ([(bs [119,101,98]),(bs [97,112,105]),(bs [106,111,98,45,49])]:List BA)).2) ([(bs [119,101,98]),(bs [112,111,111,108])]:List BA)).2) ([(0:Int),(3:Int),(10:Int),(900:Int)]:List Int)).1))),wU,(⟨(aB.up ((eF ((aH ((aC ((aC ((al a0 (4:Int)).2) ([(bs [119,101,98]),(bs [97,112,105]),(bs [106,111,98,45,49])]:List BA)).2) ([(bs [119,101,98]),(bs [112,111,111,108])]:List BA)).2) ([(0:Int),(3:Int),(10:Int),(900:Int)]:List Int)).2)).1)),(aB.down ((eF ((aH ((aC ((aC ((al a0 (4:Int)).2) ([(bs [119,101,98]),(bs [97,112,105]),(bs [106,111,98,45,49])]:List BA)).2) ([(bs [119,101,98]),(bs [112,111,111,108])]:List BA)).2) ([(0:Int),(3:Int),(10:Int),(900:Int)]:List Int)).2)).1)),(aB.bU ((eF ((aH ((aC ((aC ((al a0 (4:Int)).2) ([(bs [119,101,98]),(bs [97,112,105]),(bs [106,111,98,45,49])]:List BA)).2) ([(bs [119,101,98]),(bs [112,111,111,108])]:List BA)).2) ([(0:Int),(3:Int),(10:Int),(900:Int)]:List Int)).2)).1)),(aB.bm ((eF ((aH ((aC ((aC ((al a0 (4:Int)).2) ([(bs [119,101,98]),(bs [97,112,105]),(bs [106,111,98,45,49])]:List BA)).2) ([(bs [119,101,98]),(bs [112,111,111,108])]:List BA)).2) ([(0:Int),(3:Int),(10:Int),(900:Int)]:List Int)).2)).1))⟩:aB),wV⟩:ae),.d .cp (⟨wS,wQ,wR⟩:ay)])) ((aC ((al a0 (4:Int)).2) ([(bs [119,101,98]),(bs [97,112,105]),(bs [106,111,98,45,49])]:List BA)).1) ((aC ((aC ((al a0 (4:Int)).2) ([(bs [119,101,98]),(bs [97,112,105]),(bs [106,111,98,45,49])]:List BA)).2) ([(bs [119,101,98]),(bs [112,111,111,108])]:List BA)).1) (IntKind.wrap .i64 ((1:Int)+((al a0 (4:Int)).1))) (IntKind.wrap .i64 ((IntKind.wrap .i64 ((1:Int)+((al a0 (4:Int)).1)))+((aH ((aC ((aC ((al a0 (4:Int)).2) ([(bs [119,101,98]),(bs [97,112,105]),(bs [106,111,98,45,49])]:List BA)).2) ([(bs [119,101,98]),(bs [112,111,111,108])]:List BA)).2) ([(0:Int),(3:Int),(10:Int),(900:Int)]:List Int)).1))) (aB.up ((eF ((aH ((aC ((aC ((al a0 (4:Int)).2) ([(bs [119,101,98]),(bs [97,112,105]),(bs [106,111,98,45,49])]:List BA)).2) ([(bs [119,101,98]),(bs [112,111,111,108])]:List BA)).2) ([(0:Int),(3:Int),(10:Int),(900:Int)]:List Int)).2)).1)) (aB.down ((eF ((aH ((aC ((aC ((al a0 (4:Int)).2) ([(bs [119,101,98]),(bs [97,112,105]),(bs [106,111,98,45,49])]:List BA)).2) ([(bs [119,101,98]),(bs [112,111,111,108])]:List BA)).2) ([(0:Int),(3:Int),(10:Int),(900:Int)]:List Int)).2)).1)) (aB.bU ((eF ((aH ((aC ((aC ((al a0 (4:Int)).2) ([(bs [119,101,98]),(bs [97,112,105]),(bs [106,111,98,45,49])]:List BA)).2) ([(bs [119,101,98]),(bs [112,111,111,108])]:List BA)).2) ([(0:Int),(3:Int),(10:Int),(900:Int)]:List Int)).2)).1)) (aB.bm ((eF ((aH ((aC ((aC ((al a0 (4:Int)).2) ([(bs [119,101,98]),(bs [97,112,105]),(bs [106,111,98,45,49])]:List BA)).2) ([(bs [119,101,98]),(bs [112,111,111,108])]:List BA)).2) ([(0:Int),(3:Int),(10:Int),(900:Int)]:List Int)).2)).1)) wU [(bs [97]),(bs [111,119,110,101,114]),(bs [120,47,121])] n (0:Int) wQ wR wS ([]:List aF))) ((aC ((al a0 (4:Int)).2) ([(bs [119,101,98]),(bs [97,112,105]),(bs [106,111,98,45,49])]:List BA)).1) ((aC ((aC ((al a0 (4:Int)).2) ([(bs [119,101,98]),(bs [97,112,105]),(bs [106,111,98,45,49])]:List BA)).2) ([(bs [119,101,98]),(bs [112,111,111,108])]:List BA)).1) (IntKind.wrap .i64 ((1:Int)+((al a0 (4:Int)).1))) (IntKind.wrap .i64 ((IntKind.wrap .i64 ((1:Int)+((al a0 (4:Int)).1)))+((aH ((aC ((aC ((al a0 (4:Int)).2) ([(bs [119,101,98]),(bs [97,112,105]),(bs [106,111,98,45,49])]:List BA)).2) ([(bs [119,101,98]),(bs [112,111,111,108])]:List BA)).2) ([(0:Int),(3:Int),(10:Int),(900:Int)]:List Int)).1))) (aB.up ((eF ((aH ((aC ((aC ((al a0 (4:Int)).2) ([(bs [119,101,98]),(bs [97,112,105]),(bs [106,111,98,45,49])]:List BA)).2) ([(bs [119,101,98]),(bs [112,111,111,108])]:List BA)).2) ([(0:Int),(3:Int),(10:Int),(900:Int)]:List Int)).2)).1)) (aB.down ((eF ((aH ((aC ((aC ((al a0 (4:Int)).2) ([(bs [119,101,98]),(bs [97,112,105]),(bs [106,111,98,45,49])]:List BA)).2) ([(bs [119,101,98]),(bs [112,111,111,108])]:List BA)).2) ([(0:Int),(3:Int),(10:Int),(900:Int)]:List Int)).2)).1)) (aB.bU ((eF ((aH ((aC ((aC ((al a0 (4:Int)).2) ([(bs [119,101,98]),(bs [97,112,105]),(bs [106,111,98,45,49])]:List BA)).2) ([(bs [119,101,98]),(bs [112,111,111,108])]:List BA)).2) ([(0:Int),(3:Int),(10:Int),(900:Int)]:List Int)).2)).1)) (aB.bm ((eF ((aH ((aC ((aC ((al a0 (4:Int)).2) ([(bs [119,101,98]),(bs [97,112,105]),(bs [106,111,98,45,49])]:List BA)).2) ([(bs [119,101,98]),(bs [112,111,111,108])]:List BA)).2) ([(0:Int),(3:Int),(10:Int),(900:Int)]:List Int)).2)).1)) [(bs [99,112,117]),(bs [104,105,116,115]),(bs [109,101,109]),(bs [113,117,101,117,101])] n (0:Int) (ay.i ((eF ((aH ((aC ((aC ((al a0 (4:Int)).2) ([(bs [119,101,98]),(bs [97,112,105]),(bs [106,111,98,45,49])]:List BA)).2) ([(bs [119,101,98]),(bs [112,111,111,108])]:List BA)).2) ([(0:Int),(3:Int),(10:Int),(900:Int)]:List Int)).2)).2)) (ay.h ((eF ((aH ((aC ((aC ((al a0 (4:Int)).2) ([(bs [119,101,98]),(bs [97,112,105]),(bs [106,111,98,45,49])]:List BA)).2) ([(bs [119,101,98]),(bs [112,111,111,108])]:List BA)).2) ([(0:Int),(3:Int),(10:Int),(900:Int)]:List Int)).2)).2)) (ay.b ((eF ((aH ((aC ((aC ((al a0 (4:Int)).2) ([(bs [119,101,98]),(bs [97,112,105]),(bs [106,111,98,45,49])]:List BA)).2) ([(bs [119,101,98]),(bs [112,111,111,108])]:List BA)).2) ([(0:Int),(3:Int),(10:Int),(900:Int)]:List Int)).2)).2)) ([]:List aj))
 none)
 none)
 none)
 none)
 none):=by
  refine Eq.trans (b:=(cond ((fun c _=>aZ c) a0 (4:Int))
  (cond (gZ ((al a0 (4:Int)).2) ([(bs [119,101,98]),(bs [97,112,105]),(bs [106,111,98,45,49])]:List BA))
   (cond (gZ ((aC ((al a0 (4:Int)).2) ([(bs [119,101,98]),(bs [97,112,105]),(bs [106,111,98,45,49])]:List BA)).2) ([(bs [119,101,98]),(bs [112,111,111,108])]:List BA))
    (cond (fU ((aC ((aC ((al a0 (4:Int)).2) ([(bs [119,101,98]),(bs [97,112,105]),(bs [106,111,98,45,49])]:List BA)).2) ([(bs [119,101,98]),(bs [112,111,111,108])]:List BA)).2) ([(0:Int),(3:Int),(10:Int),(900:Int)]:List Int))
     (cond (aZ ((aH ((aC ((aC ((al a0 (4:Int)).2) ([(bs [119,101,98]),(bs [97,112,105]),(bs [106,111,98,45,49])]:List BA)).2) ([(bs [119,101,98]),(bs [112,111,111,108])]:List BA)).2) ([(0:Int),(3:Int),(10:Int),(900:Int)]:List Int)).2))
      (iter (fun st k=>ev mn pJ n (cM [1,1,1,1,0,1,0,0] oU) st k) n (zb (0:Int) (ay.i ((eF ((aH ((aC ((aC ((al a0 (4:Int)).2) ([(bs [119,101,98]),(bs [97,112,105]),(bs [106,111,98,45,49])]:List BA)).2) ([(bs [119,101,98]),(bs [112,111,111,108])]:List BA)).2) ([(0:Int),(3:Int),(10:Int),(900:Int)]:List Int)).2)).2)) (ay.h ((eF ((aH ((aC ((aC ((al a0 (4:Int)).2) ([(bs [119,101,98]),(bs [97,112,105]),(bs [106,111,98,45,49])]:List BA)).2) ([(bs [119,101,98]),(bs [112,111,111,108])]:List BA)).2) ([(0:Int),(3:Int),(10:Int),(900:Int)]:List Int)).2)).2)) ((aC ((al a0 (4:Int)).2) ([(bs [119,101,98]),(bs [97,112,105]),(bs [106,111,98,45,49])]:List BA)).1) ((aC ((aC ((al a0 (4:Int)).2) ([(bs [119,101,98]),(bs [97,112,105]),(bs [106,111,98,45,49])]:List BA)).2) ([(bs [119,101,98]),(bs [112,111,111,108])]:List BA)).1) (IntKind.wrap .i64 ((1:Int)+((al a0 (4:Int)).1))) (IntKind.wrap .i64 ((IntKind.wrap .i64 ((1:Int)+((al a0 (4:Int)).1)))+((aH ((aC ((aC ((al a0 (4:Int)).2) ([(bs [119,101,98]),(bs [97,112,105]),(bs [106,111,98,45,49])]:List BA)).2) ([(bs [119,101,98]),(bs [112,111,111,108])]:List BA)).2) ([(0:Int),(3:Int),(10:Int),(900:Int)]:List Int)).1))) (aB.up ((eF ((aH ((aC ((aC ((al a0 (4:Int)).2) ([(bs [119,101,98]),(bs [97,112,105]),(bs [106,111,98,45,49])]:List BA)).2) ([(bs [119,101,98]),(bs [112,111,111,108])]:List BA)).2) ([(0:Int),(3:Int),(10:Int),(900:Int)]:List Int)).2)).1)) (aB.down ((eF ((aH ((aC ((aC ((al a0 (4:Int)).2) ([(bs [119,101,98]),(bs [97,112,105]),(bs [106,111,98,45,49])]:List BA)).2) ([(bs [119,101,98]),(bs [112,111,111,108])]:List BA)).2) ([(0:Int),(3:Int),(10:Int),(900:Int)]:List Int)).2)).1)) (aB.bU ((eF ((aH ((aC ((aC ((al a0 (4:Int)).2) ([(bs [119,101,98]),(bs [97,112,105]),(bs [106,111,98,45,49])]:List BA)).2) ([(bs [119,101,98]),(bs [112,111,111,108])]:List BA)).2) ([(0:Int),(3:Int),(10:Int),(900:Int)]:List Int)).2)).1)) (aB.bm ((eF ((aH ((aC ((aC ((al a0 (4:Int)).2) ([(bs [119,101,98]),(bs [97,112,105]),(bs [106,111,98,45,49])]:List BA)).2) ([(bs [119,101,98]),(bs [112,111,111,108])]:List BA)).2) ([(0:Int),(3:Int),(10:Int),(900:Int)]:List Int)).2)).1)) (ay.b ((eF ((aH ((aC ((aC ((al a0 (4:Int)).2) ([(bs [119,101,98]),(bs [97,112,105]),(bs [106,111,98,45,49])]:List BA)).2) ([(bs [119,101,98]),(bs [112,111,111,108])]:List BA)).2) ([(0:Int),(3:Int),(10:Int),(900:Int)]:List Int)).2)).2)) ([]:List aj) ([(bs [99,112,117]),(bs [104,105,116,115]),(bs [109,101,109]),(bs [113,117,101,117,101])]:List BA)) (Q0 n (bt mn [.bX] [false] true [.cell 2 45] [45] [.d .cp a0] k)))
      none)
     none)
    none)
   none)
  none)) (by kernel_rfl) ?_
  simp only[LF,LG,zd,ze]
def Q5(a0:ay)(o:ae×ay):Prop:=(fun _ o=>aL o.1=true∧o.1.aq.length≤4∧o.1.notes.length≤3∧aZ o.2=true) a0 o∧∃n:Nat,∀{R:Type}(k:Kt R),aO mn pJ n oU [.bX] [false] true [.cell 2 45] [45] [.d .cp a0] k=k [.d .order o.1,.d .cp o.2]
theorem TO(a0:ay)(hg:aZ a0=true):∃o:ae×ay,(fun _ o=>aL o.1=true∧o.1.aq.length≤4∧o.1.notes.length≤3∧aZ o.2=true) a0 o∧∃n:Nat,∀{R:Type}(k:Kt R),aO mn pJ n oU [.bX] [false] true [.cell 2 45] [45] [.d .cp a0] k=k [.d .order o.1,.d .cp o.2]:=by
 have K0:∀(b0 b1:BA)(b2 b3 b5 b6 b7 b8:Int)(nm:List BA),nm.all gx=true→nm.length≤100→∀(d m i:Nat)(ms:List aj)(c:ay),i+d=nm.length→d<m→gC aY ms=true→ms.length≤i→aZ c=true→
   ∃o:List aj×ay,(gC aY o.1=true∧o.1.length≤nm.length∧aZ o.2=true)∧∀{R:Type}(X:Int→Bool→Int→Int→(List Int)→(List aj)→Option R),
    (∀ i b c1 c2 c3 ms,X i b c1 c2 c3 ms=X 0 false c1 c2 c3 ms)→nW 5 X b0 b1 b2 b3 b5 b6 b7 b8 nm m (i:Int) c.i c.h c.b ms=X 0 false o.2.i o.2.h o.2.b o.1:=by
  intro b0 b1 b2 b3 b5 b6 b7 b8 nm XS hlen d
  induction d with
  |zero=>
   intro m i ms c hi hm hs hl hc
   obtain⟨m,rfl⟩:∃m',m=m'+1:=⟨m-1,by omega⟩
   refine⟨(ms,c),⟨hs,Nat.le_trans hl (by omega),hc⟩,fun {R} X hX=> ?_⟩
   simp only[nW,decide_eq_false (show ¬((i:Int)<(nm.length:Int)) by omega),cond_false]
   exact hX _ _ _ _ _ _
  |succ d ih=>
   intro m i ms c hi hm hs hl hc
   obtain⟨m,rfl⟩:∃m',m=m'+1:=⟨m-1,by omega⟩
   obtain⟨h1,h0,hw,ht⟩:=idx (show i<nm.length by omega) (by omega)
   have g1:=bE c 2 hc
   have hn:gx (ax (t:= .str) nm i)=true:=List.all_eq_true.1 XS _ (List.mem_of_getElem? (eo (t:= .str) (by omega)))
   have hb:Nat.ble (ms.length+1) fO=true:=pV (by omega)
   cases e:(aN c 2).1
   ·obtain⟨o,ho,hh⟩:=ih m (i+1) ms (aN c 2).2 (by omega) (by omega) hs (by omega) g1
    exact⟨o,ho,fun {R} X hX=>by
     simp only[nW,pW,h1,hc,e,hw,cond_true,cond_false]
     exact hh X hX⟩
   ·obtain⟨f1,g2⟩:=xe _ g1
    have hx:aY ((⟨ax (t:= .str) nm i,(iL (aN c 2).2).1.kind,(iL (aN c 2).2).1.goal⟩:aj))=true:=by
     simp only[aY,Bool.and_eq_true] at f1 ⊢
     exact⟨hn,f1.2⟩
    obtain⟨o,ho,hh⟩:=ih m (i+1) (ms++[(⟨ax (t:= .str) nm i,(iL (aN c 2).2).1.kind,(iL (aN c 2).2).1.goal⟩:aj)]) (iL (aN c 2).2).2 (by omega) (by omega) (lG hs hx (by omega)) (by simp only[List.length_append,List.length_cons,List.length_nil];omega) g2
    exact⟨o,ho,fun {R} X hX=>by
     simp only[nW,pW,h1,h0,ht,hc,g1,e,hw,hb,Bool.and_self,cond_true,cond_false]
     exact hh X hX⟩
 have TA:∀(b0 b1:BA)(b2 b3 b5 b6 b7 b8:Int)(mt:List aj)(nm:List BA),nm.all gx=true→nm.length≤100→∀(d m i:Nat)(ms:List aF)(c:ay),i+d=nm.length→d<m→gC cD ms=true→ms.length≤i→aZ c=true→
   ∃o:List aF×ay,(gC cD o.1=true∧o.1.length≤nm.length∧aZ o.2=true)∧∀{R:Type}(X:Int→Bool→Int→Int→(List Int)→(List aF)→Option R),
    (∀ i b c1 c2 c3 ms,X i b c1 c2 c3 ms=X 0 false c1 c2 c3 ms)→mB 5 X b0 b1 b2 b3 b5 b6 b7 b8 mt nm m (i:Int) c.i c.h c.b ms=X 0 false o.2.i o.2.h o.2.b o.1:=by
  intro b0 b1 b2 b3 b5 b6 b7 b8 mt nm XS hlen d
  induction d with
  |zero=>
   intro m i ms c hi hm hs hl hc
   obtain⟨m,rfl⟩:∃m',m=m'+1:=⟨m-1,by omega⟩
   refine⟨(ms,c),⟨hs,Nat.le_trans hl (by omega),hc⟩,fun {R} X hX=> ?_⟩
   simp only[mB,decide_eq_false (show ¬((i:Int)<(nm.length:Int)) by omega),cond_false]
   exact hX _ _ _ _ _ _
  |succ d ih=>
   intro m i ms c hi hm hs hl hc
   obtain⟨m,rfl⟩:∃m',m=m'+1:=⟨m-1,by omega⟩
   obtain⟨h1,h0,hw,ht⟩:=idx (show i<nm.length by omega) (by omega)
   have g1:=bE c 3 hc
   have hn:gx (ax (t:= .str) nm i)=true:=List.all_eq_true.1 XS _ (List.mem_of_getElem? (eo (t:= .str) (by omega)))
   have hb:Nat.ble (ms.length+1) fO=true:=pV (by omega)
   cases e:(aN c 3).1
   ·obtain⟨o,ho,hh⟩:=ih m (i+1) ms (aN c 3).2 (by omega) (by omega) hs (by omega) g1
    exact⟨o,ho,fun {R} X hX=>by
     simp only[mB,pW,h1,hc,e,hw,cond_true,cond_false]
     exact hh X hX⟩
   ·obtain⟨f1,g2⟩:=yW _ g1
    have hx:cD ((⟨ax (t:= .str) nm i,(hC (aN c 3).2).1⟩:aF))=true:=by
     simp only[cD,Bool.and_eq_true] at f1 ⊢
     exact⟨hn,f1⟩
    obtain⟨o,ho,hh⟩:=ih m (i+1) (ms++[(⟨ax (t:= .str) nm i,(hC (aN c 3).2).1⟩:aF)]) (hC (aN c 3).2).2 (by omega) (by omega) (lG hs hx (by omega)) (by simp only[List.length_append,List.length_cons,List.length_nil];omega) g2
    exact⟨o,ho,fun {R} X hX=>by
     simp only[mB,pW,h1,h0,ht,hc,g1,e,hw,hb,Bool.and_self,cond_true,cond_false]
     exact hh X hX⟩
 obtain⟨x0,x1,g1⟩:=gA a0 4 hg
 have p1:=bP (l:=([(bs [119,101,98]),(bs [97,112,105]),(bs [106,111,98,45,49])]:List BA)) g1 rfl
 obtain⟨m1,g2⟩:=kX _ _ p1
 have p2:=bP (l:=([(bs [119,101,98]),(bs [112,111,111,108])]:List BA)) g2 rfl
 obtain⟨m2,g3⟩:=kX _ _ p2
 have p3:=bW (l:=([(0:Int),(3:Int),(10:Int),(900:Int)]:List Int)) g3 rfl
 obtain⟨m3,g4⟩:=lL _ _ p3
 obtain⟨hp,g5⟩:=za _ g4
 obtain⟨o1,⟨s1,l1,c1⟩,h1⟩:=K0 _ _ _ _ _ _ _ _ ([(bs [99,112,117]),(bs [104,105,116,115]),(bs [109,101,109]),(bs [113,117,101,117,101])]:List BA) (by decide) (by decide) 4 5 0 [] _ rfl (by omega) rfl (Nat.le_refl _) g5
 obtain⟨o2,⟨s2,l2,c2⟩,h2⟩:=TA _ _ _ _ _ _ _ _ o1.1 ([(bs [97]),(bs [111,119,110,101,114]),(bs [120,47,121])]:List BA) (by decide) (by decide) 3 5 0 [] o1.2 rfl (by omega) rfl (Nat.le_refl _) c1
 refine⟨(?XJ,?XK),?Fv,5,?Fw⟩
 case Fw=>
  intro R k
  rw[O8]
  simp only[hg,g1,p1,p2,p3,g4,cond_true]
  refine Eq.trans (h1 _ (fun _ _ _ _ _ _=>rfl)) ?_
  refine Eq.trans (h2 _ (fun _ _ _ _ _ _=>rfl)) ?_
  exact rfl
 case Fv=>
  refine⟨?_,l1,l2,c2⟩
  simp only[aL,Bool.and_eq_true]
  exact⟨rU m1 (by decide),rU m2 (by decide),dv _,dv _,s1,hp,s2⟩
theorem LH(a0:ay):Nonempty {o:ae×ay // aZ a0=true→Q5 a0 o}:=by
 by_cases hg:aZ a0=true
 ·obtain⟨o,ho⟩:=TO a0 hg
  exact⟨⟨o,fun _=>ho⟩⟩
 ·exact⟨⟨((zero .order),(zero .cp)),fun h=>absurd h hg⟩⟩
noncomputable def aA(a0:ay):ae×ay:=(Classical.choice (LH a0)).val
theorem LI(a0:ay)(hg:aZ a0=true):Q5 a0 (aA a0):=(Classical.choice (LH a0)).property hg
theorem uM(a0:ay)(hg:aZ a0=true):(fun _ o=>aL o.1=true∧o.1.aq.length≤4∧o.1.notes.length≤3∧aZ o.2=true) a0 (aA a0):=(LI a0 hg).1
theorem cX(a0:ay)(hg:aZ a0=true):aZ (aA a0).2=true:=by
  have h:=uM a0 hg
  first | exact h | exact h.2 | exact h.2.2 | exact h.2.2.2
theorem LJ(a0:ay)(hg:aZ a0=true):∃keep rounds,∀{R:Type}(k:Kt R),aO mn keep rounds oU [.bX] [false] true [.cell 2 45] [45] [.d .cp a0] k=k [.d .order ((aA a0).1),.d .cp ((aA a0).2)]:=by
 obtain⟨n,hn⟩:=(LI a0 hg).2
 exact⟨pJ,n,hn⟩
noncomputable def q99:Qt
 | [.d .cp a0]=>some ((aZ a0),[.d .order ((aA a0).1),.d .cp ((aA a0).2)])
 |_=>none
noncomputable def s99:Gm.Spec:=Gm.Spec.of [.bX] [false] true q99
theorem TP:Gm.Good Try.prog (99,s99):=by
 have hl:∀x∈[(80,Fz),(82,XM),(83,OZ),(100,xc),(101,LA),(133,TM),(134,TL)],Gm.Good Try.prog x:=aU.2 ⟨oT,aU.2 ⟨Ln,aU.2 ⟨xd,aU.2 ⟨p4,aU.2 ⟨Dj,aU.2 ⟨O5,aU.2 ⟨O2,gD⟩⟩⟩⟩⟩⟩⟩
 refine⟨⟨aM (aV.env hl) (bd.cz hl) Try.func99 (by kernel_rfl:Try.f99.body=some oU) [45] (by kernel_rfl) ?_,_,Try.func99,by kernel_rfl,of_decide_eq_true (by kernel_rfl)⟩,Gm.Spec.aG _ _ _ _⟩
 intro ds outs h
 unfold q99 at h
 split at h
 ·simp only[Option.some.injEq,Prod.mk.injEq] at h;obtain⟨hg,h⟩:=h;cases h;exact LJ _ hg
 ·cases h
noncomputable def LK:Code:=(Try.f58.body).getD .skip
def O9:Nat→Kp:=fF [⟨[0,2],[],[],[]⟩,⟨[0,2,3],[],[],[]⟩,⟨[0,2,3,7],[],[],[]⟩,⟨[0,2,3,7,8],[],[],[]⟩,⟨[0,2,3],[],[],[]⟩,⟨[0,2,3,7,14],[],[],[]⟩,⟨[0,2,3],[],[],[]⟩,⟨[0,2,3,7,20],[],[],[]⟩,⟨[0,2,3],[],[],[]⟩,⟨[0,2,3,7,26],[],[],[]⟩,⟨[0,2,3],[],[],[]⟩,⟨[0,2,3,7,35],[],[],[]⟩,⟨[0,2,3],[],[],[]⟩,⟨[0,2,3,7,42],[],[],[]⟩,⟨[0,2,3],[],[],[]⟩,⟨[0,2,3,7,53],[],[],[]⟩,⟨[0,2,3],[],[],[]⟩,⟨[0,2,3,60],[],[],[]⟩,⟨[0,2,3,65],[],[],[]⟩,⟨[0,2,3],[],[],[]⟩,⟨[0,2],[],[],[]⟩]
noncomputable def O':Env:=bd.env [(80,Fz),(83,OZ),(99,s99),(100,xc),(101,LA)]
noncomputable def gg(a0:ay):List aj:=
 ((ae.aq ((aA a0).1)).set 0 (⟨(aj.name (ax (t:= .aw) (ae.aq ((aA a0).1)) 0)),(aj.kind (ax (t:= .aw) (ae.aq ((aA a0).1)) 0)),((aH ((al ((aA a0).2) (16:Int)).2) ([(0:Int),(-1:Int),(1000000:Int),(1000001:Int)]:List Int)).1)⟩:aj))
theorem iz{R:Type}(n:Nat)(k:Kt R)(a0:ay):aO O' O9 n LK [.bX] [false] true [.cell 2 45] [45] [.d .cp a0] k=
 (cond (aZ a0)
 (cond ((fun c _=>aZ c) ((aA a0).2) (16:Int))
 (cond (((al ((aA a0).2) (16:Int)).1)==(0:Int))
 (cond (gZ ((al ((aA a0).2) (16:Int)).2) ([ByteArray.empty,(bs [49,97]),(bs [65]),(bs [97,98,99,100,101,102,103,104,105,106,107,108,109,110,111,112,113,114,115,116,117])]:List BA))
 (k [.d .order (⟨((aC ((al ((aA a0).2) (16:Int)).2) ([ByteArray.empty,(bs [49,97]),(bs [65]),(bs [97,98,99,100,101,102,103,104,105,106,107,108,109,110,111,112,113,114,115,116,117])]:List BA)).1),(ae.target ((aA a0).1)),(ae.low ((aA a0).1)),(ae.high ((aA a0).1)),(ae.aq ((aA a0).1)),(ae.aD ((aA a0).1)),(ae.notes ((aA a0).1))⟩:ae),.d .cp ((aC ((al ((aA a0).2) (16:Int)).2) ([ByteArray.empty,(bs [49,97]),(bs [65]),(bs [97,98,99,100,101,102,103,104,105,106,107,108,109,110,111,112,113,114,115,116,117])]:List BA)).2)])
 none)
 (cond (((al ((aA a0).2) (16:Int)).1)==(1:Int))
 (cond (fU ((al ((aA a0).2) (16:Int)).2) ([(0:Int),(-1:Int),(1001:Int)]:List Int))
 (k [.d .order (⟨(ae.name ((aA a0).1)),(ae.target ((aA a0).1)),((aH ((al ((aA a0).2) (16:Int)).2) ([(0:Int),(-1:Int),(1001:Int)]:List Int)).1),(ae.high ((aA a0).1)),(ae.aq ((aA a0).1)),(ae.aD ((aA a0).1)),(ae.notes ((aA a0).1))⟩:ae),.d .cp ((aH ((al ((aA a0).2) (16:Int)).2) ([(0:Int),(-1:Int),(1001:Int)]:List Int)).2)])
 none)
 (cond (((al ((aA a0).2) (16:Int)).1)==(2:Int))
 (cond (fU ((al ((aA a0).2) (16:Int)).2) ([(0:Int),(1000:Int),(1001:Int)]:List Int))
 (k [.d .order (⟨(ae.name ((aA a0).1)),(ae.target ((aA a0).1)),(ae.low ((aA a0).1)),((aH ((al ((aA a0).2) (16:Int)).2) ([(0:Int),(1000:Int),(1001:Int)]:List Int)).1),(ae.aq ((aA a0).1)),(ae.aD ((aA a0).1)),(ae.notes ((aA a0).1))⟩:ae),.d .cp ((aH ((al ((aA a0).2) (16:Int)).2) ([(0:Int),(1000:Int),(1001:Int)]:List Int)).2)])
 none)
 (cond (((al ((aA a0).2) (16:Int)).1)==(3:Int))
 (cond (aZ ((al ((aA a0).2) (16:Int)).2))
 (cond (Nat.ble ((ae.aq ((aA a0).1)).length+1) fO)
 (k [.d .order (⟨(ae.name ((aA a0).1)),(ae.target ((aA a0).1)),(ae.low ((aA a0).1)),(ae.high ((aA a0).1)),((ae.aq ((aA a0).1))++([((iL ((al ((aA a0).2) (16:Int)).2)).1)]:List aj)),(ae.aD ((aA a0).1)),(ae.notes ((aA a0).1))⟩:ae),.d .cp ((iL ((al ((aA a0).2) (16:Int)).2)).2)])
 none)
 none)
 (cond (((al ((aA a0).2) (16:Int)).1)==(4:Int))
 (cond (fU ((al ((aA a0).2) (16:Int)).2) ([(-1:Int),(1000:Int),(1001:Int)]:List Int))
 (k [.d .order (⟨(ae.name ((aA a0).1)),(ae.target ((aA a0).1)),(ae.low ((aA a0).1)),(ae.high ((aA a0).1)),(ae.aq ((aA a0).1)),(⟨((aH ((al ((aA a0).2) (16:Int)).2) ([(-1:Int),(1000:Int),(1001:Int)]:List Int)).1),(aB.down (ae.aD ((aA a0).1))),(aB.bU (ae.aD ((aA a0).1))),(aB.bm (ae.aD ((aA a0).1)))⟩:aB),(ae.notes ((aA a0).1))⟩:ae),.d .cp ((aH ((al ((aA a0).2) (16:Int)).2) ([(-1:Int),(1000:Int),(1001:Int)]:List Int)).2)])
 none)
 (cond (((al ((aA a0).2) (16:Int)).1)==(5:Int))
 (cond (gZ ((al ((aA a0).2) (16:Int)).2) ([(bs [122]),(bs [113,117,97,121,47,112,97,99,101]),(bs [49]),ByteArray.empty]:List BA))
 (cond (Nat.ble ((ae.notes ((aA a0).1)).length+1) fO)
 (k [.d .order (⟨(ae.name ((aA a0).1)),(ae.target ((aA a0).1)),(ae.low ((aA a0).1)),(ae.high ((aA a0).1)),(ae.aq ((aA a0).1)),(ae.aD ((aA a0).1)),((ae.notes ((aA a0).1))++([(⟨((aC ((al ((aA a0).2) (16:Int)).2) ([(bs [122]),(bs [113,117,97,121,47,112,97,99,101]),(bs [49]),ByteArray.empty]:List BA)).1),(bs [120])⟩:aF)]:List aF))⟩:ae),.d .cp ((aC ((al ((aA a0).2) (16:Int)).2) ([(bs [122]),(bs [113,117,97,121,47,112,97,99,101]),(bs [49]),ByteArray.empty]:List BA)).2)])
 none)
 none)
 (cond (((al ((aA a0).2) (16:Int)).1)==(6:Int))
 (cond (fU ((al ((aA a0).2) (16:Int)).2) ([(-1:Int),(3600:Int),(3601:Int)]:List Int))
 (k [.d .order (⟨(ae.name ((aA a0).1)),(ae.target ((aA a0).1)),(ae.low ((aA a0).1)),(ae.high ((aA a0).1)),(ae.aq ((aA a0).1)),(⟨(aB.up (ae.aD ((aA a0).1))),(aB.down (ae.aD ((aA a0).1))),(aB.bU (ae.aD ((aA a0).1))),((aH ((al ((aA a0).2) (16:Int)).2) ([(-1:Int),(3600:Int),(3601:Int)]:List Int)).1)⟩:aB),(ae.notes ((aA a0).1))⟩:ae),.d .cp ((aH ((al ((aA a0).2) (16:Int)).2) ([(-1:Int),(3600:Int),(3601:Int)]:List Int)).2)])
 none)
 (cond (((al ((aA a0).2) (16:Int)).1)==(7:Int))
 (cond (decide (((ae.aq ((aA a0).1)).length:Int)>(0:Int)))
 (cond (fU ((al ((aA a0).2) (16:Int)).2) ([(0:Int),(-1:Int),(1000000:Int),(1000001:Int)]:List Int))
 (cond (decide ((0:Int)<((ae.aq ((aA a0).1)).length:Int)))
 (k [.d .order (⟨(ae.name ((aA a0).1)),(ae.target ((aA a0).1)),(ae.low ((aA a0).1)),(ae.high ((aA a0).1)),(gg a0),(ae.aD ((aA a0).1)),(ae.notes ((aA a0).1))⟩:ae),.d .cp ((aH ((al ((aA a0).2) (16:Int)).2) ([(0:Int),(-1:Int),(1000000:Int),(1000001:Int)]:List Int)).2)])
 none)
 none)
 (k [.d .order ((aA a0).1),.d .cp ((al ((aA a0).2) (16:Int)).2)]))
 (k [.d .order ((aA a0).1),.d .cp ((al ((aA a0).2) (16:Int)).2)])))))))))
 none)
 none):=by kernel_rfl
def Q6(a0:ay)(o:ae×ay):Prop:=(fun _ o=>aL o.1=true∧aZ o.2=true) a0 o∧∃n:Nat,∀{R:Type}(k:Kt R),aO O' O9 n LK [.bX] [false] true [.cell 2 45] [45] [.d .cp a0] k=k [.d .order o.1,.d .cp o.2]
theorem TQ(a0:ay)(hg:aZ a0=true):∃o:ae×ay,(fun _ o=>aL o.1=true∧aZ o.2=true) a0 o∧∃n:Nat,∀{R:Type}(k:Kt R),aO O' O9 n LK [.bX] [false] true [.cell 2 45] [45] [.d .cp a0] k=k [.d .order o.1,.d .cp o.2]:=by
 obtain⟨hs,l1,l2,g1⟩:=uM a0 hg
 simp only[aL,Bool.and_eq_true] at hs
 obtain⟨q1,q2,q3,q4,q5,q6,q7⟩:=hs
 have q6':=q6
 simp only[dV,Bool.and_eq_true] at q6'
 obtain⟨rX,so,sf,sn⟩:=q6'
 have b1:=pV (n:=(aA a0).1.aq.length) (by omega)
 have b2:=pV (n:=(aA a0).1.notes.length) (by omega)
 replace l1:=HW (n:=(aA a0).1.aq.length) (m:=1048576) (by omega)
 replace l2:=HW (n:=(aA a0).1.notes.length) (m:=1048576) (by omega)
 have tm:aY (iL (al (aA a0).2 16).2).1=true:=(xe _ (bu _ 16 g1)).1
 simp only[aY,Bool.and_eq_true] at tm
 obtain⟨t1,t2,t3⟩:=tm
 cases e0:(((al ((aA a0).2) (16:Int)).1)==(0:Int))
 ·skip
  cases e1:(((al ((aA a0).2) (16:Int)).1)==(1:Int))
  ·skip
   cases e2:(((al ((aA a0).2) (16:Int)).1)==(2:Int))
   ·skip
    cases e3:(((al ((aA a0).2) (16:Int)).1)==(3:Int))
    ·skip
     cases e4:(((al ((aA a0).2) (16:Int)).1)==(4:Int))
     ·skip
      cases e5:(((al ((aA a0).2) (16:Int)).1)==(5:Int))
      ·skip
       cases e6:(((al ((aA a0).2) (16:Int)).1)==(6:Int))
       ·skip
        cases e7:(((al ((aA a0).2) (16:Int)).1)==(7:Int))
        ·skip
         refine⟨(?aeI,?aeJ),?gx8,0,?rx8⟩
         case rx8=>
          intro R k
          rw[iz]
          simp (decide:=true) (maxDischargeDepth:=60) only[hg,ch,bJ,bu,bE,bK,bA,cP,dW,dF,cX,bP,bW,cond_true,cond_false,Bool.not_true,Bool.not_false,e0,e1,e2,e3,e4,e5,e6,e7,aL,dC,dB,bS,bT,q1,q2,q3,q4,q5,q6,rX,so,sf,sn,q7,l1,l2,b1,b2,g1,t1,t2,t3,gg]
          exact rfl
         case gx8=>
          simp (decide:=true) (maxDischargeDepth:=60) only[hg,ch,bJ,bu,bE,bK,bA,cP,dW,dF,cX,df,dD,dv,dE,aY,dV,cD,Bool.and_eq_true,and_self,true_and,and_true,bP,bW,e0,e1,e2,e3,e4,e5,e6,e7,aL,dC,dB,bS,bT,q1,q2,q3,q4,q5,q6,rX,so,sf,sn,q7,l1,l2,b1,b2,g1,t1,t2,t3,gg]
        cases e9:(decide (((ae.aq ((aA a0).1)).length:Int)>(0:Int)))
        ·skip
         refine⟨(?acq,?acr),?aav,0,?aaw⟩
         case aaw=>
          intro R k
          rw[iz]
          simp (decide:=true) (maxDischargeDepth:=60) only[hg,ch,bJ,bu,bE,bK,bA,cP,dW,dF,cX,bP,bW,cond_true,cond_false,Bool.not_true,Bool.not_false,e0,e1,e2,e3,e4,e5,e6,e7,e9,aL,dC,dB,bS,bT,q1,q2,q3,q4,q5,q6,rX,so,sf,sn,q7,l1,l2,b1,b2,g1,t1,t2,t3,gg]
          exact rfl
         case aav=>
          simp (decide:=true) (maxDischargeDepth:=60) only[hg,ch,bJ,bu,bE,bK,bA,cP,dW,dF,cX,df,dD,dv,dE,aY,dV,cD,Bool.and_eq_true,and_self,true_and,and_true,bP,bW,e0,e1,e2,e3,e4,e5,e6,e7,e9,aL,dC,dB,bS,bT,q1,q2,q3,q4,q5,q6,rX,so,sf,sn,q7,l1,l2,b1,b2,g1,t1,t2,t3,gg]
        refine⟨(?acs,?acu),?aax,0,?aay⟩
        case aay=>
         intro R k
         rw[iz]
         simp (decide:=true) (maxDischargeDepth:=60) only[hg,ch,bJ,bu,bE,bK,bA,cP,dW,dF,cX,bP,bW,cond_true,cond_false,Bool.not_true,Bool.not_false,e0,e1,e2,e3,e4,e5,e6,e7,e9,aL,dC,dB,bS,bT,q1,q2,q3,q4,q5,q6,rX,so,sf,sn,q7,l1,l2,b1,b2,g1,t1,t2,t3,gg]
         exact rfl
        case aax=>
         simp (decide:=true) (maxDischargeDepth:=60) only[hg,ch,bJ,bu,bE,bK,bA,cP,dW,dF,cX,df,dD,dv,dE,aY,dV,cD,Bool.and_eq_true,and_self,true_and,and_true,bP,bW,e0,e1,e2,e3,e4,e5,e6,e7,e9,aL,dC,dB,bS,bT,q1,q2,q3,q4,q5,q6,rX,so,sf,sn,q7,l1,l2,b1,b2,g1,t1,t2,t3,gg]
       refine⟨(?acv,?acw),?aaz,0,?aaA⟩
       case aaA=>
        intro R k
        rw[iz]
        simp (decide:=true) (maxDischargeDepth:=60) only[hg,ch,bJ,bu,bE,bK,bA,cP,dW,dF,cX,bP,bW,cond_true,cond_false,Bool.not_true,Bool.not_false,e0,e1,e2,e3,e4,e5,e6,aL,dC,dB,bS,bT,q1,q2,q3,q4,q5,q6,rX,so,sf,sn,q7,l1,l2,b1,b2,g1,t1,t2,t3,gg]
        exact rfl
       case aaz=>
        simp (decide:=true) (maxDischargeDepth:=60) only[hg,ch,bJ,bu,bE,bK,bA,cP,dW,dF,cX,df,dD,dv,dE,aY,dV,cD,Bool.and_eq_true,and_self,true_and,and_true,bP,bW,e0,e1,e2,e3,e4,e5,e6,aL,dC,dB,bS,bT,q1,q2,q3,q4,q5,q6,rX,so,sf,sn,q7,l1,l2,b1,b2,g1,t1,t2,t3,gg]
      refine⟨(?acx,?acy),?aaB,0,?aaC⟩
      case aaC=>
       intro R k
       rw[iz]
       simp (decide:=true) (maxDischargeDepth:=60) only[hg,ch,bJ,bu,bE,bK,bA,cP,dW,dF,cX,bP,bW,cond_true,cond_false,Bool.not_true,Bool.not_false,e0,e1,e2,e3,e4,e5,aL,dC,dB,bS,bT,q1,q2,q3,q4,q5,q6,rX,so,sf,sn,q7,l1,l2,b1,b2,g1,t1,t2,t3,gg]
       exact rfl
      case aaB=>
       simp (decide:=true) (maxDischargeDepth:=60) only[hg,ch,bJ,bu,bE,bK,bA,cP,dW,dF,cX,df,dD,dv,dE,aY,dV,cD,Bool.and_eq_true,and_self,true_and,and_true,bP,bW,e0,e1,e2,e3,e4,e5,aL,dC,dB,bS,bT,q1,q2,q3,q4,q5,q6,rX,so,sf,sn,q7,l1,l2,b1,b2,g1,t1,t2,t3,gg]
     refine⟨(?acz,?acA),?aaD,0,?aaE⟩
     case aaE=>
      intro R k
      rw[iz]
      simp (decide:=true) (maxDischargeDepth:=60) only[hg,ch,bJ,bu,bE,bK,bA,cP,dW,dF,cX,bP,bW,cond_true,cond_false,Bool.not_true,Bool.not_false,e0,e1,e2,e3,e4,aL,dC,dB,bS,bT,q1,q2,q3,q4,q5,q6,rX,so,sf,sn,q7,l1,l2,b1,b2,g1,t1,t2,t3,gg]
      exact rfl
     case aaD=>
      simp (decide:=true) (maxDischargeDepth:=60) only[hg,ch,bJ,bu,bE,bK,bA,cP,dW,dF,cX,df,dD,dv,dE,aY,dV,cD,Bool.and_eq_true,and_self,true_and,and_true,bP,bW,e0,e1,e2,e3,e4,aL,dC,dB,bS,bT,q1,q2,q3,q4,q5,q6,rX,so,sf,sn,q7,l1,l2,b1,b2,g1,t1,t2,t3,gg]
    refine⟨(?acB,?acC),?aaF,0,?aaG⟩
    case aaG=>
     intro R k
     rw[iz]
     simp (decide:=true) (maxDischargeDepth:=60) only[hg,ch,bJ,bu,bE,bK,bA,cP,dW,dF,cX,bP,bW,cond_true,cond_false,Bool.not_true,Bool.not_false,e0,e1,e2,e3,aL,dC,dB,bS,bT,q1,q2,q3,q4,q5,q6,rX,so,sf,sn,q7,l1,l2,b1,b2,g1,t1,t2,t3,gg]
     exact rfl
    case aaF=>
     simp (decide:=true) (maxDischargeDepth:=60) only[hg,ch,bJ,bu,bE,bK,bA,cP,dW,dF,cX,df,dD,dv,dE,aY,dV,cD,Bool.and_eq_true,and_self,true_and,and_true,bP,bW,e0,e1,e2,e3,aL,dC,dB,bS,bT,q1,q2,q3,q4,q5,q6,rX,so,sf,sn,q7,l1,l2,b1,b2,g1,t1,t2,t3,gg]
   refine⟨(?acD,?acE),?aaH,0,?aaI⟩
   case aaI=>
    intro R k
    rw[iz]
    simp (decide:=true) (maxDischargeDepth:=60) only[hg,ch,bJ,bu,bE,bK,bA,cP,dW,dF,cX,bP,bW,cond_true,cond_false,Bool.not_true,Bool.not_false,e0,e1,e2,aL,dC,dB,bS,bT,q1,q2,q3,q4,q5,q6,rX,so,sf,sn,q7,l1,l2,b1,b2,g1,t1,t2,t3,gg]
    exact rfl
   case aaH=>
    simp (decide:=true) (maxDischargeDepth:=60) only[hg,ch,bJ,bu,bE,bK,bA,cP,dW,dF,cX,df,dD,dv,dE,aY,dV,cD,Bool.and_eq_true,and_self,true_and,and_true,bP,bW,e0,e1,e2,aL,dC,dB,bS,bT,q1,q2,q3,q4,q5,q6,rX,so,sf,sn,q7,l1,l2,b1,b2,g1,t1,t2,t3,gg]
  refine⟨(?acF,?acG),?aaJ,0,?aaK⟩
  case aaK=>
   intro R k
   rw[iz]
   simp (decide:=true) (maxDischargeDepth:=60) only[hg,ch,bJ,bu,bE,bK,bA,cP,dW,dF,cX,bP,bW,cond_true,cond_false,Bool.not_true,Bool.not_false,e0,e1,aL,dC,dB,bS,bT,q1,q2,q3,q4,q5,q6,rX,so,sf,sn,q7,l1,l2,b1,b2,g1,t1,t2,t3,gg]
   exact rfl
  case aaJ=>
   simp (decide:=true) (maxDischargeDepth:=60) only[hg,ch,bJ,bu,bE,bK,bA,cP,dW,dF,cX,df,dD,dv,dE,aY,dV,cD,Bool.and_eq_true,and_self,true_and,and_true,bP,bW,e0,e1,aL,dC,dB,bS,bT,q1,q2,q3,q4,q5,q6,rX,so,sf,sn,q7,l1,l2,b1,b2,g1,t1,t2,t3,gg]
 refine⟨(?acH,?acI),?aaL,0,?aaM⟩
 case aaM=>
  intro R k
  rw[iz]
  simp (decide:=true) (maxDischargeDepth:=60) only[hg,ch,bJ,bu,bE,bK,bA,cP,dW,dF,cX,bP,bW,cond_true,cond_false,Bool.not_true,Bool.not_false,e0,aL,dC,dB,bS,bT,q1,q2,q3,q4,q5,q6,rX,so,sf,sn,q7,l1,l2,b1,b2,g1,t1,t2,t3,gg]
  exact rfl
 case aaL=>
  simp (decide:=true) (maxDischargeDepth:=60) only[hg,ch,bJ,bu,bE,bK,bA,cP,dW,dF,cX,df,dD,dv,dE,aY,dV,cD,Bool.and_eq_true,and_self,true_and,and_true,bP,bW,e0,aL,dC,dB,bS,bT,q1,q2,q3,q4,q5,q6,rX,so,sf,sn,q7,l1,l2,b1,b2,g1,t1,t2,t3,gg]
theorem LL(a0:ay):Nonempty {o:ae×ay // aZ a0=true→Q6 a0 o}:=by
 by_cases hg:aZ a0=true
 ·obtain⟨o,ho⟩:=TQ a0 hg
  exact⟨⟨o,fun _=>ho⟩⟩
 ·exact⟨⟨((zero .order),(zero .cp)),fun h=>absurd h hg⟩⟩
noncomputable def sA(a0:ay):ae×ay:=(Classical.choice (LL a0)).val
theorem LM(a0:ay)(hg:aZ a0=true):Q6 a0 (sA a0):=(Classical.choice (LL a0)).property hg
theorem LN(a0:ay)(hg:aZ a0=true):(fun _ o=>aL o.1=true∧aZ o.2=true) a0 (sA a0):=(LM a0 hg).1
theorem LO(a0:ay)(hg:aZ a0=true):∃keep rounds,∀{R:Type}(k:Kt R),aO O' keep rounds LK [.bX] [false] true [.cell 2 45] [45] [.d .cp a0] k=k [.d .order ((sA a0).1),.d .cp ((sA a0).2)]:=by
 obtain⟨n,hn⟩:=(LM a0 hg).2
 exact⟨O9,n,hn⟩
noncomputable def q58:Qt
 | [.d .cp a0]=>some ((aZ a0),[.d .order ((sA a0).1),.d .cp ((sA a0).2)])
 |_=>none
noncomputable def s58:Gm.Spec:=Gm.Spec.of [.bX] [false] true q58
theorem TR:Gm.Good Try.prog (58,s58):=by
 have hl:∀x∈[(80,Fz),(83,OZ),(99,s99),(100,xc),(101,LA)],Gm.Good Try.prog x:=aU.2 ⟨oT,aU.2 ⟨xd,aU.2 ⟨TP,aU.2 ⟨p4,aU.2 ⟨Dj,gD⟩⟩⟩⟩⟩
 refine⟨⟨aM (aV.env hl) (bd.cz hl) Try.func58 (by kernel_rfl:Try.f58.body=some LK) [45] (by kernel_rfl) ?_,_,Try.func58,by kernel_rfl,of_decide_eq_true (by kernel_rfl)⟩,Gm.Spec.aG _ _ _ _⟩
 intro ds outs h
 unfold q58 at h
 split at h
 ·simp only[Option.some.injEq,Prod.mk.injEq] at h;obtain⟨hg,h⟩:=h;cases h;exact LO _ hg
 ·cases h
noncomputable def LP:Code:=(Try.f17.body).getD .skip
def Pa:Nat→Kp:=fF [⟨[0,2],[],[],[]⟩,⟨[2],[],[],[]⟩]
noncomputable def Pb:Env:=bd.env [(58,s58),(59,s59)]
theorem Pc{R:Type}(n:Nat)(k:Kt R)(a0:List Int):aO Pb Pa n LP [.jK] [false] true [.cell 2 45] [45] [.d (.sl (.i .u8)) a0] k=
 (cond (gy a0)
 (cond (aZ (mY a0))
 (k [.d .order ((sA (mY a0)).1)])
 none)
 none):=by kernel_rfl
def Q7(a0:List Int)(o:ae):Prop:=(fun _ o=>aL o=true) a0 o∧∃n:Nat,∀{R:Type}(k:Kt R),aO Pb Pa n LP [.jK] [false] true [.cell 2 45] [45] [.d (.sl (.i .u8)) a0] k=k [.d .order o]
theorem TS(a0:List Int)(hg:gy a0=true):∃o:ae,(fun _ o=>aL o=true) a0 o∧∃n:Nat,∀{R:Type}(k:Kt R),aO Pb Pa n LP [.jK] [false] true [.cell 2 45] [45] [.d (.sl (.i .u8)) a0] k=k [.d .order o]:=by
 have g0:=uL a0 hg
 obtain⟨hs,g1⟩:=LN _ g0
 refine⟨?aeM,?Fv,0,?Fw⟩
 case Fw=>
  intro R k
  rw[Pc]
  simp only[hg,g0,cond_true,cond_false,Bool.not_true,Bool.not_false]
  exact rfl
 case Fv=>exact hs
theorem LQ(a0:List Int):Nonempty {o:ae // gy a0=true→Q7 a0 o}:=by
 by_cases hg:gy a0=true
 ·obtain⟨o,ho⟩:=TS a0 hg
  exact⟨⟨o,fun _=>ho⟩⟩
 ·exact⟨⟨((zero .order)),fun h=>absurd h hg⟩⟩
noncomputable def bo(a0:List Int):ae:=(Classical.choice (LQ a0)).val
theorem LR(a0:List Int)(hg:gy a0=true):Q7 a0 (bo a0):=(Classical.choice (LQ a0)).property hg
theorem TT(a0:List Int)(hg:gy a0=true):(fun _ o=>aL o=true) a0 (bo a0):=(LR a0 hg).1
theorem LS(a0:List Int)(hg:gy a0=true):∃keep rounds,∀{R:Type}(k:Kt R),aO Pb keep rounds LP [.jK] [false] true [.cell 2 45] [45] [.d (.sl (.i .u8)) a0] k=k [.d .order (bo a0)]:=by
 obtain⟨n,hn⟩:=(LR a0 hg).2
 exact⟨Pa,n,hn⟩
noncomputable def q17:Qt
 | [.d (.sl (.i .u8)) a0]=>some ((gy a0),[.d .order (bo a0)])
 |_=>none
noncomputable def s17:Gm.Spec:=Gm.Spec.of [.jK] [false] true q17
theorem TU:Gm.Good Try.prog (17,s17):=by
 have hl:∀x∈[(58,s58),(59,s59)],Gm.Good Try.prog x:=aU.2 ⟨TR,aU.2 ⟨TE,gD⟩⟩
 refine⟨⟨aM (aV.env hl) (bd.cz hl) Try.func17 (by kernel_rfl:Try.f17.body=some LP) [45] (by kernel_rfl) ?_,_,Try.func17,by kernel_rfl,of_decide_eq_true (by kernel_rfl)⟩,Gm.Spec.aG _ _ _ _⟩
 intro ds outs h
 unfold q17 at h
 split at h
 ·simp only[Option.some.injEq,Prod.mk.injEq] at h;obtain⟨hg,h⟩:=h;cases h;exact LS _ hg
 ·cases h
noncomputable def nX(y0:Bool)(y1:List ag)(y2:Int)(y3:Int)(y4:Int)(y5:Int)(y6:Int)(y7:Int)(y8:BA)(y9:BA)(Bj:Int)(wa:Int)(sb:List aj)(tq:Int)(wy:Int)(wz:Int)(w3:Int)(w4:List aF)(w5:Int)(w6:Nat)(w7:List af)(BI:List af):St:=⟨[(7,.c (.one (.pt 7 0))),(8,.c (.one (.h 1280 0 0 []))),(9,.c (.one (.v (.bool y0)))),(14,.c (.one (.ro .event y1))),(15,.c (.one (.v (.int .i64 y2)))),(16,.c (.one (.v (.int .i64 y3)))),(24,.c (.one (.h 832 0 0 []))),(25,.c (.one (.v (.int .i64 y4)))),(26,.c (.one (.v (.int .i64 y5))))],[(7,⟨.event,[.v (.int .i64 y6),.v (.int .i64 y7),.v (.string y8),.v (.string y9),.v (.int .i64 Bj),.v (.int .i64 wa),.ro .aw sb,.v (.int .i64 tq),.v (.int .i64 wy),.v (.int .i64 wz),.v (.int .i64 w3),.ro .note w4,.v (.int .i64 w5)]⟩)],[(832,.live ⟨.item,(.part (.cur w6 0)),0,[],w7⟩),(1280,.live ⟨.item,.deep,0,[],BI⟩)]⟩
noncomputable def LU(y0:Bool)(y1:List ag)(y2:Int)(y3:Int)(y4:Int)(y5:Int)(y6:Bool)(y7:Int)(y8:Int)(y9:BA)(Bj:BA)(wa:Int)(sb:Int)(tq:List aj)(wy:Int)(wz:Int)(w3:Int)(w4:Int)(w5:List aF)(w6:Int)(w7:Nat)(BI:List af)(TN:List af):St:=⟨[(7,.c (.one (.pt 7 0))),(8,.c (.one (.h 1280 0 0 []))),(9,.c (.one (.v (.bool y0)))),(14,.c (.one (.ro .event y1))),(15,.c (.one (.v (.int .i64 y2)))),(16,.c (.one (.v (.int .i64 y3)))),(24,.c (.one (.h 832 0 0 []))),(25,.c (.one (.v (.int .i64 y4)))),(26,.c (.one (.v (.int .i64 y5)))),(27,.c (.one (.v (.bool y6))))],[(7,⟨.event,[.v (.int .i64 y7),.v (.int .i64 y8),.v (.string y9),.v (.string Bj),.v (.int .i64 wa),.v (.int .i64 sb),.ro .aw tq,.v (.int .i64 wy),.v (.int .i64 wz),.v (.int .i64 w3),.v (.int .i64 w4),.ro .note w5,.v (.int .i64 w6)]⟩)],[(832,.live ⟨.item,(.part (.cur w7 0)),0,[],BI⟩),(1280,.live ⟨.item,.deep,0,[],TN⟩)]⟩
noncomputable def sB(y0:List ag)(y1:Int)(y2:Int)(y3:List af):St:=⟨[(5,.c (.one (.h 832 0 0 []))),(14,.c (.one (.ro .event y0))),(15,.c (.one (.v (.int .i64 y1)))),(16,.c (.one (.v (.int .i64 y2))))],[],[(832,.live ⟨.item,.deep,0,[],y3⟩)]⟩
noncomputable def Dq(y0:List ag)(y1:Int)(y2:Int)(y3:Bool)(y4:List af):St:=⟨[(5,.c (.one (.h 832 0 0 []))),(14,.c (.one (.ro .event y0))),(15,.c (.one (.v (.int .i64 y1)))),(16,.c (.one (.v (.int .i64 y2)))),(17,.c (.one (.v (.bool y3))))],[],[(832,.live ⟨.item,.deep,0,[],y4⟩)]⟩
noncomputable def pK:Code:=(Try.f25.body).getD .skip
def sC:Nat→Kp:=fF [⟨[0,1],[],[],[]⟩,⟨[1,5],[],[],[]⟩,⟨[5,14,15,16],[],[],[]⟩,⟨[5,14,15,16,17],[],[],[]⟩,⟨[5,7,14,15,16],[],[],[]⟩,⟨[5,7,8,9,14,15,16],[],[],[]⟩,⟨[7,8,9,14,15,16,24,25,26],[],[2000000832],[]⟩,⟨[7,8,9,14,15,16,24,25,26,27],[],[],[]⟩,⟨[7,8,9,11,14,15,16,24,25,26],[],[],[]⟩,⟨[7,8,9,11,14,15,16,24,25,26,41],[],[],[]⟩,⟨[7,8,9,11,14,15,16,24,25,26],[],[],[]⟩,⟨[7,8,9,11,14,15,16,24,25,26,55],[],[],[]⟩,⟨[7,8,9,14,15,16,24,25,26],[],[],[]⟩,⟨[7,8,9,14,15,16,24,25,26],[],[],[]⟩,⟨[7,8,14,15,16,62],[],[],[]⟩,⟨[8,14,15,16],[],[],[]⟩,⟨[5,14,15,16],[],[],[]⟩,⟨[5,14,15,16],[],[],[(1280,832)]⟩,⟨[4],[],[],[]⟩]
noncomputable def oV:Env:=bd.env [(61,Ev),(69,SK)]
noncomputable def kA{R:Type}(n:Nat)(x0:Bool→Int→Bool→Nat→(List af)→Option R)(wB:List ag)(wE:Int)(wA:Int)(wR:Int)(wS:Int)(wT:Int)(wF:BA)(wG:BA)(wH:Int)(wI:Int)(wJ:List aj)(wK:Int)(wL:Int)(wM:Int)(wN:Int)(wO:List aF)(wP:Int)(wD:List af):Nat→Bool→Int→Nat→(List af)→Option R
  |0,_,_,_,_=>none
  |m+1,wU,wC,eY,wQ=>
    (cond (decide (wC<wR))
   (cond ((decide ((0:Int)≤wC))&&(decide (wC<(wD.length:Int))))
    (cond (!wU)
     (cond (!(gS (ae.name (af.order (ax (t:= .item) wD (Int.toNat wC)))) wF))
      (cond (bn (⟨(⟨wF,wG,wH,wI,wJ,(⟨wK,wL,wM,wN⟩:aB),wO⟩:ae),wP⟩:af))
       (cond (Nat.ble (wQ.length+1) fO)
        (cond (!(fX (ae.name (af.order (ax (t:= .item) wD (Int.toNat wC)))) wF))
         (cond (ld eY 0 (Int.toNat wC) 4)
          (cond (ld (Int.toNat wC) 5 (Int.toNat wC) 9)
           (cond (Nat.ble ((wQ++([(⟨(⟨wF,wG,wH,wI,wJ,(⟨wK,wL,wM,wN⟩:aB),wO⟩:ae),wP⟩:af)]:List af)).length+1) fO)
            (kA n x0 wB wE wA wR wS wT wF wG wH wI wJ wK wL wM wN wO wP wD m true (IntKind.wrap .i64 (wC+(1:Int))) ((Int.toNat wC)+1) ((wQ++([(⟨(⟨wF,wG,wH,wI,wJ,(⟨wK,wL,wM,wN⟩:aB),wO⟩:ae),wP⟩:af)]:List af))++([(ax (t:= .item) wD (Int.toNat wC))]:List af)))
            none)
           none)
          none)
         (kA n x0 wB wE wA wR wS wT wF wG wH wI wJ wK wL wM wN wO wP wD m true (IntKind.wrap .i64 (wC+(1:Int))) eY (wQ++([(⟨(⟨wF,wG,wH,wI,wJ,(⟨wK,wL,wM,wN⟩:aB),wO⟩:ae),wP⟩:af)]:List af))))
        none)
       none)
      (cond (!(fX (ae.name (af.order (ax (t:= .item) wD (Int.toNat wC)))) wF))
       (cond (ld eY 0 (Int.toNat wC) 4)
        (cond (ld (Int.toNat wC) 5 (Int.toNat wC) 9)
         (cond (Nat.ble (wQ.length+1) fO)
          (kA n x0 wB wE wA wR wS wT wF wG wH wI wJ wK wL wM wN wO wP wD m wU (IntKind.wrap .i64 (wC+(1:Int))) ((Int.toNat wC)+1) (wQ++([(ax (t:= .item) wD (Int.toNat wC))]:List af)))
          none)
         none)
        none)
       (kA n x0 wB wE wA wR wS wT wF wG wH wI wJ wK wL wM wN wO wP wD m wU (IntKind.wrap .i64 (wC+(1:Int))) eY wQ)))
     (cond (!(fX (ae.name (af.order (ax (t:= .item) wD (Int.toNat wC)))) wF))
      (cond (ld eY 0 (Int.toNat wC) 4)
       (cond (ld (Int.toNat wC) 5 (Int.toNat wC) 9)
        (cond (Nat.ble (wQ.length+1) fO)
         (kA n x0 wB wE wA wR wS wT wF wG wH wI wJ wK wL wM wN wO wP wD m wU (IntKind.wrap .i64 (wC+(1:Int))) ((Int.toNat wC)+1) (wQ++([(ax (t:= .item) wD (Int.toNat wC))]:List af)))
         none)
        none)
       none)
      (kA n x0 wB wE wA wR wS wT wF wG wH wI wJ wK wL wM wN wO wP wD m wU (IntKind.wrap .i64 (wC+(1:Int))) eY wQ)))
    none)
   (x0 wU wC (decide (wC<wR)) eY wQ))
theorem Pd{R:Type}(n:Nat)(k':Kx R)(wU:Bool)(wB:List ag)(wE:Int)(wA:Int)(wR:Int)(wC:Int)(wS:Int)(wT:Int)(wF:BA)(wG:BA)(wH:Int)(wI:Int)(wJ:List aj)(wK:Int)(wL:Int)(wM:Int)(wN:Int)(wO:List aF)(wP:Int)(eY:Nat)(wD:List af)(wQ:List af):ev oV sC n (cM [1,1,0,1,0,0,1,1,0,0,1,1,0,1,0,0] pK) (nX wU wB wE wA wR wC wS wT wF wG wH wI wJ wK wL wM wN wO wP eY wD wQ) k'=
 (cond (decide (wC<wR))
 (cond ((decide ((0:Int)≤wC))&&(decide (wC<(wD.length:Int))))
 (cond (!wU)
 (cond (!(gS (ae.name (af.order (ax (t:= .item) wD (Int.toNat wC)))) wF))
 (cond (bn (⟨(⟨wF,wG,wH,wI,wJ,(⟨wK,wL,wM,wN⟩:aB),wO⟩:ae),wP⟩:af))
 (cond (Nat.ble (wQ.length+1) fO)
 (cond (!(fX (ae.name (af.order (ax (t:= .item) wD (Int.toNat wC)))) wF))
 (cond (ld eY 0 (Int.toNat wC) 4)
 (cond (ld (Int.toNat wC) 5 (Int.toNat wC) 9)
 (cond (Nat.ble ((wQ++([(⟨(⟨wF,wG,wH,wI,wJ,(⟨wK,wL,wM,wN⟩:aB),wO⟩:ae),wP⟩:af)]:List af)).length+1) fO)
 (k' .normal (nX true wB wE wA wR (IntKind.wrap .i64 (wC+(1:Int))) wS wT wF wG wH wI wJ wK wL wM wN wO wP ((Int.toNat wC)+1) wD ((wQ++([(⟨(⟨wF,wG,wH,wI,wJ,(⟨wK,wL,wM,wN⟩:aB),wO⟩:ae),wP⟩:af)]:List af))++([(ax (t:= .item) wD (Int.toNat wC))]:List af))))
 none)
 none)
 none)
 (k' .normal (nX true wB wE wA wR (IntKind.wrap .i64 (wC+(1:Int))) wS wT wF wG wH wI wJ wK wL wM wN wO wP eY wD (wQ++([(⟨(⟨wF,wG,wH,wI,wJ,(⟨wK,wL,wM,wN⟩:aB),wO⟩:ae),wP⟩:af)]:List af)))))
 none)
 none)
 (cond (!(fX (ae.name (af.order (ax (t:= .item) wD (Int.toNat wC)))) wF))
 (cond (ld eY 0 (Int.toNat wC) 4)
 (cond (ld (Int.toNat wC) 5 (Int.toNat wC) 9)
 (cond (Nat.ble (wQ.length+1) fO)
 (k' .normal (nX wU wB wE wA wR (IntKind.wrap .i64 (wC+(1:Int))) wS wT wF wG wH wI wJ wK wL wM wN wO wP ((Int.toNat wC)+1) wD (wQ++([(ax (t:= .item) wD (Int.toNat wC))]:List af))))
 none)
 none)
 none)
 (k' .normal (nX wU wB wE wA wR (IntKind.wrap .i64 (wC+(1:Int))) wS wT wF wG wH wI wJ wK wL wM wN wO wP eY wD wQ))))
 (cond (!(fX (ae.name (af.order (ax (t:= .item) wD (Int.toNat wC)))) wF))
 (cond (ld eY 0 (Int.toNat wC) 4)
 (cond (ld (Int.toNat wC) 5 (Int.toNat wC) 9)
 (cond (Nat.ble (wQ.length+1) fO)
 (k' .normal (nX wU wB wE wA wR (IntKind.wrap .i64 (wC+(1:Int))) wS wT wF wG wH wI wJ wK wL wM wN wO wP ((Int.toNat wC)+1) wD (wQ++([(ax (t:= .item) wD (Int.toNat wC))]:List af))))
 none)
 none)
 none)
 (k' .normal (nX wU wB wE wA wR (IntKind.wrap .i64 (wC+(1:Int))) wS wT wF wG wH wI wJ wK wL wM wN wO wP eY wD wQ))))
 none)
 (k' (.exit 2) (LU wU wB wE wA wR wC (decide (wC<wR)) wS wT wF wG wH wI wJ wK wL wM wN wO wP eY wD wQ))):=by kernel_rfl
theorem LV{R:Type}(n:Nat)(k':Kx R)(wB:List ag)(wE:Int)(wA:Int)(wR:Int)(wS:Int)(wT:Int)(wF:BA)(wG:BA)(wH:Int)(wI:Int)(wJ:List aj)(wK:Int)(wL:Int)(wM:Int)(wN:Int)(wO:List aF)(wP:Int)(wD:List af):∀(m:Nat)(wU:Bool)(wC:Int)(eY:Nat)(wQ:List af),iter (fun st k=>ev oV sC n (cM [1,1,0,1,0,0,1,1,0,0,1,1,0,1,0,0] pK) st k) m (nX wU wB wE wA wR wC wS wT wF wG wH wI wJ wK wL wM wN wO wP eY wD wQ) k'=kA n (fun(wW:Bool)(wY:Int)(wZ:Bool)(nY:Nat)(wV:List af)=>k' (.exit 2) (LU wW wB wE wA wR wY wZ wS wT wF wG wH wI wJ wK wL wM wN wO wP nY wD wV)) wB wE wA wR wS wT wF wG wH wI wJ wK wL wM wN wO wP wD m wU wC eY wQ:=by
 intro m;induction m with
 |zero=>intros;rfl
 |succ m ih=>
  intro wU wC eY wQ
  simp only[iter]
  rw[Pd]
  simp only[ih,kA]
noncomputable def Q8{R:Type}(n:Nat)(k':Kx R):Kx R:=(cL 2 (gd oV sC n (cM [1,1,0,1,0,0,1,1,0,0,1,1,1] pK) (cL 1 (gd oV sC n (cM [1,1,0,1,0,0,1,1,1] pK) k'))))
theorem LW{R:Type}(n:Nat)(k':Kx R)(wB:List ag)(wE:Int)(wA:Int)(wR:Int)(wS:Int)(wT:Int)(wF:BA)(wG:BA)(wH:Int)(wI:Int)(wJ:List aj)(wK:Int)(wL:Int)(wM:Int)(wN:Int)(wO:List aF)(wP:Int)(wD:List af)(wW:Bool)(wY:Int)(wZ:Bool)(nY:Nat)(wV:List af):Q8 n k' (.exit 2) (LU wW wB wE wA wR wY wZ wS wT wF wG wH wI wJ wK wL wM wN wO wP nY wD wV)=
 (cond (!wW)
 (cond (bn (⟨(⟨wF,wG,wH,wI,wJ,(⟨wK,wL,wM,wN⟩:aB),wO⟩:ae),wP⟩:af))
 (cond (Nat.ble (wV.length+1) fO)
 (k' .normal (sB wB wE (IntKind.wrap .i64 (wA+(1:Int))) (wV++([(⟨(⟨wF,wG,wH,wI,wJ,(⟨wK,wL,wM,wN⟩:aB),wO⟩:ae),wP⟩:af)]:List af))))
 none)
 none)
 (k' .normal (sB wB wE (IntKind.wrap .i64 (wA+(1:Int))) wV))):=by kernel_rfl
noncomputable def py{R:Type}(n:Nat)(x0:Int→Bool→(List af)→Option R)(wB:List ag)(wE:Int):Nat→Int→(List af)→Option R
  |0,_,_=>none
  |m+1,wA,wD=>
    (cond (decide (wA<wE))
   (cond ((decide ((0:Int)≤wA))&&(decide (wA<(wB.length:Int))))
    (kA n (fun(wW:Bool)(wY:Int)(wZ:Bool)(nY:Nat)(wV:List af)=>
     (cond (!wW)
      (cond (bn (⟨(⟨(ae.name (af.order (ag.item (ax (t:= .event) wB (Int.toNat wA))))),(ae.target (af.order (ag.item (ax (t:= .event) wB (Int.toNat wA))))),(ae.low (af.order (ag.item (ax (t:= .event) wB (Int.toNat wA))))),(ae.high (af.order (ag.item (ax (t:= .event) wB (Int.toNat wA))))),(ae.aq (af.order (ag.item (ax (t:= .event) wB (Int.toNat wA))))),(⟨(aB.up (ae.aD (af.order (ag.item (ax (t:= .event) wB (Int.toNat wA)))))),(aB.down (ae.aD (af.order (ag.item (ax (t:= .event) wB (Int.toNat wA)))))),(aB.bU (ae.aD (af.order (ag.item (ax (t:= .event) wB (Int.toNat wA)))))),(aB.bm (ae.aD (af.order (ag.item (ax (t:= .event) wB (Int.toNat wA))))))⟩:aB),(ae.notes (af.order (ag.item (ax (t:= .event) wB (Int.toNat wA)))))⟩:ae),(af.ver (ag.item (ax (t:= .event) wB (Int.toNat wA))))⟩:af))
       (cond (Nat.ble (wV.length+1) fO)
        (py n x0 wB wE m (IntKind.wrap .i64 (wA+(1:Int))) (wV++([(⟨(⟨(ae.name (af.order (ag.item (ax (t:= .event) wB (Int.toNat wA))))),(ae.target (af.order (ag.item (ax (t:= .event) wB (Int.toNat wA))))),(ae.low (af.order (ag.item (ax (t:= .event) wB (Int.toNat wA))))),(ae.high (af.order (ag.item (ax (t:= .event) wB (Int.toNat wA))))),(ae.aq (af.order (ag.item (ax (t:= .event) wB (Int.toNat wA))))),(⟨(aB.up (ae.aD (af.order (ag.item (ax (t:= .event) wB (Int.toNat wA)))))),(aB.down (ae.aD (af.order (ag.item (ax (t:= .event) wB (Int.toNat wA)))))),(aB.bU (ae.aD (af.order (ag.item (ax (t:= .event) wB (Int.toNat wA)))))),(aB.bm (ae.aD (af.order (ag.item (ax (t:= .event) wB (Int.toNat wA))))))⟩:aB),(ae.notes (af.order (ag.item (ax (t:= .event) wB (Int.toNat wA)))))⟩:ae),(af.ver (ag.item (ax (t:= .event) wB (Int.toNat wA))))⟩:af)]:List af)))
        none)
       none)
      (py n x0 wB wE m (IntKind.wrap .i64 (wA+(1:Int))) wV))) wB wE wA (wD.length:Int) (ag.seq (ax (t:= .event) wB (Int.toNat wA))) (ag.kind (ax (t:= .event) wB (Int.toNat wA))) (ae.name (af.order (ag.item (ax (t:= .event) wB (Int.toNat wA))))) (ae.target (af.order (ag.item (ax (t:= .event) wB (Int.toNat wA))))) (ae.low (af.order (ag.item (ax (t:= .event) wB (Int.toNat wA))))) (ae.high (af.order (ag.item (ax (t:= .event) wB (Int.toNat wA))))) (ae.aq (af.order (ag.item (ax (t:= .event) wB (Int.toNat wA))))) (aB.up (ae.aD (af.order (ag.item (ax (t:= .event) wB (Int.toNat wA)))))) (aB.down (ae.aD (af.order (ag.item (ax (t:= .event) wB (Int.toNat wA)))))) (aB.bU (ae.aD (af.order (ag.item (ax (t:= .event) wB (Int.toNat wA)))))) (aB.bm (ae.aD (af.order (ag.item (ax (t:= .event) wB (Int.toNat wA)))))) (ae.notes (af.order (ag.item (ax (t:= .event) wB (Int.toNat wA))))) (af.ver (ag.item (ax (t:= .event) wB (Int.toNat wA)))) wD n ((ag.kind (ax (t:= .event) wB (Int.toNat wA))) !=(1:Int)) (0:Int) (0:Nat) ([]:List af))
    none)
   (x0 wA (decide (wA<wE)) wD))
theorem Pe{R:Type}(n:Nat)(k':Kx R)(wB:List ag)(wE:Int)(wA:Int)(wD:List af):ev oV sC n (cM [1,1,0,1,0,0] pK) (sB wB wE wA wD) k'=
 (cond (decide (wA<wE))
 (cond ((decide ((0:Int)≤wA))&&(decide (wA<(wB.length:Int))))
 (kA n (fun(wW:Bool)(wY:Int)(wZ:Bool)(nY:Nat)(wV:List af)=>
 (cond (!wW)
 (cond (bn (⟨(⟨(ae.name (af.order (ag.item (ax (t:= .event) wB (Int.toNat wA))))),(ae.target (af.order (ag.item (ax (t:= .event) wB (Int.toNat wA))))),(ae.low (af.order (ag.item (ax (t:= .event) wB (Int.toNat wA))))),(ae.high (af.order (ag.item (ax (t:= .event) wB (Int.toNat wA))))),(ae.aq (af.order (ag.item (ax (t:= .event) wB (Int.toNat wA))))),(⟨(aB.up (ae.aD (af.order (ag.item (ax (t:= .event) wB (Int.toNat wA)))))),(aB.down (ae.aD (af.order (ag.item (ax (t:= .event) wB (Int.toNat wA)))))),(aB.bU (ae.aD (af.order (ag.item (ax (t:= .event) wB (Int.toNat wA)))))),(aB.bm (ae.aD (af.order (ag.item (ax (t:= .event) wB (Int.toNat wA))))))⟩:aB),(ae.notes (af.order (ag.item (ax (t:= .event) wB (Int.toNat wA)))))⟩:ae),(af.ver (ag.item (ax (t:= .event) wB (Int.toNat wA))))⟩:af))
 (cond (Nat.ble (wV.length+1) fO)
 (k' .normal (sB wB wE (IntKind.wrap .i64 (wA+(1:Int))) (wV++([(⟨(⟨(ae.name (af.order (ag.item (ax (t:= .event) wB (Int.toNat wA))))),(ae.target (af.order (ag.item (ax (t:= .event) wB (Int.toNat wA))))),(ae.low (af.order (ag.item (ax (t:= .event) wB (Int.toNat wA))))),(ae.high (af.order (ag.item (ax (t:= .event) wB (Int.toNat wA))))),(ae.aq (af.order (ag.item (ax (t:= .event) wB (Int.toNat wA))))),(⟨(aB.up (ae.aD (af.order (ag.item (ax (t:= .event) wB (Int.toNat wA)))))),(aB.down (ae.aD (af.order (ag.item (ax (t:= .event) wB (Int.toNat wA)))))),(aB.bU (ae.aD (af.order (ag.item (ax (t:= .event) wB (Int.toNat wA)))))),(aB.bm (ae.aD (af.order (ag.item (ax (t:= .event) wB (Int.toNat wA))))))⟩:aB),(ae.notes (af.order (ag.item (ax (t:= .event) wB (Int.toNat wA)))))⟩:ae),(af.ver (ag.item (ax (t:= .event) wB (Int.toNat wA))))⟩:af)]:List af))))
 none)
 none)
 (k' .normal (sB wB wE (IntKind.wrap .i64 (wA+(1:Int))) wV)))) wB wE wA (wD.length:Int) (ag.seq (ax (t:= .event) wB (Int.toNat wA))) (ag.kind (ax (t:= .event) wB (Int.toNat wA))) (ae.name (af.order (ag.item (ax (t:= .event) wB (Int.toNat wA))))) (ae.target (af.order (ag.item (ax (t:= .event) wB (Int.toNat wA))))) (ae.low (af.order (ag.item (ax (t:= .event) wB (Int.toNat wA))))) (ae.high (af.order (ag.item (ax (t:= .event) wB (Int.toNat wA))))) (ae.aq (af.order (ag.item (ax (t:= .event) wB (Int.toNat wA))))) (aB.up (ae.aD (af.order (ag.item (ax (t:= .event) wB (Int.toNat wA)))))) (aB.down (ae.aD (af.order (ag.item (ax (t:= .event) wB (Int.toNat wA)))))) (aB.bU (ae.aD (af.order (ag.item (ax (t:= .event) wB (Int.toNat wA)))))) (aB.bm (ae.aD (af.order (ag.item (ax (t:= .event) wB (Int.toNat wA)))))) (ae.notes (af.order (ag.item (ax (t:= .event) wB (Int.toNat wA))))) (af.ver (ag.item (ax (t:= .event) wB (Int.toNat wA)))) wD n ((ag.kind (ax (t:= .event) wB (Int.toNat wA))) !=(1:Int)) (0:Int) (0:Nat) ([]:List af))
 none)
 (k' (.exit 0) (Dq wB wE wA (decide (wA<wE)) wD))):=by
  refine Eq.trans (b:=(cond (decide (wA<wE))
  (cond ((decide ((0:Int)≤wA))&&(decide (wA<(wB.length:Int))))
   (iter (fun st k=>ev oV sC n (cM [1,1,0,1,0,0,1,1,0,0,1,1,0,1,0,0] pK) st k) n (nX ((ag.kind (ax (t:= .event) wB (Int.toNat wA))) !=(1:Int)) wB wE wA (wD.length:Int) (0:Int) (ag.seq (ax (t:= .event) wB (Int.toNat wA))) (ag.kind (ax (t:= .event) wB (Int.toNat wA))) (ae.name (af.order (ag.item (ax (t:= .event) wB (Int.toNat wA))))) (ae.target (af.order (ag.item (ax (t:= .event) wB (Int.toNat wA))))) (ae.low (af.order (ag.item (ax (t:= .event) wB (Int.toNat wA))))) (ae.high (af.order (ag.item (ax (t:= .event) wB (Int.toNat wA))))) (ae.aq (af.order (ag.item (ax (t:= .event) wB (Int.toNat wA))))) (aB.up (ae.aD (af.order (ag.item (ax (t:= .event) wB (Int.toNat wA)))))) (aB.down (ae.aD (af.order (ag.item (ax (t:= .event) wB (Int.toNat wA)))))) (aB.bU (ae.aD (af.order (ag.item (ax (t:= .event) wB (Int.toNat wA)))))) (aB.bm (ae.aD (af.order (ag.item (ax (t:= .event) wB (Int.toNat wA)))))) (ae.notes (af.order (ag.item (ax (t:= .event) wB (Int.toNat wA))))) (af.ver (ag.item (ax (t:= .event) wB (Int.toNat wA)))) (0:Nat) wD ([]:List af)) (Q8 n k'))
   none)
  (k' (.exit 0) (Dq wB wE wA (decide (wA<wE)) wD)))) (by kernel_rfl) ?_
  simp only[LV,LW]
theorem LX{R:Type}(n:Nat)(k':Kx R)(wB:List ag)(wE:Int):∀(m:Nat)(wA:Int)(wD:List af),iter (fun st k=>ev oV sC n (cM [1,1,0,1,0,0] pK) st k) m (sB wB wE wA wD) k'=py n (fun(uA:Int)(uB:Bool)(wX:List af)=>k' (.exit 0) (Dq wB wE uA uB wX)) wB wE m wA wD:=by
 intro m;induction m with
 |zero=>intros;rfl
 |succ m ih=>
  intro wA wD
  simp only[iter]
  rw[Pe]
  simp only[ih,py]
noncomputable def Q9{R:Type}(n:Nat)(k':Kx R):Kx R:=(cL 0 (gd oV sC n (cM [1,1,1] pK) k'))
theorem LY{R:Type}(n:Nat)(k:Kt R)(a0:List af)(a1:List ag)(wB:List ag)(wE:Int)(uA:Int)(uB:Bool)(wX:List af):Q9 n (bt oV [.ro,.ro] [false] true [.tmp 4] [35] [.d (.sl .item) a0,.d (.sl .event) a1] k) (.exit 0) (Dq wB wE uA uB wX)=
 (k [.d (.sl .item) wX]):=by kernel_rfl
theorem Pf{R:Type}(n:Nat)(k:Kt R)(a0:List af)(a1:List ag):aO oV sC n pK [.ro,.ro] [false] true [.tmp 4] [35] [.d (.sl .item) a0,.d (.sl .event) a1] k=
 (cond (gC bn a0)
 (py n (fun(uA:Int)(uB:Bool)(wX:List af)=>
 (k [.d (.sl .item) wX])) a1 (a1.length:Int) n (0:Int) a0)
 none):=by
 refine Eq.trans (b:=(cond (gC bn a0)
 (iter (fun st k=>ev oV sC n (cM [1,1,0,1,0,0] pK) st k) n (sB a1 (a1.length:Int) (0:Int) a0) (Q9 n (bt oV [.ro,.ro] [false] true [.tmp 4] [35] [.d (.sl .item) a0,.d (.sl .event) a1] k)))
 none)) (by kernel_rfl) ?_
 simp only[LX,LY]
theorem LZ(a0:List af)(a1:List ag)(hg:jH a0 a1=true):∃keep rounds,∀{R:Type}(k:Kt R),aO oV keep rounds pK [.ro,.ro] [false] true [.tmp 4] [35] [.d (.sl .item) a0,.d (.sl .event) a1] k=k [.d (.sl .item) (gi a0 a1)]:=by
 simp only[jH,Bool.and_eq_true] at hg
 obtain⟨hi,he,hl⟩:=hg
 have hl:=gT hl
 have UC:=gQ he
 refine⟨sC,1048578,fun {R} k=> ?_⟩
 rw[Pf,hi,cond_true]
 have inner:∀(vs:Int)(sq kd:Int)(x:af),bn x=true→∀(out:List af),out.length≤1048576→∀(X:Bool→Int→Bool→Nat→List af→Option R)(Y:Bool×List af→Option R),(∀ p i b cu l,oI (p,l)≤out.length+1→X p i b cu l=Y (p,l))→∀(d k m:Nat)(p:Bool)(cu:Nat)(acc:List af),
   k+d=out.length→d<m→cu≤k→oI (p,acc)≤k+1→kA 1048578 X a1 (a1.length:Int) vs (out.length:Int) sq kd x.order.name x.order.target x.order.low x.order.high x.order.aq x.order.aD.up x.order.aD.down x.order.aD.bU x.order.aD.bm x.order.notes x.ver out m p (k:Int) cu acc=Y ((out.drop k).foldl (dj x) (p,acc)):=by
  intro vs sq kd x hx out hol X Y hX d
  induction d with
  |zero=>
   intro k m p cu acc hk hm gu ha
   obtain⟨m,rfl⟩:∃m',m=m'+1:=⟨m-1,by omega⟩
   simp only[kA,decide_eq_false (show ¬((k:Int)<(out.length:Int)) by omega),cond_false]
   rw[List.drop_eq_nil_of_le (by omega)]
   exact hX _ _ _ _ _ (by omega)
  |succ d ih=>
   intro k m p cu acc hk hm gu ha
   obtain⟨m,rfl⟩:∃m',m=m'+1:=⟨m-1,by omega⟩
   have CH:k<out.length:=by omega
   obtain⟨h1,h0,hw,ht⟩:=idx CH (by omega)
   have cH:=eo (t:= .item) CH
   have nE:out.drop k=ax (t:= .item) out k::out.drop (k+1):=by
    rw[List.drop_eq_getElem_cons CH]
    rw[List.getElem?_eq_getElem CH] at cH
    rw[Option.some.inj cH]
   rw[nE,List.foldl_cons]
   have hal:acc.length≤k+1:=Nat.le_trans (Nat.le_add_right _ _) ha
   have l1:=NB (n:=acc.length+1) (by omega)
   have l2:=NB (n:=(acc++[x]).length+1) (by simp only[List.length_append,List.length_cons,List.length_nil];omega)
   have q1:ld cu 0 k 4=true:=VU gu
   have q2:ld k 5 k 9=true:=by rw[Hj];rfl
   cases hp:p<;>cases cc:gS (ax (t:= .item) out k).order.name x.order.name<;>cases heq:fX (ax (t:= .item) out k).order.name x.order.name
   all_goals
    simp only[kA,h1,h0,hw,ht,cc,heq,hx,l1,l2,q1,q2,gq,il,nK,Bool.and_self,Bool.not_true,Bool.not_false,cond_true,cond_false]
    refine (ih (k+1) m _ _ _ (by omega) (by omega) (by omega) ?_).trans ?_
    ·simp only[hp,oI,cond_true,cond_false,List.length_append,List.length_cons,List.length_nil] at ha ⊢;omega
    ·simp only[dj,cc,heq,Bool.not_true,Bool.not_false,cond_true,cond_false]
 have outer:∀(X:Int→Bool→List af→Option R),(∀ i b l,X i b l=k [.d (.sl .item) l])→∀(d j m:Nat)(out:List af),j+d=a1.length→d<m→out.length+d≤1048576→
   py 1048578 X a1 (a1.length:Int) m (j:Int) out=k [.d (.sl .item) ((a1.drop j).foldl lJ out)]:=by
  intro X hX d
  induction d with
  |zero=>
   intro j m out hj hm hl
   obtain⟨m,rfl⟩:∃m',m=m'+1:=⟨m-1,by omega⟩
   simp only[py,decide_eq_false (show ¬((j:Int)<(a1.length:Int)) by omega),cond_false,hX]
   rw[List.drop_eq_nil_of_le (by omega)];rfl
  |succ d ih=>
   intro j m out hj hm hl
   obtain⟨m,rfl⟩:∃m',m=m'+1:=⟨m-1,by omega⟩
   have Mx:j<a1.length:=by omega
   obtain⟨h1,h0,hw,ht⟩:=idx Mx (by omega)
   have cH:=eo (t:= .event) Mx
   have he:=List.all_eq_true.1 UC _ (List.mem_of_getElem? cH)
   have hx:bn (ax (t:= .event) a1 j).item=true:=by simp only[fp,Bool.and_eq_true] at he;exact he.2.2
   have nE:a1.drop j=ax (t:= .event) a1 j::a1.drop (j+1):=by
    rw[List.drop_eq_getElem_cons Mx]
    rw[List.getElem?_eq_getElem Mx] at cH
    rw[Option.some.inj cH]
   have hlen:=pd (ax (t:= .event) a1 j).item out ((ax (t:= .event) a1 j).kind !=(1:Int),[])
   have hL:oI ((ax (t:= .event) a1 j).kind !=(1:Int),[])≤1:=by unfold oI;cases ((ax (t:= .event) a1 j).kind !=(1:Int))<;>simp
   rw[nE,List.foldl_cons]
   simp only[py,h1,h0,hw,ht,Bool.and_self,cond_true]
   refine (inner _ _ _ _ hx out (by omega) _ (fun s=>k [.d (.sl .item) ((a1.drop (j+1)).foldl lJ (kO (ax (t:= .event) a1 j).item s))]) ?_ out.length 0 1048578 _ 0 [] (by omega) (by omega) (by omega) hL).trans ?_
   ·intro p i b cu l PS
    have hE:=Az (ax (t:= .event) a1 j).item (p,l)
    have hb:=NB (n:=l.length+1) (by have:l.length≤oI (p,l):=Nat.le_add_right _ _;omega)
    have:=ih (j+1) m (kO (ax (t:= .event) a1 j).item (p,l)) (by omega) (by omega) (by omega)
    cases p
    ·simp only[Bool.not_false,cond_true,gq,il,nK,hx,hb,hw,ht];exact this
    ·simp only[Bool.not_true,cond_false,hw];exact this
   ·rfl
 exact outer _ (fun _ _ _=>rfl) a1.length 0 1048578 a0 (by omega) (by omega) (by omega)
noncomputable def q25:Qt
 | [.d (.sl .item) a0,.d (.sl .event) a1]=>some ((jH a0 a1),[.d (.sl .item) (gi a0 a1)])
 |_=>none
noncomputable def s25:Gm.Spec:=Gm.Spec.of [.ro,.ro] [false] true q25
theorem TV:Gm.Good Try.prog (25,s25):=by
 have hl:∀x∈[(61,Ev),(69,SK)],Gm.Good Try.prog x:=aU.2 ⟨oM,aU.2 ⟨A5,gD⟩⟩
 refine⟨⟨aM (aV.env hl) (bd.cz hl) Try.func25 (by kernel_rfl:Try.f25.body=some pK) [35] (by kernel_rfl) ?_,_,Try.func25,by kernel_rfl,of_decide_eq_true (by kernel_rfl)⟩,Gm.Spec.aG _ _ _ _⟩
 intro ds outs h
 unfold q25 at h
 split at h
 ·simp only[Option.some.injEq,Prod.mk.injEq] at h;obtain⟨hg,h⟩:=h;cases h;exact LZ _ _ hg
 ·cases h
noncomputable def Dr(y0:Int)(y1:Int)(y2:List ag):St:=⟨[(1,.c (.one (.pt 1 0))),(3,.c (.one (.v (.int .i64 y0))))],[(1,⟨.cZ,[.v (.int .i64 y1),.ro .event y2]⟩)],[]⟩
noncomputable def uN:St:=⟨[(2,.c (.one (.v (.bool false))))],[],[]⟩
noncomputable def L0(y0:Int)(y1:Bool)(y2:Int)(y3:List ag):St:=⟨[(1,.c (.one (.pt 1 0))),(3,.c (.one (.v (.int .i64 y0)))),(19,.c (.one (.v (.bool y1))))],[(1,⟨.cZ,[.v (.int .i64 y2),.ro .event y3]⟩)],[]⟩
noncomputable def BL:Code:=(Try.f11.body).getD .skip
def FF:Nat→Kp:=fF [⟨[1],[],[],[]⟩,⟨[1,14],[],[],[]⟩,⟨[2],[],[],[]⟩,⟨[1,3],[],[],[]⟩,⟨[1,3,19],[],[],[]⟩,⟨[1,3],[],[],[]⟩,⟨[1,3,4],[],[],[]⟩,⟨[1,3,54],[],[],[]⟩,⟨[2],[],[],[]⟩,⟨[2],[],[],[]⟩]
noncomputable def xf:Env:=bd.env [(54,Ez),(55,Z9)]
noncomputable def sD{R:Type}(n:Nat)(x0:Option R)(x1:Int→Bool→Option R)(wE:Int)(wA:List ag):Nat→Int→Option R
  |0,_=>none
  |m+1,wD=>
    (cond (decide (wD<(wA.length:Int)))
   (cond ((decide ((0:Int)≤wD))&&(decide (wD<(wA.length:Int))))
    (cond ((ag.seq (ax (t:= .event) wA (Int.toNat wD))) !=(IntKind.wrap .i64 ((IntKind.wrap .i64 (wE+(1:Int)))+wD)))
     (x0)
     (cond (!(du (ag.kind (ax (t:= .event) wA (Int.toNat wD))) (1:Int) (2:Int)))
      (x0)
      (cond (aL (af.order (ag.item (ax (t:= .event) wA (Int.toNat wD)))))
       (cond (!(cS (af.order (ag.item (ax (t:= .event) wA (Int.toNat wD))))))
        (x0)
        (cond (!(du (af.ver (ag.item (ax (t:= .event) wA (Int.toNat wD)))) (1:Int) (100000:Int)))
         (x0)
         (sD n x0 x1 wE wA m (IntKind.wrap .i64 (wD+(1:Int))))))
       none)))
    none)
   (x1 wD (decide (wD<(wA.length:Int)))))
theorem Pg{R:Type}(n:Nat)(k':Kx R)(wD:Int)(wE:Int)(wA:List ag):ev xf FF n (cM [1,1,0,1,0,0] BL) (Dr wD wE wA) k'=
 (cond (decide (wD<(wA.length:Int)))
 (cond ((decide ((0:Int)≤wD))&&(decide (wD<(wA.length:Int))))
 (cond ((ag.seq (ax (t:= .event) wA (Int.toNat wD))) !=(IntKind.wrap .i64 ((IntKind.wrap .i64 (wE+(1:Int)))+wD)))
 (k' .ret uN)
 (cond (!(du (ag.kind (ax (t:= .event) wA (Int.toNat wD))) (1:Int) (2:Int)))
 (k' .ret uN)
 (cond (aL (af.order (ag.item (ax (t:= .event) wA (Int.toNat wD)))))
 (cond (!(cS (af.order (ag.item (ax (t:= .event) wA (Int.toNat wD))))))
 (k' .ret uN)
 (cond (!(du (af.ver (ag.item (ax (t:= .event) wA (Int.toNat wD)))) (1:Int) (100000:Int)))
 (k' .ret uN)
 (k' .normal (Dr (IntKind.wrap .i64 (wD+(1:Int))) wE wA))))
 none)))
 none)
 (k' (.exit 0) (L0 wD (decide (wD<(wA.length:Int))) wE wA))):=by kernel_rfl
theorem L2{R:Type}(n:Nat)(k':Kx R)(wE:Int)(wA:List ag):∀(m:Nat)(wD:Int),iter (fun st k=>ev xf FF n (cM [1,1,0,1,0,0] BL) st k) m (Dr wD wE wA) k'=sD n (k' .ret uN) (fun(wH:Int)(wG:Bool)=>k' (.exit 0) (L0 wH wG wE wA)) wE wA m wD:=by
 intro m;induction m with
 |zero=>intros;rfl
 |succ m ih=>
  intro wD
  simp only[iter]
  rw[Pg]
  simp only[ih,sD]
noncomputable def L3{R:Type}(n:Nat)(k':Kx R):Kx R:=(cL 0 (gd xf FF n (cM [1,1,1] BL) k'))
theorem L4{R:Type}(n:Nat)(k:Kt R)(a0:au):L3 n (bt xf [.ro] [false] true [.tmp 2] [4] [.d .cZ a0] k) .ret uN=
 (k [.d .bool false]):=by kernel_rfl
theorem L5{R:Type}(n:Nat)(k:Kt R)(a0:au)(wE:Int)(wA:List ag)(wH:Int)(wG:Bool):L3 n (bt xf [.ro] [false] true [.tmp 2] [4] [.d .cZ a0] k) (.exit 0) (L0 wH wG wE wA)=
 (k [.d .bool true]):=by kernel_rfl
theorem Ph{R:Type}(n:Nat)(k:Kt R)(a0:au):aO xf FF n BL [.ro] [false] true [.tmp 2] [4] [.d .cZ a0] k=
 (cond (!(du (au.base a0) (0:Int) (100000:Int)))
 (k [.d .bool false])
 (cond (decide (((au.list a0).length:Int)>(60:Int)))
 (k [.d .bool false])
 (sD n (k [.d .bool false]) (fun(wH:Int)(wG:Bool)=>
 (k [.d .bool true])) (au.base a0) (au.list a0) n (0:Int)))):=by
  refine Eq.trans (b:=(cond (!(du (au.base a0) (0:Int) (100000:Int)))
  (k [.d .bool false])
  (cond (decide (((au.list a0).length:Int)>(60:Int)))
   (k [.d .bool false])
   (iter (fun st k=>ev xf FF n (cM [1,1,0,1,0,0] BL) st k) n (Dr (0:Int) (au.base a0) (au.list a0)) (L3 n (bt xf [.ro] [false] true [.tmp 2] [4] [.d .cZ a0] k)))))) (by kernel_rfl) ?_
  simp only[L2,L4,L5]
theorem L6(a0:au)(hg:bI a0=true):∃keep rounds,∀{R:Type}(k:Kt R),aO xf keep rounds BL [.ro] [false] true [.tmp 2] [4] [.d .cZ a0] k=k [.d .bool (cA a0)]:=by
 simp only[bI,Bool.and_eq_true] at hg
 have hl:=dU hg.2
 refine⟨FF,a0.list.length+1,fun {R} k=> ?_⟩
 rw[Ph]
 unfold cA
 cases hb:du a0.base 0 100000
 ·rfl
 rw[gh] at hb
 by_cases Q':(a0.list.length:Int)>60
 ·simp only[Q',decide_true,Bool.not_true,cond_true,cond_false,Bool.and_false,Bool.false_and]
 simp only[Q',decide_false,Bool.not_true,Bool.not_false,cond_true,cond_false,Bool.true_and]
 refine Eq.trans (eW (n:=a0.list.length) (F:=fun m i=>sD (a0.list.length+1) _ _ a0.base a0.list m i) (p:=jq a0) (good:=k [.d .bool true]) (bad:=k [.d .bool false])
  (fun m j hj=> ?_) (fun m=>by simp only[sD,kn,cond_false]) (a0.list.length) 0 (a0.list.length+1) (by omega) (by omega)) ?_
 ·obtain⟨h1,h0,hw,ht⟩:=idx hj (by omega)
  have hx:=mM (t:= .event) hg.2 hj
  simp only[fp,bn,Bool.and_eq_true] at hx
  replace hx:=hx.2.2.1
  simp only[sD,h1,h0,hw,ht,hx,cC (x:=a0.base+1) (by omega) (by omega),cC (x:=a0.base+1+(j:Int)) (by omega) (by omega),il,gq,Bool.and_self,cond_true]
  unfold jq
  simp only[bne]
  cases ((ax (t:= .event) a0.list j).seq==a0.base+1+(j:Int))<;>cases cS (ax (t:= .event) a0.list j).item.order<;>cases du (ax (t:= .event) a0.list j).item.ver 1 100000<;>cases du (ax (t:= .event) a0.list j).kind 1 2<;>rfl
 ·cases ic (jq a0) 0 a0.list.length<;>rfl
noncomputable def q11:Qt
 | [.d .cZ a0]=>some ((bI a0),[.d .bool (cA a0)])
 |_=>none
noncomputable def s11:Gm.Spec:=Gm.Spec.of [.ro] [false] true q11
theorem TW:Gm.Good Try.prog (11,s11):=by
 have hl:∀x∈[(54,Ez),(55,Z9)],Gm.Good Try.prog x:=aU.2 ⟨oN,aU.2 ⟨Td,gD⟩⟩
 refine⟨⟨aM (aV.env hl) (bd.cz hl) Try.func11 (by kernel_rfl:Try.f11.body=some BL) [4] (by kernel_rfl) ?_,_,Try.func11,by kernel_rfl,of_decide_eq_true (by kernel_rfl)⟩,Gm.Spec.aG _ _ _ _⟩
 intro ds outs h
 unfold q11 at h
 split at h
 ·simp only[Option.some.injEq,Prod.mk.injEq] at h;obtain⟨hg,h⟩:=h;cases h;exact L6 _ hg
 ·cases h
noncomputable def zf(y0:List ag)(y1:Int)(y2:Int)(y3:Int)(y4:List ag):St:=⟨[(1,.c (.one (.pt 1 0))),(16,.c (.one (.ro .event y0))),(17,.c (.one (.v (.int .i64 y1)))),(18,.c (.one (.v (.int .i64 y2))))],[(1,⟨.cZ,[.v (.int .i64 y3),.ro .event y4]⟩)],[]⟩
noncomputable def pz:St:=⟨[(2,.c (.one (.v (.bool false))))],[],[]⟩
noncomputable def L7(y0:List ag)(y1:Int)(y2:Int)(y3:Bool)(y4:Int)(y5:List ag):St:=⟨[(1,.c (.one (.pt 1 0))),(16,.c (.one (.ro .event y0))),(17,.c (.one (.v (.int .i64 y1)))),(18,.c (.one (.v (.int .i64 y2)))),(19,.c (.one (.v (.bool y3))))],[(1,⟨.cZ,[.v (.int .i64 y4),.ro .event y5]⟩)],[]⟩
noncomputable def BM:Code:=(Try.f13.body).getD .skip
def FG:Nat→Kp:=fF [⟨[1],[],[],[]⟩,⟨[1,14],[],[],[]⟩,⟨[2],[],[],[]⟩,⟨[1,16,17,18],[],[],[]⟩,⟨[1,16,17,18,19],[],[],[]⟩,⟨[1,3,4,16,17,18],[],[],[]⟩,⟨[1,16,17,18,54],[],[],[]⟩,⟨[2],[],[],[]⟩,⟨[1,16,17,18],[],[],[]⟩,⟨[2],[],[],[]⟩]
noncomputable def xg:Env:=bd.env [(56,tp),(57,W6)]
noncomputable def pA{R:Type}(n:Nat)(x0:Option R)(x1:Int→Bool→Option R)(wC:List ag)(wF:Int)(wE:Int)(wA:List ag):Nat→Int→Option R
  |0,_=>none
  |m+1,wB=>
    (cond (decide (wB<wF))
   (cond ((decide ((0:Int)≤wB))&&(decide (wB<(wC.length:Int))))
    (cond ((ag.seq (ax (t:= .event) wC (Int.toNat wB))) !=(IntKind.wrap .i64 ((IntKind.wrap .i64 (wE+(1:Int)))+wB)))
     (x0)
     (cond ((ag.kind (ax (t:= .event) wC (Int.toNat wB))) !=(1:Int))
      (cond ((ag.kind (ax (t:= .event) wC (Int.toNat wB))) !=(2:Int))
       (x0)
       (cond (aL (af.order (ag.item (ax (t:= .event) wC (Int.toNat wB)))))
        (cond (!(cS (af.order (ag.item (ax (t:= .event) wC (Int.toNat wB))))))
         (x0)
         (cond (!(du (af.ver (ag.item (ax (t:= .event) wC (Int.toNat wB)))) (1:Int) (100000:Int)))
          (x0)
          (pA n x0 x1 wC wF wE wA m (IntKind.wrap .i64 (wB+(1:Int))))))
        none))
      (cond (aL (af.order (ag.item (ax (t:= .event) wC (Int.toNat wB)))))
       (cond (!(cS (af.order (ag.item (ax (t:= .event) wC (Int.toNat wB))))))
        (x0)
        (cond (!(du (af.ver (ag.item (ax (t:= .event) wC (Int.toNat wB)))) (1:Int) (100000:Int)))
         (x0)
         (pA n x0 x1 wC wF wE wA m (IntKind.wrap .i64 (wB+(1:Int))))))
       none)))
    none)
   (x1 wB (decide (wB<wF))))
theorem Pj{R:Type}(n:Nat)(k':Kx R)(wC:List ag)(wF:Int)(wB:Int)(wE:Int)(wA:List ag):ev xg FG n (cM [1,1,0,1,0,0] BM) (zf wC wF wB wE wA) k'=
 (cond (decide (wB<wF))
 (cond ((decide ((0:Int)≤wB))&&(decide (wB<(wC.length:Int))))
 (cond ((ag.seq (ax (t:= .event) wC (Int.toNat wB))) !=(IntKind.wrap .i64 ((IntKind.wrap .i64 (wE+(1:Int)))+wB)))
 (k' .ret pz)
 (cond ((ag.kind (ax (t:= .event) wC (Int.toNat wB))) !=(1:Int))
 (cond ((ag.kind (ax (t:= .event) wC (Int.toNat wB))) !=(2:Int))
 (k' .ret pz)
 (cond (aL (af.order (ag.item (ax (t:= .event) wC (Int.toNat wB)))))
 (cond (!(cS (af.order (ag.item (ax (t:= .event) wC (Int.toNat wB))))))
 (k' .ret pz)
 (cond (!(du (af.ver (ag.item (ax (t:= .event) wC (Int.toNat wB)))) (1:Int) (100000:Int)))
 (k' .ret pz)
 (k' .normal (zf wC wF (IntKind.wrap .i64 (wB+(1:Int))) wE wA))))
 none))
 (cond (aL (af.order (ag.item (ax (t:= .event) wC (Int.toNat wB)))))
 (cond (!(cS (af.order (ag.item (ax (t:= .event) wC (Int.toNat wB))))))
 (k' .ret pz)
 (cond (!(du (af.ver (ag.item (ax (t:= .event) wC (Int.toNat wB)))) (1:Int) (100000:Int)))
 (k' .ret pz)
 (k' .normal (zf wC wF (IntKind.wrap .i64 (wB+(1:Int))) wE wA))))
 none)))
 none)
 (k' (.exit 0) (L7 wC wF wB (decide (wB<wF)) wE wA))):=by kernel_rfl
theorem L8{R:Type}(n:Nat)(k':Kx R)(wC:List ag)(wF:Int)(wE:Int)(wA:List ag):∀(m:Nat)(wB:Int),iter (fun st k=>ev xg FG n (cM [1,1,0,1,0,0] BM) st k) m (zf wC wF wB wE wA) k'=pA n (k' .ret pz) (fun(wI:Int)(wG:Bool)=>k' (.exit 0) (L7 wC wF wI wG wE wA)) wC wF wE wA m wB:=by
 intro m;induction m with
 |zero=>intros;rfl
 |succ m ih=>
  intro wB
  simp only[iter]
  rw[Pj]
  simp only[ih,pA]
noncomputable def L9{R:Type}(n:Nat)(k':Kx R):Kx R:=(cL 0 (gd xg FG n (cM [1,1,1] BM) k'))
theorem Ma{R:Type}(n:Nat)(k:Kt R)(a0:au):L9 n (bt xg [.ro] [false] true [.tmp 2] [4] [.d .cZ a0] k) .ret pz=
 (k [.d .bool false]):=by kernel_rfl
theorem Mb{R:Type}(n:Nat)(k:Kt R)(a0:au)(wC:List ag)(wF:Int)(wE:Int)(wA:List ag)(wI:Int)(wG:Bool):L9 n (bt xg [.ro] [false] true [.tmp 2] [4] [.d .cZ a0] k) (.exit 0) (L7 wC wF wI wG wE wA)=
 (k [.d .bool true]):=by kernel_rfl
theorem Pk{R:Type}(n:Nat)(k:Kt R)(a0:au):aO xg FG n BM [.ro] [false] true [.tmp 2] [4] [.d .cZ a0] k=
 (cond (!(du (au.base a0) (0:Int) (100000:Int)))
 (k [.d .bool false])
 (cond (decide (((au.list a0).length:Int)>(60:Int)))
 (k [.d .bool false])
 (pA n (k [.d .bool false]) (fun(wI:Int)(wG:Bool)=>
 (k [.d .bool true])) (au.list a0) ((au.list a0).length:Int) (au.base a0) (au.list a0) n (0:Int)))):=by
  refine Eq.trans (b:=(cond (!(du (au.base a0) (0:Int) (100000:Int)))
  (k [.d .bool false])
  (cond (decide (((au.list a0).length:Int)>(60:Int)))
   (k [.d .bool false])
   (iter (fun st k=>ev xg FG n (cM [1,1,0,1,0,0] BM) st k) n (zf (au.list a0) ((au.list a0).length:Int) (0:Int) (au.base a0) (au.list a0)) (L9 n (bt xg [.ro] [false] true [.tmp 2] [4] [.d .cZ a0] k)))))) (by kernel_rfl) ?_
  simp only[L8,Ma,Mb]
theorem Mc(a0:au)(hg:bI a0=true):∃keep rounds,∀{R:Type}(k:Kt R),aO xg keep rounds BM [.ro] [false] true [.tmp 2] [4] [.d .cZ a0] k=k [.d .bool (cA a0)]:=by
 simp only[bI,Bool.and_eq_true] at hg
 have hl:=dU hg.2
 refine⟨FG,a0.list.length+1,fun {R} k=> ?_⟩
 rw[Pk]
 unfold cA
 cases hb:du a0.base 0 100000
 ·rfl
 rw[gh] at hb
 by_cases Q':(a0.list.length:Int)>60
 ·simp only[Q',decide_true,Bool.not_true,cond_true,cond_false,Bool.and_false,Bool.false_and]
 simp only[Q',decide_false,Bool.not_true,Bool.not_false,cond_true,cond_false,Bool.true_and]
 refine Eq.trans (eW (n:=a0.list.length) (F:=fun m i=>pA (a0.list.length+1) _ _ a0.list (a0.list.length:Int) a0.base a0.list m i) (p:=jq a0) (good:=k [.d .bool true]) (bad:=k [.d .bool false])
  (fun m j hj=> ?_) (fun m=>by simp only[pA,kn,cond_false]) (a0.list.length) 0 (a0.list.length+1) (by omega) (by omega)) ?_
 ·obtain⟨h1,h0,hw,ht⟩:=idx hj (by omega)
  have hx:=mM (t:= .event) hg.2 hj
  simp only[fp,bn,Bool.and_eq_true] at hx
  replace hx:=hx.2.2.1
  simp only[pA,h1,h0,hw,ht,hx,cC (x:=a0.base+1) (by omega) (by omega),cC (x:=a0.base+1+(j:Int)) (by omega) (by omega),il,gq,Bool.and_self,cond_true]
  unfold jq
  simp only[bne]
  rw[ZH]
  cases ((ax (t:= .event) a0.list j).seq==a0.base+1+(j:Int))<;>cases cS (ax (t:= .event) a0.list j).item.order<;>cases du (ax (t:= .event) a0.list j).item.ver 1 100000<;>cases ((ax (t:= .event) a0.list j).kind==(1:Int))<;>cases ((ax (t:= .event) a0.list j).kind==(2:Int))<;>rfl
 ·cases ic (jq a0) 0 a0.list.length<;>rfl
noncomputable def q13:Qt
 | [.d .cZ a0]=>some ((bI a0),[.d .bool (cA a0)])
 |_=>none
noncomputable def TX:Gm.Spec:=Gm.Spec.of [.ro] [false] true q13
theorem BN:Gm.Good Try.prog (13,TX):=by
 have hl:∀x∈[(56,tp),(57,W6)],Gm.Good Try.prog x:=aU.2 ⟨jY,aU.2 ⟨J5,gD⟩⟩
 refine⟨⟨aM (aV.env hl) (bd.cz hl) Try.func13 (by kernel_rfl:Try.f13.body=some BM) [4] (by kernel_rfl) ?_,_,Try.func13,by kernel_rfl,of_decide_eq_true (by kernel_rfl)⟩,Gm.Spec.aG _ _ _ _⟩
 intro ds outs h
 unfold q13 at h
 split at h
 ·simp only[Option.some.injEq,Prod.mk.injEq] at h;obtain⟨hg,h⟩:=h;cases h;exact Mc _ hg
 ·cases h
noncomputable def TY:Code:=(Try.f23.body).getD .skip
def XT:Nat→Kp:=fF [⟨[1,2],[],[],[]⟩,⟨[1,2,21],[],[],[]⟩,⟨[4,5],[],[],[]⟩,⟨[4,5],[],[],[]⟩]
noncomputable def XU:Env:=bd.env [(13,TX),(56,tp),(67,Ww)]
theorem Pl{R:Type}(n:Nat)(k:Kt R)(a0:au)(a1:Int):aO XU XT n TY [.ro,.ro] [false,false] true [.tmp 4,.tmp 5] [27,4] [.d .cZ a0,.d (.i .i64) a1] k=
 (cond (bI a0)
 (cond (!(cA a0))
 (k [.d (.sl .event) ([]:List ag),.d .bool false])
 (cond (!(du a1 (au.base a0) (IntKind.wrap .i64 ((au.base a0)+((au.list a0).length:Int)))))
 (k [.d (.sl .event) ([]:List ag),.d .bool false])
 (cond ((decide ((0:Int)≤(IntKind.wrap .i64 (a1-(au.base a0)))))&&((decide ((IntKind.wrap .i64 (a1-(au.base a0)))≤((au.list a0).length:Int)))&&(decide (((au.list a0).length:Int)≤((au.list a0).length:Int)))))
 (cond (gC fp (((au.list a0).take (Int.toNat ((au.list a0).length:Int))).drop (Int.toNat (IntKind.wrap .i64 (a1-(au.base a0))))))
 (k [.d (.sl .event) (((au.list a0).take (Int.toNat ((au.list a0).length:Int))).drop (Int.toNat (IntKind.wrap .i64 (a1-(au.base a0))))),.d .bool true])
 none)
 none)))
 none):=by kernel_rfl
theorem Me(a0:au)(a1:Int)(hg:mO a0 a1=true):∃keep rounds,∀{R:Type}(k:Kt R),aO XU keep rounds TY [.ro,.ro] [false,false] true [.tmp 4,.tmp 5] [27,4] [.d .cZ a0,.d (.i .i64) a1] k=k [.d (.sl .event) ((since a0 a1).1),.d .bool ((since a0 a1).2)]:=by
 simp only[mO,Bool.and_eq_true,vL] at hg
 obtain⟨hg,hn⟩:=hg
 have Np:=hg
 simp only[bI,Bool.and_eq_true] at Np
 refine⟨XT,0,fun {R} k=> ?_⟩
 rw[Pl]
 simp only[hg,cond_true]
 show _=k [.d (.sl .event) (since a0 a1).1,.d .bool (since a0 a1).2]
 unfold since
 cases ho:cA a0
 ·rfl
 obtain⟨h1,h2,h3,_⟩:=kt ho
 rw[cC (x:=a0.base+(a0.list.length:Int)) (by omega) (by omega)]
 cases hr:du a1 a0.base (a0.base+(a0.list.length:Int))
 ·rfl
 rw[gh] at hr
 rw[cC (x:=a1-a0.base) (by omega) (by omega)]
 have d1:decide ((0:Int)≤a1-a0.base)=true:=decide_eq_true (by omega)
 have d2:decide (a1-a0.base≤(a0.list.length:Int))=true:=decide_eq_true (by omega)
 have d3:decide ((a0.list.length:Int)≤(a0.list.length:Int))=true:=decide_eq_true (Int.le_refl _)
 simp only[d1,d2,d3,Bool.not_true,cond_true,cond_false,Bool.and_self,Int.toNat_natCast,List.take_length,nL Np.2]
noncomputable def q23:Qt
 | [.d .cZ a0,.d (.i .i64) a1]=>some ((mO a0 a1),[.d (.sl .event) ((since a0 a1).1),.d .bool ((since a0 a1).2)])
 |_=>none
noncomputable def s23:Gm.Spec:=Gm.Spec.of [.ro,.ro] [false,false] true q23
theorem T3:Gm.Good Try.prog (23,s23):=by
 have hl:∀x∈[(13,TX),(56,tp),(67,Ww)],Gm.Good Try.prog x:=aU.2 ⟨BN,aU.2 ⟨jY,aU.2 ⟨IJ,gD⟩⟩⟩
 refine⟨⟨aM (aV.env hl) (bd.cz hl) Try.func23 (by kernel_rfl:Try.f23.body=some TY) [27,4] (by kernel_rfl) ?_,_,Try.func23,by kernel_rfl,of_decide_eq_true (by kernel_rfl)⟩,Gm.Spec.aG _ _ _ _⟩
 intro ds outs h
 unfold q23 at h
 split at h
 ·simp only[Option.some.injEq,Prod.mk.injEq] at h;obtain⟨hg,h⟩:=h;cases h;exact Me _ _ hg
 ·cases h
noncomputable def T4:Code:=(Try.f21.body).getD .skip
def XV:Nat→Kp:=fF [⟨[1,3,5,6],[],[],[]⟩,⟨[1,3,5,6,10],[],[],[]⟩,⟨[6],[],[],[]⟩,⟨[1,3,5,6,7],[],[],[]⟩,⟨[3,6,7],[],[],[]⟩,⟨[3,6,7,34],[],[],[]⟩,⟨[3,6,7],[],[],[]⟩,⟨[3,6,7],[],[],[]⟩,⟨[3,6,7,47],[],[],[]⟩,⟨[6],[],[],[]⟩,⟨[6],[],[],[]⟩]
noncomputable def XW:Env:=bd.env [(13,TX),(61,Ev),(65,Z1)]
theorem Pm{R:Type}(n:Nat)(k:Kt R)(a0:au)(a1:Int)(a2:af):aO XW XV n T4 [.ro,.ro,.ro] [false] true [.cell 6 29] [29] [.d .cZ a0,.d (.i .i64) a1,.d .item a2] k=
 (cond (bI a0)
 (cond (!(cA a0))
 (cond (bI a0)
 (k [.d .cZ a0])
 none)
 (cond (bI a0)
 (cond (bn a2)
 (cond (Nat.ble ((au.list a0).length+1) fO)
 (cond (decide ((((au.list a0)++([(⟨(IntKind.wrap .i64 ((IntKind.wrap .i64 ((au.base a0)+((au.list a0).length:Int)))+(1:Int))),a1,a2⟩:ag)]:List ag)).length:Int)>(60:Int)))
 (cond (decide ((0:Int)<(((au.list a0)++([(⟨(IntKind.wrap .i64 ((IntKind.wrap .i64 ((au.base a0)+((au.list a0).length:Int)))+(1:Int))),a1,a2⟩:ag)]:List ag)).length:Int)))
 (cond ((decide ((1:Int)≤(((au.list a0)++([(⟨(IntKind.wrap .i64 ((IntKind.wrap .i64 ((au.base a0)+((au.list a0).length:Int)))+(1:Int))),a1,a2⟩:ag)]:List ag)).length:Int)))&&(decide ((((au.list a0)++([(⟨(IntKind.wrap .i64 ((IntKind.wrap .i64 ((au.base a0)+((au.list a0).length:Int)))+(1:Int))),a1,a2⟩:ag)]:List ag)).length:Int)≤(((au.list a0)++([(⟨(IntKind.wrap .i64 ((IntKind.wrap .i64 ((au.base a0)+((au.list a0).length:Int)))+(1:Int))),a1,a2⟩:ag)]:List ag)).length:Int))))
 (cond (bI (⟨(ag.seq (ax (t:= .event) ((au.list a0)++([(⟨(IntKind.wrap .i64 ((IntKind.wrap .i64 ((au.base a0)+((au.list a0).length:Int)))+(1:Int))),a1,a2⟩:ag)]:List ag)) 0)),((((au.list a0)++([(⟨(IntKind.wrap .i64 ((IntKind.wrap .i64 ((au.base a0)+((au.list a0).length:Int)))+(1:Int))),a1,a2⟩:ag)]:List ag)).take (Int.toNat (((au.list a0)++([(⟨(IntKind.wrap .i64 ((IntKind.wrap .i64 ((au.base a0)+((au.list a0).length:Int)))+(1:Int))),a1,a2⟩:ag)]:List ag)).length:Int))).drop 1)⟩:au))
 (cond (!(cA (⟨(ag.seq (ax (t:= .event) ((au.list a0)++([(⟨(IntKind.wrap .i64 ((IntKind.wrap .i64 ((au.base a0)+((au.list a0).length:Int)))+(1:Int))),a1,a2⟩:ag)]:List ag)) 0)),((((au.list a0)++([(⟨(IntKind.wrap .i64 ((IntKind.wrap .i64 ((au.base a0)+((au.list a0).length:Int)))+(1:Int))),a1,a2⟩:ag)]:List ag)).take (Int.toNat (((au.list a0)++([(⟨(IntKind.wrap .i64 ((IntKind.wrap .i64 ((au.base a0)+((au.list a0).length:Int)))+(1:Int))),a1,a2⟩:ag)]:List ag)).length:Int))).drop 1)⟩:au)))
 (cond (bI a0)
 (k [.d .cZ a0])
 none)
 (k [.d .cZ (⟨(ag.seq (ax (t:= .event) ((au.list a0)++([(⟨(IntKind.wrap .i64 ((IntKind.wrap .i64 ((au.base a0)+((au.list a0).length:Int)))+(1:Int))),a1,a2⟩:ag)]:List ag)) 0)),((((au.list a0)++([(⟨(IntKind.wrap .i64 ((IntKind.wrap .i64 ((au.base a0)+((au.list a0).length:Int)))+(1:Int))),a1,a2⟩:ag)]:List ag)).take (Int.toNat (((au.list a0)++([(⟨(IntKind.wrap .i64 ((IntKind.wrap .i64 ((au.base a0)+((au.list a0).length:Int)))+(1:Int))),a1,a2⟩:ag)]:List ag)).length:Int))).drop 1)⟩:au)]))
 none)
 none)
 none)
 (cond (bI (⟨(au.base a0),((au.list a0)++([(⟨(IntKind.wrap .i64 ((IntKind.wrap .i64 ((au.base a0)+((au.list a0).length:Int)))+(1:Int))),a1,a2⟩:ag)]:List ag))⟩:au))
 (cond (!(cA (⟨(au.base a0),((au.list a0)++([(⟨(IntKind.wrap .i64 ((IntKind.wrap .i64 ((au.base a0)+((au.list a0).length:Int)))+(1:Int))),a1,a2⟩:ag)]:List ag))⟩:au)))
 (cond (bI a0)
 (k [.d .cZ a0])
 none)
 (k [.d .cZ (⟨(au.base a0),((au.list a0)++([(⟨(IntKind.wrap .i64 ((IntKind.wrap .i64 ((au.base a0)+((au.list a0).length:Int)))+(1:Int))),a1,a2⟩:ag)]:List ag))⟩:au)]))
 none))
 none)
 none)
 none))
 none):=by kernel_rfl
theorem Mg(a0:au)(a1:Int)(a2:af)(hg:eX a0 a1 a2=true):∃keep rounds,∀{R:Type}(k:Kt R),aO XW keep rounds T4 [.ro,.ro,.ro] [false] true [.cell 6 29] [29] [.d .cZ a0,.d (.i .i64) a1,.d .item a2] k=k [.d .cZ (bY a0 a1 a2)]:=by
 simp only[eX,Bool.and_eq_true] at hg
 obtain⟨hg,hk,hx⟩:=hg
 have Np:=hg
 simp only[bI,Bool.and_eq_true] at Np
 refine⟨XV,0,fun {R} k=> ?_⟩
 rw[Pm]
 simp only[hg,hx,cond_true]
 unfold bY
 cases ho:cA a0
 ·rfl
 obtain⟨h1,h2,h3,h4⟩:=kt ho
 have e0:(⟨a0.base+1+(a0.list.length:Int),a1,a2⟩:ag)=di a0 a1 a2:=rfl
 have hl:=lG Np.2 (yq hk hx ho) (by omega)
 have s1:bI ⟨a0.base+1,(a0.list++[di a0 a1 a2]).drop 1⟩=true:=by
  simp only[bI,Bool.and_eq_true];exact⟨ku (by omega) (by omega),nL hl 1⟩
 have s2:bI ⟨a0.base,a0.list++[di a0 a1 a2]⟩=true:=by
  simp only[bI,Bool.and_eq_true];exact⟨Np.1,hl⟩
 have hlen:((a0.list++[di a0 a1 a2]).length:Int)=(a0.list.length:Int)+1:=by rw[List.length_append,List.length_cons,List.length_nil];omega
 rw[cC (x:=a0.base+(a0.list.length:Int)) (by omega) (by omega),cC (x:=a0.base+(a0.list.length:Int)+1) (by omega) (by omega),show a0.base+(a0.list.length:Int)+1=a0.base+1+(a0.list.length:Int) by omega]
 simp only[Bool.not_true,cond_true,cond_false,Sd (dU Np.2),e0]
 have hc:decide (((a0.list++[di a0 a1 a2]).length:Int)>60)=decide (a0.list.length≥60):=by
  rw[Bool.eq_iff_iff];simp only[decide_eq_true_eq,hlen];omega
 have d1:decide ((1:Int)≤((a0.list++[di a0 a1 a2]).length:Int))=true:=decide_eq_true (by omega)
 have d2:decide ((0:Int)<((a0.list++[di a0 a1 a2]).length:Int))=true:=decide_eq_true (by omega)
 have d3:decide (((a0.list++[di a0 a1 a2]).length:Int)≤((a0.list++[di a0 a1 a2]).length:Int))=true:=decide_eq_true (Int.le_refl _)
 rw[hc]
 by_cases Q':a0.list.length≥60
 ·have hs:(ax (t:= .event) (a0.list++[di a0 a1 a2]) 0).seq=a0.base+1:=by
   have h0:(a0.list++[di a0 a1 a2])[0]? =a0.list[0]? :=List.getElem?_append_left (by omega)
   have:=h4 0 (by omega)
   simp only[jq,Bool.and_eq_true,beq_iff_eq] at this
   have h5:=this.1
   unfold ax at h5 ⊢
   rw[List.getD,h0]
   rw[List.getD] at h5
   rw[h5];omega
  simp only[Q',hs,d1,d2,d3,decide_true,cond_true,Bool.and_self,Int.toNat_natCast,List.take_length,s1]
  cases cA ⟨a0.base+1,(a0.list++[di a0 a1 a2]).drop 1⟩<;>rfl
 ·simp only[Q',decide_false,cond_false,s2,cond_true]
  cases cA ⟨a0.base,a0.list++[di a0 a1 a2]⟩<;>rfl
noncomputable def q21:Qt
 | [.d .cZ a0,.d (.i .i64) a1,.d .item a2]=>some ((eX a0 a1 a2),[.d .cZ (bY a0 a1 a2)])
 |_=>none
noncomputable def s21:Gm.Spec:=Gm.Spec.of [.ro,.ro,.ro] [false] true q21
theorem Mh:Gm.Good Try.prog (21,s21):=by
 have hl:∀x∈[(13,TX),(61,Ev),(65,Z1)],Gm.Good Try.prog x:=aU.2 ⟨BN,aU.2 ⟨oM,aU.2 ⟨SM,gD⟩⟩⟩
 refine⟨⟨aM (aV.env hl) (bd.cz hl) Try.func21 (by kernel_rfl:Try.f21.body=some T4) [29] (by kernel_rfl) ?_,_,Try.func21,by kernel_rfl,of_decide_eq_true (by kernel_rfl)⟩,Gm.Spec.aG _ _ _ _⟩
 intro ds outs h
 unfold q21 at h
 split at h
 ·simp only[Option.some.injEq,Prod.mk.injEq] at h;obtain⟨hg,h⟩:=h;cases h;exact Mg _ _ _ hg
 ·cases h
end Go.Proofs.Ytnbehmbjoanfoaa
