/- What the functions compute, part 4. No conditions. -/
import Derived.Test.YtalnkjjnohgjkaaGreatFnDiffsFn3
namespace Go.Proofs.YtalnkjjnohgjkaaGreat
open Go Go.Gm
noncomputable def q6:Qt
 | [.d .node a0,.d .node a1]=>some ((cY a0 a1),[.d (.sl .pop) (aM a0 a1)])
 |_=>none
noncomputable def mu6:List Dt→Nat
 | [.d .node a0,.d .node a1]=>(fun(a:ae)(_:ae)=>ao a) a0 a1
 |_=>0
noncomputable def s6r(N:Nat):Gm.Spec:=Gm.Spec.of [.ro,.ro] [false] true (qA mu6 N q6)
noncomputable def KA(y0:Int)(y1:Int)(y2:Int)(y3:Int)(y4:BA)(y5:List BA)(y6:List ae)(y7:Int)(y8:Int)(y9:BA)(iu:List BA)(ix:List ae)(kr:List ai)(o9:List BA):St:=⟨[(2,.c (.one (.pt 2 0))),(3,.c (.one (.pt 3 0))),(5,.c (.one (.h 832 0 0 []))),(54,.c (.one (.h 3456 0 0 []))),(55,.c (.one (.v (.int .i64 y0)))),(56,.c (.one (.v (.int .i64 y1))))],[(2,⟨.node,[.v (.int .i64 y2),.v (.int .i64 y3),.v (.string y4),.ro .str y5,.ro .node y6]⟩),(3,⟨.node,[.v (.int .i64 y7),.v (.int .i64 y8),.v (.string y9),.ro .str iu,.ro .node ix]⟩)],[(832,.live ⟨.pop,.deep,0,[],kr⟩),(3456,.live ⟨.str,.deep,0,[],o9⟩)]⟩
noncomputable def abK(y0:Int)(y1:Int)(y2:Bool)(y3:Int)(y4:Int)(y5:BA)(y6:List BA)(y7:List ae)(y8:Int)(y9:Int)(iu:BA)(ix:List BA)(kr:List ae)(o9:List ai)(yR:List BA):St:=⟨[(2,.c (.one (.pt 2 0))),(3,.c (.one (.pt 3 0))),(5,.c (.one (.h 832 0 0 []))),(54,.c (.one (.h 3456 0 0 []))),(55,.c (.one (.v (.int .i64 y0)))),(56,.c (.one (.v (.int .i64 y1)))),(57,.c (.one (.v (.bool y2))))],[(2,⟨.node,[.v (.int .i64 y3),.v (.int .i64 y4),.v (.string y5),.ro .str y6,.ro .node y7]⟩),(3,⟨.node,[.v (.int .i64 y8),.v (.int .i64 y9),.v (.string iu),.ro .str ix,.ro .node kr]⟩)],[(832,.live ⟨.pop,.deep,0,[],o9⟩),(3456,.live ⟨.str,.deep,0,[],yR⟩)]⟩
noncomputable def GF(y0:Int)(y1:Int)(y2:Int)(y3:Int)(y4:BA)(y5:List BA)(y6:List ae)(y7:Int)(y8:Int)(y9:BA)(iu:List BA)(ix:List ae)(kr:List ai):St:=⟨[(2,.c (.one (.pt 2 0))),(3,.c (.one (.pt 3 0))),(5,.c (.one (.h 832 0 0 []))),(119,.c (.one (.v (.int .i64 y0)))),(120,.c (.one (.v (.int .i64 y1))))],[(2,⟨.node,[.v (.int .i64 y2),.v (.int .i64 y3),.v (.string y4),.ro .str y5,.ro .node y6]⟩),(3,⟨.node,[.v (.int .i64 y7),.v (.int .i64 y8),.v (.string y9),.ro .str iu,.ro .node ix]⟩)],[(832,.live ⟨.pop,.deep,0,[],kr⟩)]⟩
noncomputable def abL(y0:Int)(y1:Int)(y2:Bool)(y3:Int)(y4:Int)(y5:BA)(y6:List BA)(y7:List ae)(y8:Int)(y9:Int)(iu:BA)(ix:List BA)(kr:List ae)(o9:List ai):St:=⟨[(2,.c (.one (.pt 2 0))),(3,.c (.one (.pt 3 0))),(5,.c (.one (.h 832 0 0 []))),(119,.c (.one (.v (.int .i64 y0)))),(120,.c (.one (.v (.int .i64 y1)))),(121,.c (.one (.v (.bool y2))))],[(2,⟨.node,[.v (.int .i64 y3),.v (.int .i64 y4),.v (.string y5),.ro .str y6,.ro .node y7]⟩),(3,⟨.node,[.v (.int .i64 y8),.v (.int .i64 y9),.v (.string iu),.ro .str ix,.ro .node kr]⟩)],[(832,.live ⟨.pop,.deep,0,[],o9⟩)]⟩
noncomputable def IC:Code:=(Tryz.f6.body).getD .skip
def KB:Nat→Kp:=fa [⟨[2,3],[],[],[]⟩,⟨[2,3,5],[],[],[]⟩,⟨[5],[],[],[]⟩,⟨[2,3,5,20],[],[],[]⟩,⟨[2,3,5,24],[],[],[]⟩,⟨[2,3,5,54,55,56],[],[],[]⟩,⟨[2,3,5,54,55,56,57],[],[],[]⟩,⟨[2,3,5,7,54,55,56],[],[],[]⟩,⟨[2,3,5,7,8,9,54,55,56],[],[],[]⟩,⟨[2,3,5,7,8,9,10,11,54,55,56],[],[],[]⟩,⟨[2,3,5,54,55,56],[],[],[]⟩,⟨[2,3,5,7,8,9,10,54,55,56,79],[],[],[]⟩,⟨[2,3,5,54,55,56],[],[],[]⟩,⟨[2,3,5,7,8,10,54,55,56,88],[],[],[]⟩,⟨[2,3,5,54,55,56],[],[],[]⟩,⟨[2,3,5,54,55,56],[],[],[]⟩,⟨[2,3,5,99],[],[],[]⟩,⟨[2,3,5,119,120],[],[],[]⟩,⟨[2,3,5,119,120,121],[],[],[]⟩,⟨[2,3,5,12,119,120],[],[],[]⟩,⟨[2,3,5,119,120],[],[],[]⟩,⟨[2,3,5,119,120],[],[],[]⟩,⟨[4],[],[],[]⟩]
noncomputable def yX(N:Nat):Env:=bQ.env [(6,s6r N),(9,s9),(19,s19),(20,s20),(21,s21),(22,s22),(23,pU)]
noncomputable def uR{R:Type}(N:Nat)(n:Nat)(x0:Int→Bool→(List ai)→Option R)(wR:Int)(wJ:Int)(wK:Int)(wL:BA)(wD:List BA)(wE:List ae)(wG:Int)(wH:Int)(wI:BA)(wF:List BA)(wC:List ae)(wO:List BA):Nat→Int→(List ai)→Option R
  |0,_,_=>none
  |m+1,wN,wQ=>
    (cond (decide (wN<wR))
   (cond ((decide ((0:Int)≤wN))&&(decide (wN<(wO.length:Int))))
    (cond ((fun(t:ae)(_:BA)=>ag t) (⟨wJ,wK,wL,wD,wE⟩:ae) (al (t:= .str) wO (Int.toNat wN)))
     (cond ((fun(t:ae)(_:BA)=>ag t) (⟨wG,wH,wI,wF,wC⟩:ae) (al (t:= .str) wO (Int.toNat wN)))
      (cond (!((gS (⟨wG,wH,wI,wF,wC⟩:ae) (al (t:= .str) wO (Int.toNat wN))).2))
       (cond (Nat.ble (wQ.length+1) bT)
        (uR N n x0 wR wJ wK wL wD wE wG wH wI wF wC wO m (IntKind.wrap .i64 (wN+(1:Int))) (wQ++([(⟨(2:Int),[(al (t:= .str) wO (Int.toNat wN))],([]:List BA),(⟨(0:Int),(0:Int),ByteArray.empty,([]:List BA),([]:List ae)⟩:ae)⟩:ai)]:List ai)))
        none)
       (cond (!((gS (⟨wJ,wK,wL,wD,wE⟩:ae) (al (t:= .str) wO (Int.toNat wN))).2))
        (cond (Nat.ble (wQ.length+1) bT)
         (uR N n x0 wR wJ wK wL wD wE wG wH wI wF wC wO m (IntKind.wrap .i64 (wN+(1:Int))) (wQ++([(⟨(1:Int),[(al (t:= .str) wO (Int.toNat wN))],([]:List BA),(eN ((gS (⟨wG,wH,wI,wF,wC⟩:ae) (al (t:= .str) wO (Int.toNat wN))).1))⟩:ai)]:List ai)))
         none)
        (cond ((cY (eN ((gS (⟨wJ,wK,wL,wD,wE⟩:ae) (al (t:= .str) wO (Int.toNat wN))).1)) (eN ((gS (⟨wG,wH,wI,wF,wC⟩:ae) (al (t:= .str) wO (Int.toNat wN))).1)))&&(Nat.blt ((fun(a:ae)(_:ae)=>ao a) (eN ((gS (⟨wJ,wK,wL,wD,wE⟩:ae) (al (t:= .str) wO (Int.toNat wN))).1)) (eN ((gS (⟨wG,wH,wI,wF,wC⟩:ae) (al (t:= .str) wO (Int.toNat wN))).1))) N))
         (cond (nZ (al (t:= .str) wO (Int.toNat wN)) (aM (eN ((gS (⟨wJ,wK,wL,wD,wE⟩:ae) (al (t:= .str) wO (Int.toNat wN))).1)) (eN ((gS (⟨wG,wH,wI,wF,wC⟩:ae) (al (t:= .str) wO (Int.toNat wN))).1))))
          (cond (Nat.ble (wQ.length+(bK (al (t:= .str) wO (Int.toNat wN)) (aM (eN ((gS (⟨wJ,wK,wL,wD,wE⟩:ae) (al (t:= .str) wO (Int.toNat wN))).1)) (eN ((gS (⟨wG,wH,wI,wF,wC⟩:ae) (al (t:= .str) wO (Int.toNat wN))).1)))).length) bT)
           (uR N n x0 wR wJ wK wL wD wE wG wH wI wF wC wO m (IntKind.wrap .i64 (wN+(1:Int))) (wQ++(bK (al (t:= .str) wO (Int.toNat wN)) (aM (eN ((gS (⟨wJ,wK,wL,wD,wE⟩:ae) (al (t:= .str) wO (Int.toNat wN))).1)) (eN ((gS (⟨wG,wH,wI,wF,wC⟩:ae) (al (t:= .str) wO (Int.toNat wN))).1))))))
           none)
          none)
         none)))
      none)
     none)
    none)
   (x0 wN (decide (wN<wR)) wQ))
theorem abM{R:Type}(N:Nat)(n:Nat)(k':Kx R)(wR:Int)(wN:Int)(wJ:Int)(wK:Int)(wL:BA)(wD:List BA)(wE:List ae)(wG:Int)(wH:Int)(wI:BA)(wF:List BA)(wC:List ae)(wQ:List ai)(wO:List BA):ev (yX N) KB n (bC [1,1,0,0,1,1,1,0,1,0,0] IC) (KA wR wN wJ wK wL wD wE wG wH wI wF wC wQ wO) k'=
 (cond (decide (wN<wR))
 (cond ((decide ((0:Int)≤wN))&&(decide (wN<(wO.length:Int))))
 (cond ((fun(t:ae)(_:BA)=>ag t) (⟨wJ,wK,wL,wD,wE⟩:ae) (al (t:= .str) wO (Int.toNat wN)))
 (cond ((fun(t:ae)(_:BA)=>ag t) (⟨wG,wH,wI,wF,wC⟩:ae) (al (t:= .str) wO (Int.toNat wN)))
 (cond (!((gS (⟨wG,wH,wI,wF,wC⟩:ae) (al (t:= .str) wO (Int.toNat wN))).2))
 (cond (Nat.ble (wQ.length+1) bT)
 (k' .normal (KA wR (IntKind.wrap .i64 (wN+(1:Int))) wJ wK wL wD wE wG wH wI wF wC (wQ++([(⟨(2:Int),[(al (t:= .str) wO (Int.toNat wN))],([]:List BA),(⟨(0:Int),(0:Int),ByteArray.empty,([]:List BA),([]:List ae)⟩:ae)⟩:ai)]:List ai)) wO))
 none)
 (cond (!((gS (⟨wJ,wK,wL,wD,wE⟩:ae) (al (t:= .str) wO (Int.toNat wN))).2))
 (cond (Nat.ble (wQ.length+1) bT)
 (k' .normal (KA wR (IntKind.wrap .i64 (wN+(1:Int))) wJ wK wL wD wE wG wH wI wF wC (wQ++([(⟨(1:Int),[(al (t:= .str) wO (Int.toNat wN))],([]:List BA),(eN ((gS (⟨wG,wH,wI,wF,wC⟩:ae) (al (t:= .str) wO (Int.toNat wN))).1))⟩:ai)]:List ai)) wO))
 none)
 (cond ((cY (eN ((gS (⟨wJ,wK,wL,wD,wE⟩:ae) (al (t:= .str) wO (Int.toNat wN))).1)) (eN ((gS (⟨wG,wH,wI,wF,wC⟩:ae) (al (t:= .str) wO (Int.toNat wN))).1)))&&(Nat.blt ((fun(a:ae)(_:ae)=>ao a) (eN ((gS (⟨wJ,wK,wL,wD,wE⟩:ae) (al (t:= .str) wO (Int.toNat wN))).1)) (eN ((gS (⟨wG,wH,wI,wF,wC⟩:ae) (al (t:= .str) wO (Int.toNat wN))).1))) N))
 (cond (nZ (al (t:= .str) wO (Int.toNat wN)) (aM (eN ((gS (⟨wJ,wK,wL,wD,wE⟩:ae) (al (t:= .str) wO (Int.toNat wN))).1)) (eN ((gS (⟨wG,wH,wI,wF,wC⟩:ae) (al (t:= .str) wO (Int.toNat wN))).1))))
 (cond (Nat.ble (wQ.length+(bK (al (t:= .str) wO (Int.toNat wN)) (aM (eN ((gS (⟨wJ,wK,wL,wD,wE⟩:ae) (al (t:= .str) wO (Int.toNat wN))).1)) (eN ((gS (⟨wG,wH,wI,wF,wC⟩:ae) (al (t:= .str) wO (Int.toNat wN))).1)))).length) bT)
 (k' .normal (KA wR (IntKind.wrap .i64 (wN+(1:Int))) wJ wK wL wD wE wG wH wI wF wC (wQ++(bK (al (t:= .str) wO (Int.toNat wN)) (aM (eN ((gS (⟨wJ,wK,wL,wD,wE⟩:ae) (al (t:= .str) wO (Int.toNat wN))).1)) (eN ((gS (⟨wG,wH,wI,wF,wC⟩:ae) (al (t:= .str) wO (Int.toNat wN))).1))))) wO))
 none)
 none)
 none)))
 none)
 none)
 none)
 (k' (.exit 1) (abK wR wN (decide (wN<wR)) wJ wK wL wD wE wG wH wI wF wC wQ wO))):=by kernel_rfl
theorem WI{R:Type}(N:Nat)(n:Nat)(k':Kx R)(wR:Int)(wJ:Int)(wK:Int)(wL:BA)(wD:List BA)(wE:List ae)(wG:Int)(wH:Int)(wI:BA)(wF:List BA)(wC:List ae)(wO:List BA):∀(m:Nat)(wN:Int)(wQ:List ai),iter (fun st k=>ev (yX N) KB n (bC [1,1,0,0,1,1,1,0,1,0,0] IC) st k) m (KA wR wN wJ wK wL wD wE wG wH wI wF wC wQ wO) k'=uR N n (fun(uB:Int)(uC:Bool)(wS:List ai)=>k' (.exit 1) (abK wR uB uC wJ wK wL wD wE wG wH wI wF wC wS wO)) wR wJ wK wL wD wE wG wH wI wF wC wO m wN wQ:=by
 intro m;induction m with
 |zero=>intros;rfl
 |succ m ih=>
  intro wN wQ
  simp only[iter]
  rw[abM]
  simp only[ih,uR]
noncomputable def agd{R:Type}(N:Nat)(n:Nat)(k':Kx R):Kx R:=(b8 1 (b8 0 (eP (yX N) KB n (bC [1,1,1] IC) k')))
theorem WJ{R:Type}(N:Nat)(n:Nat)(k:Kt R)(a0:ae)(a1:ae)(wR:Int)(wJ:Int)(wK:Int)(wL:BA)(wD:List BA)(wE:List ae)(wG:Int)(wH:Int)(wI:BA)(wF:List BA)(wC:List ae)(wO:List BA)(uB:Int)(uC:Bool)(wS:List ai):agd N n (aI (yX N) [.ro,.ro] [false] true [.tmp 4] [30] [.d .node a0,.d .node a1] k) (.exit 1) (abK wR uB uC wJ wK wL wD wE wG wH wI wF wC wS wO)=
 (k [.d (.sl .pop) wS]):=by kernel_rfl
noncomputable def yp{R:Type}(N:Nat)(n:Nat)(x0:Int→Bool→(List ai)→Option R)(wT:Int)(wJ:Int)(wK:Int)(wL:BA)(wD:List BA)(wE:List ae)(wG:Int)(wH:Int)(wI:BA)(wF:List BA)(wC:List ae):Nat→Int→(List ai)→Option R
  |0,_,_=>none
  |m+1,wP,wQ=>
    (cond (decide (wP<wT))
   (cond (gj wP)
    (cond ((decide ((0:Int)≤wP))&&(decide (wP<(wE.length:Int))))
     (cond ((decide ((0:Int)≤wP))&&(decide (wP<(wC.length:Int))))
      (cond ((cY (eN (al (t:= .node) wE (Int.toNat wP))) (eN (al (t:= .node) wC (Int.toNat wP))))&&(Nat.blt ((fun(a:ae)(_:ae)=>ao a) (eN (al (t:= .node) wE (Int.toNat wP))) (eN (al (t:= .node) wC (Int.toNat wP)))) N))
       (cond (nZ (bw wP) (aM (eN (al (t:= .node) wE (Int.toNat wP))) (eN (al (t:= .node) wC (Int.toNat wP)))))
        (cond (Nat.ble (wQ.length+(bK (bw wP) (aM (eN (al (t:= .node) wE (Int.toNat wP))) (eN (al (t:= .node) wC (Int.toNat wP))))).length) bT)
         (yp N n x0 wT wJ wK wL wD wE wG wH wI wF wC m (IntKind.wrap .i64 (wP+(1:Int))) (wQ++(bK (bw wP) (aM (eN (al (t:= .node) wE (Int.toNat wP))) (eN (al (t:= .node) wC (Int.toNat wP)))))))
         none)
        none)
       none)
      none)
     none)
    none)
   (x0 wP (decide (wP<wT)) wQ))
theorem abN{R:Type}(N:Nat)(n:Nat)(k':Kx R)(wT:Int)(wP:Int)(wJ:Int)(wK:Int)(wL:BA)(wD:List BA)(wE:List ae)(wG:Int)(wH:Int)(wI:BA)(wF:List BA)(wC:List ae)(wQ:List ai):ev (yX N) KB n (bC [1,1,0,0,1,1,1,1,1,0,1,0,0] IC) (GF wT wP wJ wK wL wD wE wG wH wI wF wC wQ) k'=
 (cond (decide (wP<wT))
 (cond (gj wP)
 (cond ((decide ((0:Int)≤wP))&&(decide (wP<(wE.length:Int))))
 (cond ((decide ((0:Int)≤wP))&&(decide (wP<(wC.length:Int))))
 (cond ((cY (eN (al (t:= .node) wE (Int.toNat wP))) (eN (al (t:= .node) wC (Int.toNat wP))))&&(Nat.blt ((fun(a:ae)(_:ae)=>ao a) (eN (al (t:= .node) wE (Int.toNat wP))) (eN (al (t:= .node) wC (Int.toNat wP)))) N))
 (cond (nZ (bw wP) (aM (eN (al (t:= .node) wE (Int.toNat wP))) (eN (al (t:= .node) wC (Int.toNat wP)))))
 (cond (Nat.ble (wQ.length+(bK (bw wP) (aM (eN (al (t:= .node) wE (Int.toNat wP))) (eN (al (t:= .node) wC (Int.toNat wP))))).length) bT)
 (k' .normal (GF wT (IntKind.wrap .i64 (wP+(1:Int))) wJ wK wL wD wE wG wH wI wF wC (wQ++(bK (bw wP) (aM (eN (al (t:= .node) wE (Int.toNat wP))) (eN (al (t:= .node) wC (Int.toNat wP))))))))
 none)
 none)
 none)
 none)
 none)
 none)
 (k' (.exit 4) (abL wT wP (decide (wP<wT)) wJ wK wL wD wE wG wH wI wF wC wQ))):=by kernel_rfl
theorem WK{R:Type}(N:Nat)(n:Nat)(k':Kx R)(wT:Int)(wJ:Int)(wK:Int)(wL:BA)(wD:List BA)(wE:List ae)(wG:Int)(wH:Int)(wI:BA)(wF:List BA)(wC:List ae):∀(m:Nat)(wP:Int)(wQ:List ai),iter (fun st k=>ev (yX N) KB n (bC [1,1,0,0,1,1,1,1,1,0,1,0,0] IC) st k) m (GF wT wP wJ wK wL wD wE wG wH wI wF wC wQ) k'=yp N n (fun(wX:Int)(wY:Bool)(wS:List ai)=>k' (.exit 4) (abL wT wX wY wJ wK wL wD wE wG wH wI wF wC wS)) wT wJ wK wL wD wE wG wH wI wF wC m wP wQ:=by
 intro m;induction m with
 |zero=>intros;rfl
 |succ m ih=>
  intro wP wQ
  simp only[iter]
  rw[abN]
  simp only[ih,yp]
noncomputable def Sq{R:Type}(N:Nat)(n:Nat)(k':Kx R):Kx R:=(b8 4 (b8 0 (eP (yX N) KB n (bC [1,1,1] IC) k')))
theorem WL{R:Type}(N:Nat)(n:Nat)(k:Kt R)(a0:ae)(a1:ae)(wT:Int)(wJ:Int)(wK:Int)(wL:BA)(wD:List BA)(wE:List ae)(wG:Int)(wH:Int)(wI:BA)(wF:List BA)(wC:List ae)(wX:Int)(wY:Bool)(wS:List ai):Sq N n (aI (yX N) [.ro,.ro] [false] true [.tmp 4] [30] [.d .node a0,.d .node a1] k) (.exit 4) (abL wT wX wY wJ wK wL wD wE wG wH wI wF wC wS)=
 (k [.d (.sl .pop) wS]):=by kernel_rfl
theorem abO{R:Type}(N:Nat)(n:Nat)(k:Kt R)(a0:ae)(a1:ae):aG (yX N) KB n IC [.ro,.ro] [false] true [.tmp 4] [30] [.d .node a0,.d .node a1] k=
 (cond (pQ ag (eN a0) (eN a1))
 (cond (iM (eN a0) (eN a1))
 (k [.d (.sl .pop) ([]:List ai)])
 (cond ((ae.kind a0)==(5:Int))
 (cond ((ae.kind a1)==(5:Int))
 (cond (((ae.keys a0).length:Int)==((ae.kids a0).length:Int))
 (cond (((ae.keys a1).length:Int)==((ae.kids a1).length:Int))
 (cond (Zz ([(eN a0),(eN a1)]:List ae))
 (uR N n (fun(uB:Int)(uC:Bool)(wS:List ai)=>
 (k [.d (.sl .pop) wS])) ((dp ([(eN a0),(eN a1)]:List ae)).length:Int) (ae.kind a0) (ae.n a0) (ae.s a0) (ae.keys a0) (ae.kids a0) (ae.kind a1) (ae.n a1) (ae.s a1) (ae.keys a1) (ae.kids a1) (dp ([(eN a0),(eN a1)]:List ae)) n (0:Int) ([]:List ai))
 none)
 (cond ((ae.kind a0)==(4:Int))
 (cond ((ae.kind a1)==(4:Int))
 (cond (((ae.kids a0).length:Int)==((ae.kids a1).length:Int))
 (yp N n (fun(wX:Int)(wY:Bool)(wS:List ai)=>
 (k [.d (.sl .pop) wS])) ((ae.kids a0).length:Int) (ae.kind a0) (ae.n a0) (ae.s a0) (ae.keys a0) (ae.kids a0) (ae.kind a1) (ae.n a1) (ae.s a1) (ae.keys a1) (ae.kids a1) n (0:Int) ([]:List ai))
 (cond (ag (eN a1))
 (k [.d (.sl .pop) (([]:List ai)++([(⟨(3:Int),([]:List BA),([]:List BA),(eN a1)⟩:ai)]:List ai))])
 none))
 (cond (ag (eN a1))
 (k [.d (.sl .pop) (([]:List ai)++([(⟨(3:Int),([]:List BA),([]:List BA),(eN a1)⟩:ai)]:List ai))])
 none))
 (cond (ag (eN a1))
 (k [.d (.sl .pop) (([]:List ai)++([(⟨(3:Int),([]:List BA),([]:List BA),(eN a1)⟩:ai)]:List ai))])
 none)))
 (cond ((ae.kind a0)==(4:Int))
 (cond ((ae.kind a1)==(4:Int))
 (cond (((ae.kids a0).length:Int)==((ae.kids a1).length:Int))
 (yp N n (fun(wX:Int)(wY:Bool)(wS:List ai)=>
 (k [.d (.sl .pop) wS])) ((ae.kids a0).length:Int) (ae.kind a0) (ae.n a0) (ae.s a0) (ae.keys a0) (ae.kids a0) (ae.kind a1) (ae.n a1) (ae.s a1) (ae.keys a1) (ae.kids a1) n (0:Int) ([]:List ai))
 (cond (ag (eN a1))
 (k [.d (.sl .pop) (([]:List ai)++([(⟨(3:Int),([]:List BA),([]:List BA),(eN a1)⟩:ai)]:List ai))])
 none))
 (cond (ag (eN a1))
 (k [.d (.sl .pop) (([]:List ai)++([(⟨(3:Int),([]:List BA),([]:List BA),(eN a1)⟩:ai)]:List ai))])
 none))
 (cond (ag (eN a1))
 (k [.d (.sl .pop) (([]:List ai)++([(⟨(3:Int),([]:List BA),([]:List BA),(eN a1)⟩:ai)]:List ai))])
 none)))
 (cond ((ae.kind a0)==(4:Int))
 (cond ((ae.kind a1)==(4:Int))
 (cond (((ae.kids a0).length:Int)==((ae.kids a1).length:Int))
 (yp N n (fun(wX:Int)(wY:Bool)(wS:List ai)=>
 (k [.d (.sl .pop) wS])) ((ae.kids a0).length:Int) (ae.kind a0) (ae.n a0) (ae.s a0) (ae.keys a0) (ae.kids a0) (ae.kind a1) (ae.n a1) (ae.s a1) (ae.keys a1) (ae.kids a1) n (0:Int) ([]:List ai))
 (cond (ag (eN a1))
 (k [.d (.sl .pop) (([]:List ai)++([(⟨(3:Int),([]:List BA),([]:List BA),(eN a1)⟩:ai)]:List ai))])
 none))
 (cond (ag (eN a1))
 (k [.d (.sl .pop) (([]:List ai)++([(⟨(3:Int),([]:List BA),([]:List BA),(eN a1)⟩:ai)]:List ai))])
 none))
 (cond (ag (eN a1))
 (k [.d (.sl .pop) (([]:List ai)++([(⟨(3:Int),([]:List BA),([]:List BA),(eN a1)⟩:ai)]:List ai))])
 none)))
 (cond ((ae.kind a0)==(4:Int))
 (cond ((ae.kind a1)==(4:Int))
 (cond (((ae.kids a0).length:Int)==((ae.kids a1).length:Int))
 (yp N n (fun(wX:Int)(wY:Bool)(wS:List ai)=>
 (k [.d (.sl .pop) wS])) ((ae.kids a0).length:Int) (ae.kind a0) (ae.n a0) (ae.s a0) (ae.keys a0) (ae.kids a0) (ae.kind a1) (ae.n a1) (ae.s a1) (ae.keys a1) (ae.kids a1) n (0:Int) ([]:List ai))
 (cond (ag (eN a1))
 (k [.d (.sl .pop) (([]:List ai)++([(⟨(3:Int),([]:List BA),([]:List BA),(eN a1)⟩:ai)]:List ai))])
 none))
 (cond (ag (eN a1))
 (k [.d (.sl .pop) (([]:List ai)++([(⟨(3:Int),([]:List BA),([]:List BA),(eN a1)⟩:ai)]:List ai))])
 none))
 (cond (ag (eN a1))
 (k [.d (.sl .pop) (([]:List ai)++([(⟨(3:Int),([]:List BA),([]:List BA),(eN a1)⟩:ai)]:List ai))])
 none))))
 none):=by
  refine Eq.trans (b:=(cond (pQ ag (eN a0) (eN a1))
  (cond (iM (eN a0) (eN a1))
   (k [.d (.sl .pop) ([]:List ai)])
   (cond ((ae.kind a0)==(5:Int))
    (cond ((ae.kind a1)==(5:Int))
     (cond (((ae.keys a0).length:Int)==((ae.kids a0).length:Int))
      (cond (((ae.keys a1).length:Int)==((ae.kids a1).length:Int))
       (cond (Zz ([(eN a0),(eN a1)]:List ae))
        (iter (fun st k=>ev (yX N) KB n (bC [1,1,0,0,1,1,1,0,1,0,0] IC) st k) n (KA ((dp ([(eN a0),(eN a1)]:List ae)).length:Int) (0:Int) (ae.kind a0) (ae.n a0) (ae.s a0) (ae.keys a0) (ae.kids a0) (ae.kind a1) (ae.n a1) (ae.s a1) (ae.keys a1) (ae.kids a1) ([]:List ai) (dp ([(eN a0),(eN a1)]:List ae))) (agd N n (aI (yX N) [.ro,.ro] [false] true [.tmp 4] [30] [.d .node a0,.d .node a1] k)))
        none)
       (cond ((ae.kind a0)==(4:Int))
        (cond ((ae.kind a1)==(4:Int))
         (cond (((ae.kids a0).length:Int)==((ae.kids a1).length:Int))
          (iter (fun st k=>ev (yX N) KB n (bC [1,1,0,0,1,1,1,1,1,0,1,0,0] IC) st k) n (GF ((ae.kids a0).length:Int) (0:Int) (ae.kind a0) (ae.n a0) (ae.s a0) (ae.keys a0) (ae.kids a0) (ae.kind a1) (ae.n a1) (ae.s a1) (ae.keys a1) (ae.kids a1) ([]:List ai)) (Sq N n (aI (yX N) [.ro,.ro] [false] true [.tmp 4] [30] [.d .node a0,.d .node a1] k)))
          (cond (ag (eN a1))
           (k [.d (.sl .pop) (([]:List ai)++([(⟨(3:Int),([]:List BA),([]:List BA),(eN a1)⟩:ai)]:List ai))])
           none))
         (cond (ag (eN a1))
          (k [.d (.sl .pop) (([]:List ai)++([(⟨(3:Int),([]:List BA),([]:List BA),(eN a1)⟩:ai)]:List ai))])
          none))
        (cond (ag (eN a1))
         (k [.d (.sl .pop) (([]:List ai)++([(⟨(3:Int),([]:List BA),([]:List BA),(eN a1)⟩:ai)]:List ai))])
         none)))
      (cond ((ae.kind a0)==(4:Int))
       (cond ((ae.kind a1)==(4:Int))
        (cond (((ae.kids a0).length:Int)==((ae.kids a1).length:Int))
         (iter (fun st k=>ev (yX N) KB n (bC [1,1,0,0,1,1,1,1,1,0,1,0,0] IC) st k) n (GF ((ae.kids a0).length:Int) (0:Int) (ae.kind a0) (ae.n a0) (ae.s a0) (ae.keys a0) (ae.kids a0) (ae.kind a1) (ae.n a1) (ae.s a1) (ae.keys a1) (ae.kids a1) ([]:List ai)) (Sq N n (aI (yX N) [.ro,.ro] [false] true [.tmp 4] [30] [.d .node a0,.d .node a1] k)))
         (cond (ag (eN a1))
          (k [.d (.sl .pop) (([]:List ai)++([(⟨(3:Int),([]:List BA),([]:List BA),(eN a1)⟩:ai)]:List ai))])
          none))
        (cond (ag (eN a1))
         (k [.d (.sl .pop) (([]:List ai)++([(⟨(3:Int),([]:List BA),([]:List BA),(eN a1)⟩:ai)]:List ai))])
         none))
       (cond (ag (eN a1))
        (k [.d (.sl .pop) (([]:List ai)++([(⟨(3:Int),([]:List BA),([]:List BA),(eN a1)⟩:ai)]:List ai))])
        none)))
     (cond ((ae.kind a0)==(4:Int))
      (cond ((ae.kind a1)==(4:Int))
       (cond (((ae.kids a0).length:Int)==((ae.kids a1).length:Int))
        (iter (fun st k=>ev (yX N) KB n (bC [1,1,0,0,1,1,1,1,1,0,1,0,0] IC) st k) n (GF ((ae.kids a0).length:Int) (0:Int) (ae.kind a0) (ae.n a0) (ae.s a0) (ae.keys a0) (ae.kids a0) (ae.kind a1) (ae.n a1) (ae.s a1) (ae.keys a1) (ae.kids a1) ([]:List ai)) (Sq N n (aI (yX N) [.ro,.ro] [false] true [.tmp 4] [30] [.d .node a0,.d .node a1] k)))
        (cond (ag (eN a1))
         (k [.d (.sl .pop) (([]:List ai)++([(⟨(3:Int),([]:List BA),([]:List BA),(eN a1)⟩:ai)]:List ai))])
         none))
       (cond (ag (eN a1))
        (k [.d (.sl .pop) (([]:List ai)++([(⟨(3:Int),([]:List BA),([]:List BA),(eN a1)⟩:ai)]:List ai))])
        none))
      (cond (ag (eN a1))
       (k [.d (.sl .pop) (([]:List ai)++([(⟨(3:Int),([]:List BA),([]:List BA),(eN a1)⟩:ai)]:List ai))])
       none)))
    (cond ((ae.kind a0)==(4:Int))
     (cond ((ae.kind a1)==(4:Int))
      (cond (((ae.kids a0).length:Int)==((ae.kids a1).length:Int))
       (iter (fun st k=>ev (yX N) KB n (bC [1,1,0,0,1,1,1,1,1,0,1,0,0] IC) st k) n (GF ((ae.kids a0).length:Int) (0:Int) (ae.kind a0) (ae.n a0) (ae.s a0) (ae.keys a0) (ae.kids a0) (ae.kind a1) (ae.n a1) (ae.s a1) (ae.keys a1) (ae.kids a1) ([]:List ai)) (Sq N n (aI (yX N) [.ro,.ro] [false] true [.tmp 4] [30] [.d .node a0,.d .node a1] k)))
       (cond (ag (eN a1))
        (k [.d (.sl .pop) (([]:List ai)++([(⟨(3:Int),([]:List BA),([]:List BA),(eN a1)⟩:ai)]:List ai))])
        none))
      (cond (ag (eN a1))
       (k [.d (.sl .pop) (([]:List ai)++([(⟨(3:Int),([]:List BA),([]:List BA),(eN a1)⟩:ai)]:List ai))])
       none))
     (cond (ag (eN a1))
      (k [.d (.sl .pop) (([]:List ai)++([(⟨(3:Int),([]:List BA),([]:List BA),(eN a1)⟩:ai)]:List ai))])
      none))))
  none)) (by kernel_rfl) ?_
  simp only[WI,WJ,WK,WL]
theorem WM(N:Nat)(a0:ae)(a1:ae)(hg:cY a0 a1=true)(hm:mu6 [.d .node a0,.d .node a1]=N):∃keep rounds,∀{R:Type}(k:Kt R),aG (yX N) keep rounds IC [.ro,.ro] [false] true [.tmp 4] [30] [.d .node a0,.d .node a1] k=k [.d (.sl .pop) (aM a0 a1)]:=by
 have hm:ao a0=N:=hm
 subst hm
 have fP:=hg
 obtain⟨⟨sa,sb⟩,⟨wa,wb⟩,hz⟩:=fU.1 hg
 obtain⟨_,_,_,ake,aki⟩:=ch sa
 obtain⟨_,_,_,bke,bki⟩:=ch sb
 have nak:=aR aki
 have nbk:=aR bki
 have agj:=aR ake
 have agk:=aR bke
 have R6:(bT:Nat)=4294967296:=rfl
 have sJ:=np hg
 have gu:Zz [a0,a1]=true:=by simp only[Zz,List.all_cons,List.all_nil,sa,sb,Bool.and_self];rfl
 refine⟨KB,((dp [a0,a1]).length+a0.kids.length+1),fun {R} k=> ?_⟩
 rw[abO]
 show _=k [.d (.sl .pop) (aM a0 a1)]
 rw[lh] at sJ ⊢
 simp only[aK,pQ,sa,sb,gu,Bool.and_self,cond_true,List.nil_append]
 cases he:iM a0 a1
 rotate_left
 ·rfl
 rw[he] at sJ
 simp only[cond_false] at sJ ⊢
 have hL:∀(fin:Int→Bool→List ai→Option R),(aE a0&&aE a1)=false→((a0.kind==(4:Int))&&((a1.kind==(4:Int))&&((a0.kids.length:Int)==(a1.kids.length:Int))))=true→
   yp (ao a0) ((dp [a0,a1]).length+a0.kids.length+1) fin (a0.kids.length:Int) a0.kind a0.n a0.s a0.keys a0.kids a1.kind a1.n a1.s a1.keys a1.kids ((dp [a0,a1]).length+a0.kids.length+1) (0:Int) []=fin (a0.kids.length:Int) false (gn (fun i x=>bK (bw (i:Int)) (aM x (al (t:= .node) a1.kids i))) 0 a0.kids):=by
  intro fin KL h4
  rw[KL,h4] at sJ
  simp only[cond_true,cond_false] at sJ
  simp only[Bool.and_eq_true,beq_iff_eq] at h4
  refine Eq.trans (pF (xs:=a0.kids) (g:=fun i x=>bK (bw (i:Int)) (aM x (al (t:= .node) a1.kids i))) (F:=fun m j o=>yp (ao a0) ((dp [a0,a1]).length+a0.kids.length+1) fin (a0.kids.length:Int) a0.kind a0.n a0.s a0.keys a0.kids a1.kind a1.n a1.s a1.keys a1.kids m (j:Int) o) (good:=fun o=>fin (a0.kids.length:Int) false o)
   (fun m j o x hx ho=> ?_) (fun m o=>by simp only[yp,iX,cond_false]) a0.kids.length 0 ((dp [a0,a1]).length+a0.kids.length+1) [] (by omega) (by omega) (by rw[List.drop_zero,List.length_nil];omega)) (by rw[List.drop_zero,List.nil_append])
  obtain⟨h1,h0,hw,ht⟩:=idx (aP hx) (by omega)
  have hj:=aP hx
  have DZ:=List.mem_of_getElem? hx
  have hym:al (t:= .node) a1.kids j∈a1.kids:=List.mem_of_getElem? (dm (t:= .node) (by omega))
  have uU:decide ((j:Int)<(a1.kids.length:Int))=true:=decide_eq_true (by omega)
  have hoi:gj (j:Int)=true:=lG (by omega) (by omega)
  have zE:=pG fP DZ hym
  have Jx:Nat.blt (ao x) (ao a0)=true:=by rw[Nat.blt_eq];exact bN DZ
  have yF:=(sn (s:=bw (j:Int)) zE).1
  have pZ:Nat.ble (o.length+(bK (bw (j:Int)) (aM x (al (t:= .node) a1.kids j))).length) bT=true:=Nat.ble_eq_true_of_le ho
  simp only[yp,h1,h0,uU,hw,ht,hoi,bm (t:= .node) hx,aK,zE,Jx,yF,pZ,Bool.and_self,cond_true]
 have hM:∀(fin:Int→Bool→List ai→Option R),aE a0=true→aE a1=true→
   uR (ao a0) ((dp [a0,a1]).length+a0.kids.length+1) fin ((dp [a0,a1]).length:Int) a0.kind a0.n a0.s a0.keys a0.kids a1.kind a1.n a1.s a1.keys a1.kids (dp [a0,a1]) ((dp [a0,a1]).length+a0.kids.length+1) (0:Int) []=fin ((dp [a0,a1]).length:Int) false (bF aM (dZ a0) (dZ a1)):=by
  intro fin ha hb
  rw[ha,hb] at sJ
  simp only[Bool.and_self,cond_true] at sJ
  have hu:=FJ ha hb ((gQ.1 wa).1 ha) ((gQ.1 wb).1 hb) aM
  have hul:(dp [a0,a1]).length≤9223372036854775807:=by
   unfold dp
   have h1:=tp (fO ([a0,a1].flatMap fG))
   rw[jV] at h1
   have h2:=qM a0
   have h3:=qM a1
   simp only[List.flatMap_cons,List.flatMap_nil,List.append_nil,List.length_append] at h1
   simp only[List.flatMap_cons,List.flatMap_nil,List.append_nil]
   omega
  refine Eq.trans (pF (xs:=dp [a0,a1]) (g:=fun _ key=>kJ aM (dZ a0) (dZ a1) key) (F:=fun m j o=>uR (ao a0) ((dp [a0,a1]).length+a0.kids.length+1) fin ((dp [a0,a1]).length:Int) a0.kind a0.n a0.s a0.keys a0.kids a1.kind a1.n a1.s a1.keys a1.kids (dp [a0,a1]) m (j:Int) o) (good:=fun o=>fin ((dp [a0,a1]).length:Int) false o)
   (fun m j o key hx ho=> ?_) (fun m o=>by simp only[uR,iX,cond_false]) (dp [a0,a1]).length 0 ((dp [a0,a1]).length+a0.kids.length+1) [] (by omega) (by omega) (by rw[kq,List.drop_zero,hu,List.length_nil];omega)) (by rw[kq,List.drop_zero,List.nil_append,hu])
  obtain⟨h1,h0,hw,ht⟩:=idx (aP hx) hul
  have ga:=xQ ha key
  have gb:=xQ hb key
  unfold kJ at ho ⊢
  cases lb:jF (dZ a1) key with
  |none=>
   rw[lb] at gb ho
   have pZ:Nat.ble (o.length+1) bT=true:=Nat.ble_eq_true_of_le ho
   simp only[uR,h1,h0,hw,ht,bm (t:= .str) hx,az,aK,sa,sb,gb,pZ,Bool.and_self,Bool.not_false,cond_true]
   rfl
  |some y=>
   rw[lb] at gb ho
   cases la:jF (dZ a0) key with
   |none=>
    rw[la] at ga ho
    have pZ:Nat.ble (o.length+1) bT=true:=Nat.ble_eq_true_of_le ho
    simp only[uR,h1,h0,hw,ht,bm (t:= .str) hx,az,aK,aK,sa,sb,ga,gb,pZ,Bool.and_self,Bool.not_false,Bool.not_true,cond_true,cond_false]
    rfl
   |some x=>
    rw[la] at ga ho
    obtain⟨e1,q1,rfl⟩:=z8 la
    obtain⟨e2,q2,rfl⟩:=z8 lb
    have DZ:=(dJ q1).2
    have hym:=(dJ q2).2
    have zE:=pG fP DZ hym
    have Jx:Nat.blt (ao e1.2) (ao a0)=true:=by rw[Nat.blt_eq];exact bN DZ
    have yF:=(sn (s:=key) zE).1
    have pZ:Nat.ble (o.length+(bK key (aM e1.2 e2.2)).length) bT=true:=Nat.ble_eq_true_of_le ho
    simp only[uR,h1,h0,hw,ht,bm (t:= .str) hx,az,aK,aK,sa,sb,ga,gb,zE,Jx,yF,pZ,Bool.and_self,Bool.not_true,cond_true,cond_false]
 have ea:aE a0=cond (a0.kind==(5:Int)) ((a0.keys.length:Int)==(a0.kids.length:Int)) false:=rfl
 have eb:aE a1=cond (a1.kind==(5:Int)) ((a1.keys.length:Int)==(a1.kids.length:Int)) false:=rfl
 rw[ad',aea,←ea,←eb]
 cases KL:(aE a0&&aE a1)
 ·cases h4:((a0.kind==(4:Int))&&((a1.kind==(4:Int))&&((a0.kids.length:Int)==(a1.kids.length:Int))))
  ·rfl
  ·simp only[cond_true,cond_false]
   exact hL _ KL h4
 ·rw[Bool.and_eq_true] at KL
  simp only[cond_true]
  exact hM _ KL.1 KL.2
noncomputable def s6:Gm.Spec:=Gm.Spec.of [.ro,.ro] [false] true q6
theorem agl:Gm.Good Tryz.prog (6,s6):=by
 refine⟨⟨gJ mu6 fun N hr=> ?_,_,Tryz.func6,by kernel_rfl,of_decide_eq_true (by kernel_rfl)⟩,Gm.Spec.ax _ _ _ _⟩
 have hl:∀x∈[(6,s6r N),(9,s9),(19,s19),(20,s20),(21,s21),(22,s22),(23,pU)],Gm.Good Tryz.prog x:=bt.2 ⟨⟨⟨hr,_,Tryz.func6,by kernel_rfl,of_decide_eq_true (by kernel_rfl)⟩,Gm.Spec.ax _ _ _ _⟩,bt.2 ⟨QI,bt.2 ⟨abG,bt.2 ⟨abI,bt.2 ⟨abJ,bt.2 ⟨N0,bt.2 ⟨ic,gw⟩⟩⟩⟩⟩⟩⟩
 intro R
 refine aD (E:=yX N) (aL.env hl) (bQ.cq hl) Tryz.func6 (by kernel_rfl:Tryz.f6.body=some IC) [30] (by kernel_rfl) ?_
 intro ds outs h
 obtain⟨h,hm⟩:=dg h
 unfold q6 at h
 split at h
 ·simp only[Option.some.injEq,Prod.mk.injEq] at h;obtain⟨hg,h⟩:=h;cases h;exact WM N _ _ hg hm
 ·cases h
noncomputable def q7:Qt
 | [.d .node a0,.d .node a1]=>some ((cY a0 a1),[.d (.sl .pop) (aM a0 a1)])
 |_=>none
noncomputable def mu7:List Dt→Nat
 | [.d .node a0,.d .node a1]=>sL a0 a1
 |_=>0
noncomputable def s7r(N:Nat):Gm.Spec:=Gm.Spec.of [.ro,.ro] [false] true (qA mu7 N q7)
noncomputable def s7:Gm.Spec:=Gm.Spec.of [.ro,.ro] [false] true q7
noncomputable def q26:Qt
 | [.d .node a0,.d .node a1]=>some ((xO a0 a1),[.d (.sl .pop) (HN a0 a1)])
 |_=>none
noncomputable def Sr:List Dt→Nat
 | [.d .node a0,.d .node a1]=>KG a0 a1
 |_=>0
noncomputable def ago(N:Nat):Gm.Spec:=Gm.Spec.of [.ro,.ro] [false] true (qA Sr N q26)
noncomputable def Ss(y0:Int)(y1:Int)(y2:Int)(y3:BA)(y4:List BA)(y5:List ae)(y6:Int)(y7:Int)(y8:BA)(y9:List BA)(iu:List ae)(ix:List ai):St:=⟨[(2,.c (.one (.pt 2 0))),(3,.c (.one (.pt 3 0))),(5,.c (.one (.h 448 0 0 []))),(6,.c (.one (.v (.int .i64 y0))))],[(2,⟨.node,[.v (.int .i64 y1),.v (.int .i64 y2),.v (.string y3),.ro .str y4,.ro .node y5]⟩),(3,⟨.node,[.v (.int .i64 y6),.v (.int .i64 y7),.v (.string y8),.ro .str y9,.ro .node iu]⟩)],[(448,.live ⟨.pop,.deep,0,[],ix⟩)]⟩
noncomputable def abQ(y0:Int)(y1:Bool)(y2:Int)(y3:Int)(y4:BA)(y5:List BA)(y6:List ae)(y7:Int)(y8:Int)(y9:BA)(iu:List BA)(ix:List ae)(kr:List ai):St:=⟨[(2,.c (.one (.pt 2 0))),(3,.c (.one (.pt 3 0))),(5,.c (.one (.h 448 0 0 []))),(6,.c (.one (.v (.int .i64 y0)))),(48,.c (.one (.v (.bool y1))))],[(2,⟨.node,[.v (.int .i64 y2),.v (.int .i64 y3),.v (.string y4),.ro .str y5,.ro .node y6]⟩),(3,⟨.node,[.v (.int .i64 y7),.v (.int .i64 y8),.v (.string y9),.ro .str iu,.ro .node ix]⟩)],[(448,.live ⟨.pop,.deep,0,[],kr⟩)]⟩
noncomputable def Yj:Code:=(Tryz.f7.body).getD .skip
def f7k:Nat→Kp:=fa [⟨[2,3],[],[],[]⟩,⟨[2,3,5],[],[],[]⟩,⟨[2,3,5,10],[],[],[]⟩,⟨[4],[],[],[]⟩,⟨[2,3,5,17],[],[],[]⟩,⟨[4],[],[],[]⟩,⟨[2,3,5,37],[],[],[]⟩,⟨[4],[],[],[]⟩,⟨[2,3,5,6],[],[],[]⟩,⟨[2,3,5,6,48],[],[],[]⟩,⟨[2,3,5,6],[],[],[]⟩,⟨[2,3,5,6],[],[],[]⟩,⟨[4],[],[],[]⟩]
noncomputable def Sw(N:Nat):Env:=bQ.env [(7,s7r N),(24,s24),(25,s25),(26,ago N),(27,x3),(28,s28),(29,UH)]
noncomputable def B3{R:Type}(N:Nat)(n:Nat)(x0:Int→Bool→(List ai)→Option R)(wJ:Int)(wK:Int)(wL:BA)(wD:List BA)(wE:List ae)(wG:Int)(wH:Int)(wI:BA)(wF:List BA)(wC:List ae):Nat→Int→(List ai)→Option R
  |0,_,_=>none
  |m+1,wA,wU=>
    (cond (decide (wA<(wE.length:Int)))
   (cond (gj wA)
    (cond ((decide ((0:Int)≤wA))&&(decide (wA<(wE.length:Int))))
     (cond ((decide ((0:Int)≤wA))&&(decide (wA<(wC.length:Int))))
      (cond ((cY (eN (al (t:= .node) wE (Int.toNat wA))) (eN (al (t:= .node) wC (Int.toNat wA))))&&(Nat.blt (sL (eN (al (t:= .node) wE (Int.toNat wA))) (eN (al (t:= .node) wC (Int.toNat wA)))) N))
       (cond (qL (bw wA) (aM (eN (al (t:= .node) wE (Int.toNat wA))) (eN (al (t:= .node) wC (Int.toNat wA)))))
        (cond (Nat.ble (wU.length+(bK (bw wA) (aM (eN (al (t:= .node) wE (Int.toNat wA))) (eN (al (t:= .node) wC (Int.toNat wA))))).length) bT)
         (B3 N n x0 wJ wK wL wD wE wG wH wI wF wC m (IntKind.wrap .i64 (wA+(1:Int))) (wU++(bK (bw wA) (aM (eN (al (t:= .node) wE (Int.toNat wA))) (eN (al (t:= .node) wC (Int.toNat wA)))))))
         none)
        none)
       none)
      none)
     none)
    none)
   (x0 wA (decide (wA<(wE.length:Int))) wU))
theorem abS{R:Type}(N:Nat)(n:Nat)(k':Kx R)(wA:Int)(wJ:Int)(wK:Int)(wL:BA)(wD:List BA)(wE:List ae)(wG:Int)(wH:Int)(wI:BA)(wF:List BA)(wC:List ae)(wU:List ai):ev (Sw N) f7k n (bC [1,1,1,1,1,0,1,0,0] Yj) (Ss wA wJ wK wL wD wE wG wH wI wF wC wU) k'=
 (cond (decide (wA<(wE.length:Int)))
 (cond (gj wA)
 (cond ((decide ((0:Int)≤wA))&&(decide (wA<(wE.length:Int))))
 (cond ((decide ((0:Int)≤wA))&&(decide (wA<(wC.length:Int))))
 (cond ((cY (eN (al (t:= .node) wE (Int.toNat wA))) (eN (al (t:= .node) wC (Int.toNat wA))))&&(Nat.blt (sL (eN (al (t:= .node) wE (Int.toNat wA))) (eN (al (t:= .node) wC (Int.toNat wA)))) N))
 (cond (qL (bw wA) (aM (eN (al (t:= .node) wE (Int.toNat wA))) (eN (al (t:= .node) wC (Int.toNat wA)))))
 (cond (Nat.ble (wU.length+(bK (bw wA) (aM (eN (al (t:= .node) wE (Int.toNat wA))) (eN (al (t:= .node) wC (Int.toNat wA))))).length) bT)
 (k' .normal (Ss (IntKind.wrap .i64 (wA+(1:Int))) wJ wK wL wD wE wG wH wI wF wC (wU++(bK (bw wA) (aM (eN (al (t:= .node) wE (Int.toNat wA))) (eN (al (t:= .node) wC (Int.toNat wA))))))))
 none)
 none)
 none)
 none)
 none)
 none)
 (k' (.exit 0) (abQ wA (decide (wA<(wE.length:Int))) wJ wK wL wD wE wG wH wI wF wC wU))):=by kernel_rfl
theorem WN{R:Type}(N:Nat)(n:Nat)(k':Kx R)(wJ:Int)(wK:Int)(wL:BA)(wD:List BA)(wE:List ae)(wG:Int)(wH:Int)(wI:BA)(wF:List BA)(wC:List ae):∀(m:Nat)(wA:Int)(wU:List ai),iter (fun st k=>ev (Sw N) f7k n (bC [1,1,1,1,1,0,1,0,0] Yj) st k) m (Ss wA wJ wK wL wD wE wG wH wI wF wC wU) k'=B3 N n (fun(wV:Int)(uA:Bool)(wW:List ai)=>k' (.exit 0) (abQ wV uA wJ wK wL wD wE wG wH wI wF wC wW)) wJ wK wL wD wE wG wH wI wF wC m wA wU:=by
 intro m;induction m with
 |zero=>intros;rfl
 |succ m ih=>
  intro wA wU
  simp only[iter]
  rw[abS]
  simp only[ih,B3]
noncomputable def abT{R:Type}(N:Nat)(n:Nat)(k':Kx R):Kx R:=(b8 0 (eP (Sw N) f7k n (bC [1,1,1,1,1,1] Yj) k'))
theorem WO{R:Type}(N:Nat)(n:Nat)(k:Kt R)(a0:ae)(a1:ae)(wJ:Int)(wK:Int)(wL:BA)(wD:List BA)(wE:List ae)(wG:Int)(wH:Int)(wI:BA)(wF:List BA)(wC:List ae)(wV:Int)(uA:Bool)(wW:List ai):abT N n (aI (Sw N) [.ro,.ro] [false] true [.tmp 4] [30] [.d .node a0,.d .node a1] k) (.exit 0) (abQ wV uA wJ wK wL wD wE wG wH wI wF wC wW)=
 (k [.d (.sl .pop) wW]):=by kernel_rfl
theorem abU{R:Type}(N:Nat)(n:Nat)(k:Kt R)(a0:ae)(a1:ae):aG (Sw N) f7k n Yj [.ro,.ro] [false] true [.tmp 4] [30] [.d .node a0,.d .node a1] k=
 (cond (pQ ag (eN a0) (eN a1))
 (cond (iM (eN a0) (eN a1))
 (k [.d (.sl .pop) ([]:List ai)])
 (cond (aE (eN a0))
 (cond (aE (eN a1))
 (cond ((xO (eN a0) (eN a1))&&(Nat.blt (KG (eN a0) (eN a1)) N))
 (k [.d (.sl .pop) (HN (eN a0) (eN a1))])
 none)
 (cond ((ae.kind a0) !=(4:Int))
 (cond (ag (eN a1))
 (k [.d (.sl .pop) (([]:List ai)++([(⟨(3:Int),([]:List BA),([]:List BA),(eN a1)⟩:ai)]:List ai))])
 none)
 (cond ((ae.kind a1) !=(4:Int))
 (cond (ag (eN a1))
 (k [.d (.sl .pop) (([]:List ai)++([(⟨(3:Int),([]:List BA),([]:List BA),(eN a1)⟩:ai)]:List ai))])
 none)
 (cond (((ae.kids a0).length:Int) !=((ae.kids a1).length:Int))
 (cond (ag (eN a1))
 (k [.d (.sl .pop) (([]:List ai)++([(⟨(3:Int),([]:List BA),([]:List BA),(eN a1)⟩:ai)]:List ai))])
 none)
 (B3 N n (fun(wV:Int)(uA:Bool)(wW:List ai)=>
 (k [.d (.sl .pop) wW])) (ae.kind a0) (ae.n a0) (ae.s a0) (ae.keys a0) (ae.kids a0) (ae.kind a1) (ae.n a1) (ae.s a1) (ae.keys a1) (ae.kids a1) n (0:Int) ([]:List ai))))))
 (cond ((ae.kind a0) !=(4:Int))
 (cond (ag (eN a1))
 (k [.d (.sl .pop) (([]:List ai)++([(⟨(3:Int),([]:List BA),([]:List BA),(eN a1)⟩:ai)]:List ai))])
 none)
 (cond ((ae.kind a1) !=(4:Int))
 (cond (ag (eN a1))
 (k [.d (.sl .pop) (([]:List ai)++([(⟨(3:Int),([]:List BA),([]:List BA),(eN a1)⟩:ai)]:List ai))])
 none)
 (cond (((ae.kids a0).length:Int) !=((ae.kids a1).length:Int))
 (cond (ag (eN a1))
 (k [.d (.sl .pop) (([]:List ai)++([(⟨(3:Int),([]:List BA),([]:List BA),(eN a1)⟩:ai)]:List ai))])
 none)
 (B3 N n (fun(wV:Int)(uA:Bool)(wW:List ai)=>
 (k [.d (.sl .pop) wW])) (ae.kind a0) (ae.n a0) (ae.s a0) (ae.keys a0) (ae.kids a0) (ae.kind a1) (ae.n a1) (ae.s a1) (ae.keys a1) (ae.kids a1) n (0:Int) ([]:List ai)))))))
 none):=by
  refine Eq.trans (b:=(cond (pQ ag (eN a0) (eN a1))
  (cond (iM (eN a0) (eN a1))
   (k [.d (.sl .pop) ([]:List ai)])
   (cond (aE (eN a0))
    (cond (aE (eN a1))
     (cond ((xO (eN a0) (eN a1))&&(Nat.blt (KG (eN a0) (eN a1)) N))
      (k [.d (.sl .pop) (HN (eN a0) (eN a1))])
      none)
     (cond ((ae.kind a0) !=(4:Int))
      (cond (ag (eN a1))
       (k [.d (.sl .pop) (([]:List ai)++([(⟨(3:Int),([]:List BA),([]:List BA),(eN a1)⟩:ai)]:List ai))])
       none)
      (cond ((ae.kind a1) !=(4:Int))
       (cond (ag (eN a1))
        (k [.d (.sl .pop) (([]:List ai)++([(⟨(3:Int),([]:List BA),([]:List BA),(eN a1)⟩:ai)]:List ai))])
        none)
       (cond (((ae.kids a0).length:Int) !=((ae.kids a1).length:Int))
        (cond (ag (eN a1))
         (k [.d (.sl .pop) (([]:List ai)++([(⟨(3:Int),([]:List BA),([]:List BA),(eN a1)⟩:ai)]:List ai))])
         none)
        (iter (fun st k=>ev (Sw N) f7k n (bC [1,1,1,1,1,0,1,0,0] Yj) st k) n (Ss (0:Int) (ae.kind a0) (ae.n a0) (ae.s a0) (ae.keys a0) (ae.kids a0) (ae.kind a1) (ae.n a1) (ae.s a1) (ae.keys a1) (ae.kids a1) ([]:List ai)) (abT N n (aI (Sw N) [.ro,.ro] [false] true [.tmp 4] [30] [.d .node a0,.d .node a1] k)))))))
    (cond ((ae.kind a0) !=(4:Int))
     (cond (ag (eN a1))
      (k [.d (.sl .pop) (([]:List ai)++([(⟨(3:Int),([]:List BA),([]:List BA),(eN a1)⟩:ai)]:List ai))])
      none)
     (cond ((ae.kind a1) !=(4:Int))
      (cond (ag (eN a1))
       (k [.d (.sl .pop) (([]:List ai)++([(⟨(3:Int),([]:List BA),([]:List BA),(eN a1)⟩:ai)]:List ai))])
       none)
      (cond (((ae.kids a0).length:Int) !=((ae.kids a1).length:Int))
       (cond (ag (eN a1))
        (k [.d (.sl .pop) (([]:List ai)++([(⟨(3:Int),([]:List BA),([]:List BA),(eN a1)⟩:ai)]:List ai))])
        none)
       (iter (fun st k=>ev (Sw N) f7k n (bC [1,1,1,1,1,0,1,0,0] Yj) st k) n (Ss (0:Int) (ae.kind a0) (ae.n a0) (ae.s a0) (ae.keys a0) (ae.kids a0) (ae.kind a1) (ae.n a1) (ae.s a1) (ae.keys a1) (ae.kids a1) ([]:List ai)) (abT N n (aI (Sw N) [.ro,.ro] [false] true [.tmp 4] [30] [.d .node a0,.d .node a1] k))))))))
  none)) (by kernel_rfl) ?_
  simp only[WN,WO]
theorem WQ(N:Nat)(a0:ae)(a1:ae)(hg:cY a0 a1=true)(hm:mu7 [.d .node a0,.d .node a1]=N):∃keep rounds,∀{R:Type}(k:Kt R),aG (Sw N) keep rounds Yj [.ro,.ro] [false] true [.tmp 4] [30] [.d .node a0,.d .node a1] k=k [.d (.sl .pop) (aM a0 a1)]:=by
 have hm:sL a0 a1=N:=hm
 subst hm
 have fP:=hg
 obtain⟨⟨sa,sb⟩,⟨wa,wb⟩,hz⟩:=fU.1 hg
 obtain⟨_,_,_,ake,aki⟩:=ch sa
 obtain⟨_,_,_,bke,bki⟩:=ch sb
 have nak:=aR aki
 have nbk:=aR bki
 have agj:=aR ake
 have agk:=aR bke
 have R6:(bT:Nat)=4294967296:=rfl
 have sJ:=np hg
 have hb:Nat.blt (KG a0 a1) (sL a0 a1)=true:=by rw[Nat.blt_eq];simp only[sL,KG];omega
 refine⟨f7k,(a0.kids.length+1),fun {R} k=> ?_⟩
 rw[abU]
 show _=k [.d (.sl .pop) (aM a0 a1)]
 rw[lh] at sJ ⊢
 simp only[aK,pQ,sa,sb,Bool.and_self,cond_true,List.nil_append]
 cases he:iM a0 a1
 rotate_left
 ·rfl
 rw[he] at sJ
 simp only[cond_false] at sJ ⊢
 have hL:∀(fin:Int→Bool→List ai→Option R),(aE a0&&aE a1)=false→((a0.kind==(4:Int))&&((a1.kind==(4:Int))&&((a0.kids.length:Int)==(a1.kids.length:Int))))=true→
   B3 (sL a0 a1) (a0.kids.length+1) fin a0.kind a0.n a0.s a0.keys a0.kids a1.kind a1.n a1.s a1.keys a1.kids (a0.kids.length+1) (0:Int) []=fin (a0.kids.length:Int) false (gn (fun i x=>bK (bw (i:Int)) (aM x (al (t:= .node) a1.kids i))) 0 a0.kids):=by
  intro fin KL h4
  rw[KL,h4] at sJ
  simp only[cond_true,cond_false] at sJ
  simp only[Bool.and_eq_true,beq_iff_eq] at h4
  refine Eq.trans (pF (xs:=a0.kids) (g:=fun i x=>bK (bw (i:Int)) (aM x (al (t:= .node) a1.kids i))) (F:=fun m j o=>B3 (sL a0 a1) (a0.kids.length+1) fin a0.kind a0.n a0.s a0.keys a0.kids a1.kind a1.n a1.s a1.keys a1.kids m (j:Int) o) (good:=fun o=>fin (a0.kids.length:Int) false o)
   (fun m j o x hx ho=> ?_) (fun m o=>by simp only[B3,iX,cond_false]) a0.kids.length 0 (a0.kids.length+1) [] (by omega) (by omega) (by rw[List.drop_zero,List.length_nil];omega)) (by rw[List.drop_zero,List.nil_append])
  obtain⟨h1,h0,hw,ht⟩:=idx (aP hx) (by omega)
  have hj:=aP hx
  have DZ:=List.mem_of_getElem? hx
  have hym:al (t:= .node) a1.kids j∈a1.kids:=List.mem_of_getElem? (dm (t:= .node) (by omega))
  have uU:decide ((j:Int)<(a1.kids.length:Int))=true:=decide_eq_true (by omega)
  have hoi:gj (j:Int)=true:=lG (by omega) (by omega)
  have zE:=pG fP DZ hym
  have Jx:Nat.blt (sL x (al (t:= .node) a1.kids j)) (sL a0 a1)=true:=by rw[Nat.blt_eq];have:=bN DZ;simp only[sL];omega
  have yF:=(sn (s:=bw (j:Int)) zE).2
  have pZ:Nat.ble (o.length+(bK (bw (j:Int)) (aM x (al (t:= .node) a1.kids j))).length) bT=true:=Nat.ble_eq_true_of_le ho
  simp only[B3,h1,h0,uU,hw,ht,hoi,bm (t:= .node) hx,aK,zE,Jx,yF,pZ,Bool.and_self,cond_true]
 cases ha:aE a0
 ·rw[ha] at hL
  cases a4:(a0.kind==(4:Int))<;>cases b4:(a1.kind==(4:Int))<;>cases kl:((a0.kids.length:Int)==(a1.kids.length:Int))<;>simp only[bne,a4,b4,kl] at hL ⊢ <;>first | rfl | exact hL _ rfl rfl
 ·have a4:(a0.kind==(4:Int))=false:=Df ha
  cases zu:aE a1
  ·simp only[bne,a4,cond_true,cond_false,Bool.not_false,Bool.and_false,Bool.false_and]
   rfl
  ·have hgm:xO a0 a1=true:=by unfold xO;rw[fP,ha,zu];rfl
   simp only[hgm,hb,Bool.and_self,cond_true]
   rfl
noncomputable def jz(y0:Int)(y1:Int)(y2:Int)(y3:Int)(y4:BA)(y5:List BA)(y6:List ae)(y7:Int)(y8:Int)(y9:BA)(iu:List BA)(ix:List ae)(kr:List ai):St:=⟨[(2,.c (.one (.pt 2 0))),(3,.c (.one (.pt 3 0))),(5,.c (.one (.h 512 0 0 []))),(6,.c (.one (.v (.int .i64 y0)))),(7,.c (.one (.v (.int .i64 y1))))],[(2,⟨.node,[.v (.int .i64 y2),.v (.int .i64 y3),.v (.string y4),.ro .str y5,.ro .node y6]⟩),(3,⟨.node,[.v (.int .i64 y7),.v (.int .i64 y8),.v (.string y9),.ro .str iu,.ro .node ix]⟩)],[(512,.live ⟨.pop,.deep,0,[],kr⟩)]⟩
noncomputable def Sx(y0:Int)(y1:Int)(y2:Bool)(y3:Int)(y4:Int)(y5:BA)(y6:List BA)(y7:List ae)(y8:Int)(y9:Int)(iu:BA)(ix:List BA)(kr:List ae)(o9:List ai):St:=⟨[(2,.c (.one (.pt 2 0))),(3,.c (.one (.pt 3 0))),(5,.c (.one (.h 512 0 0 []))),(6,.c (.one (.v (.int .i64 y0)))),(7,.c (.one (.v (.int .i64 y1)))),(20,.c (.one (.v (.bool y2))))],[(2,⟨.node,[.v (.int .i64 y3),.v (.int .i64 y4),.v (.string y5),.ro .str y6,.ro .node y7]⟩),(3,⟨.node,[.v (.int .i64 y8),.v (.int .i64 y9),.v (.string iu),.ro .str ix,.ro .node kr]⟩)],[(512,.live ⟨.pop,.deep,0,[],o9⟩)]⟩
noncomputable def GG:Code:=(Tryz.f26.body).getD .skip
def KC:Nat→Kp:=fa [⟨[2,3],[],[],[]⟩,⟨[2,3,5],[],[],[]⟩,⟨[2,3,5,6,7],[],[],[]⟩,⟨[2,3,5,6,7,20],[],[],[]⟩,⟨[2,3,5,6,7],[],[],[]⟩,⟨[2,3,5,6,7],[],[],[]⟩,⟨[2,3,5,6,7],[],[],[]⟩,⟨[2,3,5,6,7,44],[],[],[]⟩,⟨[2,3,5,6,7],[],[],[]⟩,⟨[2,3,5,6,7],[],[],[]⟩,⟨[2,3,5,6,7,82],[],[],[]⟩,⟨[2,3,5,6,7],[],[],[]⟩,⟨[2,3,5,6,7],[],[],[]⟩,⟨[4],[],[],[]⟩]
noncomputable def B4(N:Nat):Env:=bQ.env [(7,s7r N),(27,x3),(28,s28)]
noncomputable def fm{R:Type}(N:Nat)(n:Nat)(x0:Int→Int→Bool→(List ai)→Option R)(wJ:Int)(wK:Int)(wL:BA)(wD:List BA)(wE:List ae)(wG:Int)(wH:Int)(wI:BA)(wF:List BA)(wC:List ae):Nat→Int→Int→(List ai)→Option R
  |0,_,_,_=>none
  |m+1,wA,wB,wM=>
    (cond (decide (wA<(wD.length:Int)))
   (cond (decide (wB≥(wF.length:Int)))
    (cond ((decide ((0:Int)≤wA))&&(decide (wA<(wD.length:Int))))
     (cond (Nat.ble (wM.length+1) bT)
      (fm N n x0 wJ wK wL wD wE wG wH wI wF wC m (IntKind.wrap .i64 (wA+(1:Int))) wB (wM++([(⟨(2:Int),[(al (t:= .str) wD (Int.toNat wA))],([]:List BA),(⟨(0:Int),(0:Int),ByteArray.empty,([]:List BA),([]:List ae)⟩:ae)⟩:ai)]:List ai)))
      none)
     none)
    (cond (decide (wA<(wD.length:Int)))
     (cond ((decide ((0:Int)≤wA))&&(decide (wA<(wD.length:Int))))
      (cond ((decide ((0:Int)≤wB))&&(decide (wB<(wF.length:Int))))
       (cond (dE (al (t:= .str) wD (Int.toNat wA)) (al (t:= .str) wF (Int.toNat wB)))
        (cond ((decide ((0:Int)≤wA))&&(decide (wA<(wD.length:Int))))
         (cond (Nat.ble (wM.length+1) bT)
          (fm N n x0 wJ wK wL wD wE wG wH wI wF wC m (IntKind.wrap .i64 (wA+(1:Int))) wB (wM++([(⟨(2:Int),[(al (t:= .str) wD (Int.toNat wA))],([]:List BA),(⟨(0:Int),(0:Int),ByteArray.empty,([]:List BA),([]:List ae)⟩:ae)⟩:ai)]:List ai)))
          none)
         none)
        (cond (decide (wA≥(wD.length:Int)))
         (cond ((decide ((0:Int)≤wB))&&(decide (wB<(wF.length:Int))))
          (cond ((decide ((0:Int)≤wB))&&(decide (wB<(wC.length:Int))))
           (cond (ag (eN (al (t:= .node) wC (Int.toNat wB))))
            (cond (Nat.ble (wM.length+1) bT)
             (fm N n x0 wJ wK wL wD wE wG wH wI wF wC m wA (IntKind.wrap .i64 (wB+(1:Int))) (wM++([(⟨(1:Int),[(al (t:= .str) wF (Int.toNat wB))],([]:List BA),(eN (al (t:= .node) wC (Int.toNat wB)))⟩:ai)]:List ai)))
             none)
            none)
           none)
          none)
         (cond ((decide ((0:Int)≤wB))&&(decide (wB<(wF.length:Int))))
          (cond ((decide ((0:Int)≤wA))&&(decide (wA<(wD.length:Int))))
           (cond (dE (al (t:= .str) wF (Int.toNat wB)) (al (t:= .str) wD (Int.toNat wA)))
            (cond ((decide ((0:Int)≤wB))&&(decide (wB<(wF.length:Int))))
             (cond ((decide ((0:Int)≤wB))&&(decide (wB<(wC.length:Int))))
              (cond (ag (eN (al (t:= .node) wC (Int.toNat wB))))
               (cond (Nat.ble (wM.length+1) bT)
                (fm N n x0 wJ wK wL wD wE wG wH wI wF wC m wA (IntKind.wrap .i64 (wB+(1:Int))) (wM++([(⟨(1:Int),[(al (t:= .str) wF (Int.toNat wB))],([]:List BA),(eN (al (t:= .node) wC (Int.toNat wB)))⟩:ai)]:List ai)))
                none)
               none)
              none)
             none)
            (cond ((decide ((0:Int)≤wA))&&(decide (wA<(wD.length:Int))))
             (cond ((decide ((0:Int)≤wA))&&(decide (wA<(wE.length:Int))))
              (cond ((decide ((0:Int)≤wB))&&(decide (wB<(wC.length:Int))))
               (cond ((cY (eN (al (t:= .node) wE (Int.toNat wA))) (eN (al (t:= .node) wC (Int.toNat wB))))&&(Nat.blt (sL (eN (al (t:= .node) wE (Int.toNat wA))) (eN (al (t:= .node) wC (Int.toNat wB)))) N))
                (cond (qL (al (t:= .str) wD (Int.toNat wA)) (aM (eN (al (t:= .node) wE (Int.toNat wA))) (eN (al (t:= .node) wC (Int.toNat wB)))))
                 (cond (Nat.ble (wM.length+(bK (al (t:= .str) wD (Int.toNat wA)) (aM (eN (al (t:= .node) wE (Int.toNat wA))) (eN (al (t:= .node) wC (Int.toNat wB))))).length) bT)
                  (fm N n x0 wJ wK wL wD wE wG wH wI wF wC m (IntKind.wrap .i64 (wA+(1:Int))) (IntKind.wrap .i64 (wB+(1:Int))) (wM++(bK (al (t:= .str) wD (Int.toNat wA)) (aM (eN (al (t:= .node) wE (Int.toNat wA))) (eN (al (t:= .node) wC (Int.toNat wB)))))))
                  none)
                 none)
                none)
               none)
              none)
             none))
           none)
          none)))
       none)
      none)
     (cond (decide (wA≥(wD.length:Int)))
      (cond ((decide ((0:Int)≤wB))&&(decide (wB<(wF.length:Int))))
       (cond ((decide ((0:Int)≤wB))&&(decide (wB<(wC.length:Int))))
        (cond (ag (eN (al (t:= .node) wC (Int.toNat wB))))
         (cond (Nat.ble (wM.length+1) bT)
          (fm N n x0 wJ wK wL wD wE wG wH wI wF wC m wA (IntKind.wrap .i64 (wB+(1:Int))) (wM++([(⟨(1:Int),[(al (t:= .str) wF (Int.toNat wB))],([]:List BA),(eN (al (t:= .node) wC (Int.toNat wB)))⟩:ai)]:List ai)))
          none)
         none)
        none)
       none)
      (cond ((decide ((0:Int)≤wB))&&(decide (wB<(wF.length:Int))))
       (cond ((decide ((0:Int)≤wA))&&(decide (wA<(wD.length:Int))))
        (cond (dE (al (t:= .str) wF (Int.toNat wB)) (al (t:= .str) wD (Int.toNat wA)))
         (cond ((decide ((0:Int)≤wB))&&(decide (wB<(wF.length:Int))))
          (cond ((decide ((0:Int)≤wB))&&(decide (wB<(wC.length:Int))))
           (cond (ag (eN (al (t:= .node) wC (Int.toNat wB))))
            (cond (Nat.ble (wM.length+1) bT)
             (fm N n x0 wJ wK wL wD wE wG wH wI wF wC m wA (IntKind.wrap .i64 (wB+(1:Int))) (wM++([(⟨(1:Int),[(al (t:= .str) wF (Int.toNat wB))],([]:List BA),(eN (al (t:= .node) wC (Int.toNat wB)))⟩:ai)]:List ai)))
             none)
            none)
           none)
          none)
         (cond ((decide ((0:Int)≤wA))&&(decide (wA<(wD.length:Int))))
          (cond ((decide ((0:Int)≤wA))&&(decide (wA<(wE.length:Int))))
           (cond ((decide ((0:Int)≤wB))&&(decide (wB<(wC.length:Int))))
            (cond ((cY (eN (al (t:= .node) wE (Int.toNat wA))) (eN (al (t:= .node) wC (Int.toNat wB))))&&(Nat.blt (sL (eN (al (t:= .node) wE (Int.toNat wA))) (eN (al (t:= .node) wC (Int.toNat wB)))) N))
             (cond (qL (al (t:= .str) wD (Int.toNat wA)) (aM (eN (al (t:= .node) wE (Int.toNat wA))) (eN (al (t:= .node) wC (Int.toNat wB)))))
              (cond (Nat.ble (wM.length+(bK (al (t:= .str) wD (Int.toNat wA)) (aM (eN (al (t:= .node) wE (Int.toNat wA))) (eN (al (t:= .node) wC (Int.toNat wB))))).length) bT)
               (fm N n x0 wJ wK wL wD wE wG wH wI wF wC m (IntKind.wrap .i64 (wA+(1:Int))) (IntKind.wrap .i64 (wB+(1:Int))) (wM++(bK (al (t:= .str) wD (Int.toNat wA)) (aM (eN (al (t:= .node) wE (Int.toNat wA))) (eN (al (t:= .node) wC (Int.toNat wB)))))))
               none)
              none)
             none)
            none)
           none)
          none))
        none)
       none))))
   (cond (decide (wB<(wF.length:Int)))
    (cond (decide (wB≥(wF.length:Int)))
     (cond ((decide ((0:Int)≤wA))&&(decide (wA<(wD.length:Int))))
      (cond (Nat.ble (wM.length+1) bT)
       (fm N n x0 wJ wK wL wD wE wG wH wI wF wC m (IntKind.wrap .i64 (wA+(1:Int))) wB (wM++([(⟨(2:Int),[(al (t:= .str) wD (Int.toNat wA))],([]:List BA),(⟨(0:Int),(0:Int),ByteArray.empty,([]:List BA),([]:List ae)⟩:ae)⟩:ai)]:List ai)))
       none)
      none)
     (cond (decide (wA<(wD.length:Int)))
      (cond ((decide ((0:Int)≤wA))&&(decide (wA<(wD.length:Int))))
       (cond ((decide ((0:Int)≤wB))&&(decide (wB<(wF.length:Int))))
        (cond (dE (al (t:= .str) wD (Int.toNat wA)) (al (t:= .str) wF (Int.toNat wB)))
         (cond ((decide ((0:Int)≤wA))&&(decide (wA<(wD.length:Int))))
          (cond (Nat.ble (wM.length+1) bT)
           (fm N n x0 wJ wK wL wD wE wG wH wI wF wC m (IntKind.wrap .i64 (wA+(1:Int))) wB (wM++([(⟨(2:Int),[(al (t:= .str) wD (Int.toNat wA))],([]:List BA),(⟨(0:Int),(0:Int),ByteArray.empty,([]:List BA),([]:List ae)⟩:ae)⟩:ai)]:List ai)))
           none)
          none)
         (cond (decide (wA≥(wD.length:Int)))
          (cond ((decide ((0:Int)≤wB))&&(decide (wB<(wF.length:Int))))
           (cond ((decide ((0:Int)≤wB))&&(decide (wB<(wC.length:Int))))
            (cond (ag (eN (al (t:= .node) wC (Int.toNat wB))))
             (cond (Nat.ble (wM.length+1) bT)
              (fm N n x0 wJ wK wL wD wE wG wH wI wF wC m wA (IntKind.wrap .i64 (wB+(1:Int))) (wM++([(⟨(1:Int),[(al (t:= .str) wF (Int.toNat wB))],([]:List BA),(eN (al (t:= .node) wC (Int.toNat wB)))⟩:ai)]:List ai)))
              none)
             none)
            none)
           none)
          (cond ((decide ((0:Int)≤wB))&&(decide (wB<(wF.length:Int))))
           (cond ((decide ((0:Int)≤wA))&&(decide (wA<(wD.length:Int))))
            (cond (dE (al (t:= .str) wF (Int.toNat wB)) (al (t:= .str) wD (Int.toNat wA)))
             (cond ((decide ((0:Int)≤wB))&&(decide (wB<(wF.length:Int))))
              (cond ((decide ((0:Int)≤wB))&&(decide (wB<(wC.length:Int))))
               (cond (ag (eN (al (t:= .node) wC (Int.toNat wB))))
                (cond (Nat.ble (wM.length+1) bT)
                 (fm N n x0 wJ wK wL wD wE wG wH wI wF wC m wA (IntKind.wrap .i64 (wB+(1:Int))) (wM++([(⟨(1:Int),[(al (t:= .str) wF (Int.toNat wB))],([]:List BA),(eN (al (t:= .node) wC (Int.toNat wB)))⟩:ai)]:List ai)))
                 none)
                none)
               none)
              none)
             (cond ((decide ((0:Int)≤wA))&&(decide (wA<(wD.length:Int))))
              (cond ((decide ((0:Int)≤wA))&&(decide (wA<(wE.length:Int))))
               (cond ((decide ((0:Int)≤wB))&&(decide (wB<(wC.length:Int))))
                (cond ((cY (eN (al (t:= .node) wE (Int.toNat wA))) (eN (al (t:= .node) wC (Int.toNat wB))))&&(Nat.blt (sL (eN (al (t:= .node) wE (Int.toNat wA))) (eN (al (t:= .node) wC (Int.toNat wB)))) N))
                 (cond (qL (al (t:= .str) wD (Int.toNat wA)) (aM (eN (al (t:= .node) wE (Int.toNat wA))) (eN (al (t:= .node) wC (Int.toNat wB)))))
                  (cond (Nat.ble (wM.length+(bK (al (t:= .str) wD (Int.toNat wA)) (aM (eN (al (t:= .node) wE (Int.toNat wA))) (eN (al (t:= .node) wC (Int.toNat wB))))).length) bT)
                   (fm N n x0 wJ wK wL wD wE wG wH wI wF wC m (IntKind.wrap .i64 (wA+(1:Int))) (IntKind.wrap .i64 (wB+(1:Int))) (wM++(bK (al (t:= .str) wD (Int.toNat wA)) (aM (eN (al (t:= .node) wE (Int.toNat wA))) (eN (al (t:= .node) wC (Int.toNat wB)))))))
                   none)
                  none)
                 none)
                none)
               none)
              none))
            none)
           none)))
        none)
       none)
      (cond (decide (wA≥(wD.length:Int)))
       (cond ((decide ((0:Int)≤wB))&&(decide (wB<(wF.length:Int))))
        (cond ((decide ((0:Int)≤wB))&&(decide (wB<(wC.length:Int))))
         (cond (ag (eN (al (t:= .node) wC (Int.toNat wB))))
          (cond (Nat.ble (wM.length+1) bT)
           (fm N n x0 wJ wK wL wD wE wG wH wI wF wC m wA (IntKind.wrap .i64 (wB+(1:Int))) (wM++([(⟨(1:Int),[(al (t:= .str) wF (Int.toNat wB))],([]:List BA),(eN (al (t:= .node) wC (Int.toNat wB)))⟩:ai)]:List ai)))
           none)
          none)
         none)
        none)
       (cond ((decide ((0:Int)≤wB))&&(decide (wB<(wF.length:Int))))
        (cond ((decide ((0:Int)≤wA))&&(decide (wA<(wD.length:Int))))
         (cond (dE (al (t:= .str) wF (Int.toNat wB)) (al (t:= .str) wD (Int.toNat wA)))
          (cond ((decide ((0:Int)≤wB))&&(decide (wB<(wF.length:Int))))
           (cond ((decide ((0:Int)≤wB))&&(decide (wB<(wC.length:Int))))
            (cond (ag (eN (al (t:= .node) wC (Int.toNat wB))))
             (cond (Nat.ble (wM.length+1) bT)
              (fm N n x0 wJ wK wL wD wE wG wH wI wF wC m wA (IntKind.wrap .i64 (wB+(1:Int))) (wM++([(⟨(1:Int),[(al (t:= .str) wF (Int.toNat wB))],([]:List BA),(eN (al (t:= .node) wC (Int.toNat wB)))⟩:ai)]:List ai)))
              none)
             none)
            none)
           none)
          (cond ((decide ((0:Int)≤wA))&&(decide (wA<(wD.length:Int))))
           (cond ((decide ((0:Int)≤wA))&&(decide (wA<(wE.length:Int))))
            (cond ((decide ((0:Int)≤wB))&&(decide (wB<(wC.length:Int))))
             (cond ((cY (eN (al (t:= .node) wE (Int.toNat wA))) (eN (al (t:= .node) wC (Int.toNat wB))))&&(Nat.blt (sL (eN (al (t:= .node) wE (Int.toNat wA))) (eN (al (t:= .node) wC (Int.toNat wB)))) N))
              (cond (qL (al (t:= .str) wD (Int.toNat wA)) (aM (eN (al (t:= .node) wE (Int.toNat wA))) (eN (al (t:= .node) wC (Int.toNat wB)))))
               (cond (Nat.ble (wM.length+(bK (al (t:= .str) wD (Int.toNat wA)) (aM (eN (al (t:= .node) wE (Int.toNat wA))) (eN (al (t:= .node) wC (Int.toNat wB))))).length) bT)
                (fm N n x0 wJ wK wL wD wE wG wH wI wF wC m (IntKind.wrap .i64 (wA+(1:Int))) (IntKind.wrap .i64 (wB+(1:Int))) (wM++(bK (al (t:= .str) wD (Int.toNat wA)) (aM (eN (al (t:= .node) wE (Int.toNat wA))) (eN (al (t:= .node) wC (Int.toNat wB)))))))
                none)
               none)
              none)
             none)
            none)
           none))
         none)
        none))))
    (x0 wA wB (decide (wB<(wF.length:Int))) wM)))
theorem WR{R:Type}(N:Nat)(n:Nat)(k':Kx R)(wA:Int)(wB:Int)(wJ:Int)(wK:Int)(wL:BA)(wD:List BA)(wE:List ae)(wG:Int)(wH:Int)(wI:BA)(wF:List BA)(wC:List ae)(wM:List ai):ev (B4 N) KC n (bC [1,1,1,0,0,0] GG) (jz wA wB wJ wK wL wD wE wG wH wI wF wC wM) k'=
 (cond (decide (wA<(wD.length:Int)))
 (cond (decide (wB≥(wF.length:Int)))
 (cond ((decide ((0:Int)≤wA))&&(decide (wA<(wD.length:Int))))
 (cond (Nat.ble (wM.length+1) bT)
 (k' .normal (jz (IntKind.wrap .i64 (wA+(1:Int))) wB wJ wK wL wD wE wG wH wI wF wC (wM++([(⟨(2:Int),[(al (t:= .str) wD (Int.toNat wA))],([]:List BA),(⟨(0:Int),(0:Int),ByteArray.empty,([]:List BA),([]:List ae)⟩:ae)⟩:ai)]:List ai))))
 none)
 none)
 (cond (decide (wA<(wD.length:Int)))
 (cond ((decide ((0:Int)≤wA))&&(decide (wA<(wD.length:Int))))
 (cond ((decide ((0:Int)≤wB))&&(decide (wB<(wF.length:Int))))
 (cond (dE (al (t:= .str) wD (Int.toNat wA)) (al (t:= .str) wF (Int.toNat wB)))
 (cond ((decide ((0:Int)≤wA))&&(decide (wA<(wD.length:Int))))
 (cond (Nat.ble (wM.length+1) bT)
 (k' .normal (jz (IntKind.wrap .i64 (wA+(1:Int))) wB wJ wK wL wD wE wG wH wI wF wC (wM++([(⟨(2:Int),[(al (t:= .str) wD (Int.toNat wA))],([]:List BA),(⟨(0:Int),(0:Int),ByteArray.empty,([]:List BA),([]:List ae)⟩:ae)⟩:ai)]:List ai))))
 none)
 none)
 (cond (decide (wA≥(wD.length:Int)))
 (cond ((decide ((0:Int)≤wB))&&(decide (wB<(wF.length:Int))))
 (cond ((decide ((0:Int)≤wB))&&(decide (wB<(wC.length:Int))))
 (cond (ag (eN (al (t:= .node) wC (Int.toNat wB))))
 (cond (Nat.ble (wM.length+1) bT)
 (k' .normal (jz wA (IntKind.wrap .i64 (wB+(1:Int))) wJ wK wL wD wE wG wH wI wF wC (wM++([(⟨(1:Int),[(al (t:= .str) wF (Int.toNat wB))],([]:List BA),(eN (al (t:= .node) wC (Int.toNat wB)))⟩:ai)]:List ai))))
 none)
 none)
 none)
 none)
 (cond ((decide ((0:Int)≤wB))&&(decide (wB<(wF.length:Int))))
 (cond ((decide ((0:Int)≤wA))&&(decide (wA<(wD.length:Int))))
 (cond (dE (al (t:= .str) wF (Int.toNat wB)) (al (t:= .str) wD (Int.toNat wA)))
 (cond ((decide ((0:Int)≤wB))&&(decide (wB<(wF.length:Int))))
 (cond ((decide ((0:Int)≤wB))&&(decide (wB<(wC.length:Int))))
 (cond (ag (eN (al (t:= .node) wC (Int.toNat wB))))
 (cond (Nat.ble (wM.length+1) bT)
 (k' .normal (jz wA (IntKind.wrap .i64 (wB+(1:Int))) wJ wK wL wD wE wG wH wI wF wC (wM++([(⟨(1:Int),[(al (t:= .str) wF (Int.toNat wB))],([]:List BA),(eN (al (t:= .node) wC (Int.toNat wB)))⟩:ai)]:List ai))))
 none)
 none)
 none)
 none)
 (cond ((decide ((0:Int)≤wA))&&(decide (wA<(wD.length:Int))))
 (cond ((decide ((0:Int)≤wA))&&(decide (wA<(wE.length:Int))))
 (cond ((decide ((0:Int)≤wB))&&(decide (wB<(wC.length:Int))))
 (cond ((cY (eN (al (t:= .node) wE (Int.toNat wA))) (eN (al (t:= .node) wC (Int.toNat wB))))&&(Nat.blt (sL (eN (al (t:= .node) wE (Int.toNat wA))) (eN (al (t:= .node) wC (Int.toNat wB)))) N))
 (cond (qL (al (t:= .str) wD (Int.toNat wA)) (aM (eN (al (t:= .node) wE (Int.toNat wA))) (eN (al (t:= .node) wC (Int.toNat wB)))))
 (cond (Nat.ble (wM.length+(bK (al (t:= .str) wD (Int.toNat wA)) (aM (eN (al (t:= .node) wE (Int.toNat wA))) (eN (al (t:= .node) wC (Int.toNat wB))))).length) bT)
 (k' .normal (jz (IntKind.wrap .i64 (wA+(1:Int))) (IntKind.wrap .i64 (wB+(1:Int))) wJ wK wL wD wE wG wH wI wF wC (wM++(bK (al (t:= .str) wD (Int.toNat wA)) (aM (eN (al (t:= .node) wE (Int.toNat wA))) (eN (al (t:= .node) wC (Int.toNat wB))))))))
 none)
 none)
 none)
 none)
 none)
 none))
 none)
 none)))
 none)
 none)
 (cond (decide (wA≥(wD.length:Int)))
 (cond ((decide ((0:Int)≤wB))&&(decide (wB<(wF.length:Int))))
 (cond ((decide ((0:Int)≤wB))&&(decide (wB<(wC.length:Int))))
 (cond (ag (eN (al (t:= .node) wC (Int.toNat wB))))
 (cond (Nat.ble (wM.length+1) bT)
 (k' .normal (jz wA (IntKind.wrap .i64 (wB+(1:Int))) wJ wK wL wD wE wG wH wI wF wC (wM++([(⟨(1:Int),[(al (t:= .str) wF (Int.toNat wB))],([]:List BA),(eN (al (t:= .node) wC (Int.toNat wB)))⟩:ai)]:List ai))))
 none)
 none)
 none)
 none)
 (cond ((decide ((0:Int)≤wB))&&(decide (wB<(wF.length:Int))))
 (cond ((decide ((0:Int)≤wA))&&(decide (wA<(wD.length:Int))))
 (cond (dE (al (t:= .str) wF (Int.toNat wB)) (al (t:= .str) wD (Int.toNat wA)))
 (cond ((decide ((0:Int)≤wB))&&(decide (wB<(wF.length:Int))))
 (cond ((decide ((0:Int)≤wB))&&(decide (wB<(wC.length:Int))))
 (cond (ag (eN (al (t:= .node) wC (Int.toNat wB))))
 (cond (Nat.ble (wM.length+1) bT)
 (k' .normal (jz wA (IntKind.wrap .i64 (wB+(1:Int))) wJ wK wL wD wE wG wH wI wF wC (wM++([(⟨(1:Int),[(al (t:= .str) wF (Int.toNat wB))],([]:List BA),(eN (al (t:= .node) wC (Int.toNat wB)))⟩:ai)]:List ai))))
 none)
 none)
 none)
 none)
 (cond ((decide ((0:Int)≤wA))&&(decide (wA<(wD.length:Int))))
 (cond ((decide ((0:Int)≤wA))&&(decide (wA<(wE.length:Int))))
 (cond ((decide ((0:Int)≤wB))&&(decide (wB<(wC.length:Int))))
 (cond ((cY (eN (al (t:= .node) wE (Int.toNat wA))) (eN (al (t:= .node) wC (Int.toNat wB))))&&(Nat.blt (sL (eN (al (t:= .node) wE (Int.toNat wA))) (eN (al (t:= .node) wC (Int.toNat wB)))) N))
 (cond (qL (al (t:= .str) wD (Int.toNat wA)) (aM (eN (al (t:= .node) wE (Int.toNat wA))) (eN (al (t:= .node) wC (Int.toNat wB)))))
 (cond (Nat.ble (wM.length+(bK (al (t:= .str) wD (Int.toNat wA)) (aM (eN (al (t:= .node) wE (Int.toNat wA))) (eN (al (t:= .node) wC (Int.toNat wB))))).length) bT)
 (k' .normal (jz (IntKind.wrap .i64 (wA+(1:Int))) (IntKind.wrap .i64 (wB+(1:Int))) wJ wK wL wD wE wG wH wI wF wC (wM++(bK (al (t:= .str) wD (Int.toNat wA)) (aM (eN (al (t:= .node) wE (Int.toNat wA))) (eN (al (t:= .node) wC (Int.toNat wB))))))))
 none)
 none)
 none)
 none)
 none)
 none))
 none)
 none))))
 (cond (decide (wB<(wF.length:Int)))
 (cond (decide (wB≥(wF.length:Int)))
 (cond ((decide ((0:Int)≤wA))&&(decide (wA<(wD.length:Int))))
 (cond (Nat.ble (wM.length+1) bT)
 (k' .normal (jz (IntKind.wrap .i64 (wA+(1:Int))) wB wJ wK wL wD wE wG wH wI wF wC (wM++([(⟨(2:Int),[(al (t:= .str) wD (Int.toNat wA))],([]:List BA),(⟨(0:Int),(0:Int),ByteArray.empty,([]:List BA),([]:List ae)⟩:ae)⟩:ai)]:List ai))))
 none)
 none)
 (cond (decide (wA<(wD.length:Int)))
 (cond ((decide ((0:Int)≤wA))&&(decide (wA<(wD.length:Int))))
 (cond ((decide ((0:Int)≤wB))&&(decide (wB<(wF.length:Int))))
 (cond (dE (al (t:= .str) wD (Int.toNat wA)) (al (t:= .str) wF (Int.toNat wB)))
 (cond ((decide ((0:Int)≤wA))&&(decide (wA<(wD.length:Int))))
 (cond (Nat.ble (wM.length+1) bT)
 (k' .normal (jz (IntKind.wrap .i64 (wA+(1:Int))) wB wJ wK wL wD wE wG wH wI wF wC (wM++([(⟨(2:Int),[(al (t:= .str) wD (Int.toNat wA))],([]:List BA),(⟨(0:Int),(0:Int),ByteArray.empty,([]:List BA),([]:List ae)⟩:ae)⟩:ai)]:List ai))))
 none)
 none)
 (cond (decide (wA≥(wD.length:Int)))
 (cond ((decide ((0:Int)≤wB))&&(decide (wB<(wF.length:Int))))
 (cond ((decide ((0:Int)≤wB))&&(decide (wB<(wC.length:Int))))
 (cond (ag (eN (al (t:= .node) wC (Int.toNat wB))))
 (cond (Nat.ble (wM.length+1) bT)
 (k' .normal (jz wA (IntKind.wrap .i64 (wB+(1:Int))) wJ wK wL wD wE wG wH wI wF wC (wM++([(⟨(1:Int),[(al (t:= .str) wF (Int.toNat wB))],([]:List BA),(eN (al (t:= .node) wC (Int.toNat wB)))⟩:ai)]:List ai))))
 none)
 none)
 none)
 none)
 (cond ((decide ((0:Int)≤wB))&&(decide (wB<(wF.length:Int))))
 (cond ((decide ((0:Int)≤wA))&&(decide (wA<(wD.length:Int))))
 (cond (dE (al (t:= .str) wF (Int.toNat wB)) (al (t:= .str) wD (Int.toNat wA)))
 (cond ((decide ((0:Int)≤wB))&&(decide (wB<(wF.length:Int))))
 (cond ((decide ((0:Int)≤wB))&&(decide (wB<(wC.length:Int))))
 (cond (ag (eN (al (t:= .node) wC (Int.toNat wB))))
 (cond (Nat.ble (wM.length+1) bT)
 (k' .normal (jz wA (IntKind.wrap .i64 (wB+(1:Int))) wJ wK wL wD wE wG wH wI wF wC (wM++([(⟨(1:Int),[(al (t:= .str) wF (Int.toNat wB))],([]:List BA),(eN (al (t:= .node) wC (Int.toNat wB)))⟩:ai)]:List ai))))
 none)
 none)
 none)
 none)
 (cond ((decide ((0:Int)≤wA))&&(decide (wA<(wD.length:Int))))
 (cond ((decide ((0:Int)≤wA))&&(decide (wA<(wE.length:Int))))
 (cond ((decide ((0:Int)≤wB))&&(decide (wB<(wC.length:Int))))
 (cond ((cY (eN (al (t:= .node) wE (Int.toNat wA))) (eN (al (t:= .node) wC (Int.toNat wB))))&&(Nat.blt (sL (eN (al (t:= .node) wE (Int.toNat wA))) (eN (al (t:= .node) wC (Int.toNat wB)))) N))
 (cond (qL (al (t:= .str) wD (Int.toNat wA)) (aM (eN (al (t:= .node) wE (Int.toNat wA))) (eN (al (t:= .node) wC (Int.toNat wB)))))
 (cond (Nat.ble (wM.length+(bK (al (t:= .str) wD (Int.toNat wA)) (aM (eN (al (t:= .node) wE (Int.toNat wA))) (eN (al (t:= .node) wC (Int.toNat wB))))).length) bT)
 (k' .normal (jz (IntKind.wrap .i64 (wA+(1:Int))) (IntKind.wrap .i64 (wB+(1:Int))) wJ wK wL wD wE wG wH wI wF wC (wM++(bK (al (t:= .str) wD (Int.toNat wA)) (aM (eN (al (t:= .node) wE (Int.toNat wA))) (eN (al (t:= .node) wC (Int.toNat wB))))))))
 none)
 none)
 none)
 none)
 none)
 none))
 none)
 none)))
 none)
 none)
 (cond (decide (wA≥(wD.length:Int)))
 (cond ((decide ((0:Int)≤wB))&&(decide (wB<(wF.length:Int))))
 (cond ((decide ((0:Int)≤wB))&&(decide (wB<(wC.length:Int))))
 (cond (ag (eN (al (t:= .node) wC (Int.toNat wB))))
 (cond (Nat.ble (wM.length+1) bT)
 (k' .normal (jz wA (IntKind.wrap .i64 (wB+(1:Int))) wJ wK wL wD wE wG wH wI wF wC (wM++([(⟨(1:Int),[(al (t:= .str) wF (Int.toNat wB))],([]:List BA),(eN (al (t:= .node) wC (Int.toNat wB)))⟩:ai)]:List ai))))
 none)
 none)
 none)
 none)
 (cond ((decide ((0:Int)≤wB))&&(decide (wB<(wF.length:Int))))
 (cond ((decide ((0:Int)≤wA))&&(decide (wA<(wD.length:Int))))
 (cond (dE (al (t:= .str) wF (Int.toNat wB)) (al (t:= .str) wD (Int.toNat wA)))
 (cond ((decide ((0:Int)≤wB))&&(decide (wB<(wF.length:Int))))
 (cond ((decide ((0:Int)≤wB))&&(decide (wB<(wC.length:Int))))
 (cond (ag (eN (al (t:= .node) wC (Int.toNat wB))))
 (cond (Nat.ble (wM.length+1) bT)
 (k' .normal (jz wA (IntKind.wrap .i64 (wB+(1:Int))) wJ wK wL wD wE wG wH wI wF wC (wM++([(⟨(1:Int),[(al (t:= .str) wF (Int.toNat wB))],([]:List BA),(eN (al (t:= .node) wC (Int.toNat wB)))⟩:ai)]:List ai))))
 none)
 none)
 none)
 none)
 (cond ((decide ((0:Int)≤wA))&&(decide (wA<(wD.length:Int))))
 (cond ((decide ((0:Int)≤wA))&&(decide (wA<(wE.length:Int))))
 (cond ((decide ((0:Int)≤wB))&&(decide (wB<(wC.length:Int))))
 (cond ((cY (eN (al (t:= .node) wE (Int.toNat wA))) (eN (al (t:= .node) wC (Int.toNat wB))))&&(Nat.blt (sL (eN (al (t:= .node) wE (Int.toNat wA))) (eN (al (t:= .node) wC (Int.toNat wB)))) N))
 (cond (qL (al (t:= .str) wD (Int.toNat wA)) (aM (eN (al (t:= .node) wE (Int.toNat wA))) (eN (al (t:= .node) wC (Int.toNat wB)))))
 (cond (Nat.ble (wM.length+(bK (al (t:= .str) wD (Int.toNat wA)) (aM (eN (al (t:= .node) wE (Int.toNat wA))) (eN (al (t:= .node) wC (Int.toNat wB))))).length) bT)
 (k' .normal (jz (IntKind.wrap .i64 (wA+(1:Int))) (IntKind.wrap .i64 (wB+(1:Int))) wJ wK wL wD wE wG wH wI wF wC (wM++(bK (al (t:= .str) wD (Int.toNat wA)) (aM (eN (al (t:= .node) wE (Int.toNat wA))) (eN (al (t:= .node) wC (Int.toNat wB))))))))
 none)
 none)
 none)
 none)
 none)
 none))
 none)
 none))))
 (k' (.exit 0) (Sx wA wB (decide (wB<(wF.length:Int))) wJ wK wL wD wE wG wH wI wF wC wM)))):=by kernel_rfl
theorem Sy{R:Type}(N:Nat)(n:Nat)(k':Kx R)(wJ:Int)(wK:Int)(wL:BA)(wD:List BA)(wE:List ae)(wG:Int)(wH:Int)(wI:BA)(wF:List BA)(wC:List ae):∀(m:Nat)(wA:Int)(wB:Int)(wM:List ai),iter (fun st k=>ev (B4 N) KC n (bC [1,1,1,0,0,0] GG) st k) m (jz wA wB wJ wK wL wD wE wG wH wI wF wC wM) k'=fm N n (fun(wV:Int)(uD:Int)(uE:Bool)(wZ:List ai)=>k' (.exit 0) (Sx wV uD uE wJ wK wL wD wE wG wH wI wF wC wZ)) wJ wK wL wD wE wG wH wI wF wC m wA wB wM:=by
 intro m;induction m with
 |zero=>intros;rfl
 |succ m ih=>
  intro wA wB wM
  simp only[iter]
  rw[WR]
  simp only[ih,fm]
noncomputable def Yk{R:Type}(N:Nat)(n:Nat)(k':Kx R):Kx R:=(b8 0 (eP (B4 N) KC n (bC [1,1,1,1] GG) k'))
theorem Sz{R:Type}(N:Nat)(n:Nat)(k:Kt R)(a0:ae)(a1:ae)(wJ:Int)(wK:Int)(wL:BA)(wD:List BA)(wE:List ae)(wG:Int)(wH:Int)(wI:BA)(wF:List BA)(wC:List ae)(wV:Int)(uD:Int)(uE:Bool)(wZ:List ai):Yk N n (aI (B4 N) [.ro,.ro] [false] true [.tmp 4] [30] [.d .node a0,.d .node a1] k) (.exit 0) (Sx wV uD uE wJ wK wL wD wE wG wH wI wF wC wZ)=
 (k [.d (.sl .pop) wZ]):=by kernel_rfl
theorem WS{R:Type}(N:Nat)(n:Nat)(k:Kt R)(a0:ae)(a1:ae):aG (B4 N) KC n GG [.ro,.ro] [false] true [.tmp 4] [30] [.d .node a0,.d .node a1] k=
 (fm N n (fun(wV:Int)(uD:Int)(uE:Bool)(wZ:List ai)=>
 (k [.d (.sl .pop) wZ])) (ae.kind a0) (ae.n a0) (ae.s a0) (ae.keys a0) (ae.kids a0) (ae.kind a1) (ae.n a1) (ae.s a1) (ae.keys a1) (ae.kids a1) n (0:Int) (0:Int) ([]:List ai)):=by
 refine Eq.trans (b:=(iter (fun st k=>ev (B4 N) KC n (bC [1,1,1,0,0,0] GG) st k) n (jz (0:Int) (0:Int) (ae.kind a0) (ae.n a0) (ae.s a0) (ae.keys a0) (ae.kids a0) (ae.kind a1) (ae.n a1) (ae.s a1) (ae.keys a1) (ae.kids a1) ([]:List ai)) (Yk N n (aI (B4 N) [.ro,.ro] [false] true [.tmp 4] [30] [.d .node a0,.d .node a1] k)))) (by kernel_rfl) ?_
 simp only[Sy,Sz]
theorem SA(N:Nat)(a0:ae)(a1:ae)(hg:xO a0 a1=true)(hm:Sr [.d .node a0,.d .node a1]=N):∃keep rounds,∀{R:Type}(k:Kt R),aG (B4 N) keep rounds GG [.ro,.ro] [false] true [.tmp 4] [30] [.d .node a0,.d .node a1] k=k [.d (.sl .pop) (HN a0 a1)]:=by
 have hm:KG a0 a1=N:=hm
 subst hm
 have KM:=hg
 simp only[xO,Bool.and_eq_true] at KM
 obtain⟨hg,hma,hmb⟩:=KM
 have fP:=hg
 obtain⟨⟨sa,sb⟩,⟨wa,wb⟩,hz⟩:=fU.1 hg
 obtain⟨_,_,_,ake,aki⟩:=ch sa
 obtain⟨_,_,_,bke,bki⟩:=ch sb
 have nak:=aR aki
 have nbk:=aR bki
 have agj:=aR ake
 have agk:=aR bke
 have R6:(bT:Nat)=4294967296:=rfl
 have sJ:=np hg
 obtain⟨_,la⟩:=cd hma
 obtain⟨_,lb⟩:=cd hmb
 have hlen:(bF aM (dZ a0) (dZ a1)).length≤bT:=by
  have h1:=iG (f:=aM) (dZ a0) (dZ a1) fun k _ l _=>tq k.2 l.2
  have h2:=se a0.keys a0.kids
  have h3:=se a1.keys a1.kids
  have h4:=rT a0
  have h5:=rT a1
  rw[bV] at h4 h5
  unfold dZ at h1 ⊢
  omega
 refine⟨KC,(a0.keys.length+a1.keys.length+1),fun {R} k=> ?_⟩
 rw[WS]
 refine Eq.trans (FK (f:=aM) (ka:=a0.keys) (kb:=a1.keys) (xa:=a0.kids) (xb:=a1.kids) la lb (F:=fun m i j o=>fm (KG a0 a1) (a0.keys.length+a1.keys.length+1) _ a0.kind a0.n a0.s a0.keys a0.kids a1.kind a1.n a1.s a1.keys a1.kids m (i:Int) (j:Int) o) (good:=fun o=>k [.d (.sl .pop) o])
  (fun m i j o x hx hj ho=> ?_) (fun m i j o l y hl hy hi ho=> ?_) (fun m i j o x z l y hx hz hl hy h1 h2 ho=> ?_) (fun m o=> ?_) (a0.keys.length+a1.keys.length) 0 0 (a0.keys.length+a1.keys.length+1) [] (by omega) (by omega) (by omega) (by omega) (by rw[List.drop_zero,List.drop_zero,List.drop_zero,List.drop_zero,List.length_nil];unfold dZ at hlen;omega)) ?_
 ·obtain⟨i1,i0,iw,it⟩:=idx (aP hx) (by omega)
  have pZ:Nat.ble (o.length+1) bT=true:=Nat.ble_eq_true_of_le ho
  rcases hj with hj | ⟨l,hl,bU⟩
  ·have d1:decide ((j:Int)≥(a1.keys.length:Int))=true:=decide_eq_true (by omega)
   simp only[fm,i1,i0,iw,it,d1,pZ,bm (t:= .str) hx,Bool.and_self,cond_true]
   rfl
  ·obtain⟨j1,j0,jw,jt⟩:=idx (aP hl) (by omega)
   have hjl:=aP hl
   have d1:decide ((j:Int)≥(a1.keys.length:Int))=false:=decide_eq_false (by omega)
   simp only[fm,i1,i0,iw,it,j1,j0,jt,d1,pZ,bU,bm (t:= .str) hx,bm (t:= .str) hl,Bool.and_self,cond_true,cond_false]
   rfl
 ·obtain⟨j1,j0,jw,jt⟩:=idx (aP hl) (by omega)
  have hjl:=aP hl
  have j1':decide ((j:Int)<(a1.kids.length:Int))=true:=decide_eq_true (by omega)
  have pZ:Nat.ble (o.length+1) bT=true:=Nat.ble_eq_true_of_le ho
  have hsy:=dG sb (List.mem_of_getElem? hy)
  have d1:decide ((j:Int)≥(a1.keys.length:Int))=false:=decide_eq_false (by omega)
  rcases hi with hi | ⟨x,hx,bU,hgt⟩
  ·have d2:decide ((i:Int)≥(a0.keys.length:Int))=true:=decide_eq_true (by omega)
   have d3:decide ((i:Int)<(a0.keys.length:Int))=false:=decide_eq_false (by omega)
   simp only[fm,j1,j1',j0,jw,jt,d1,d2,d3,pZ,hsy,aK,bm (t:= .str) hl,bm (t:= .node) hy,Bool.and_self,cond_true,cond_false]
   rfl
  ·obtain⟨i1,i0,iw,it⟩:=idx (aP hx) (by omega)
   have hil:=aP hx
   have d2:decide ((i:Int)≥(a0.keys.length:Int))=false:=decide_eq_false (by omega)
   simp only[fm,i1,i0,it,j1,j1',j0,jw,jt,d1,d2,bU,hgt,pZ,hsy,aK,bm (t:= .str) hx,bm (t:= .str) hl,bm (t:= .node) hy,Bool.and_self,cond_true,cond_false]
   rfl
 ·obtain⟨i1,i0,iw,it⟩:=idx (aP hx) (by omega)
  obtain⟨j1,j0,jw,jt⟩:=idx (aP hl) (by omega)
  have hil:=aP hx
  have hjl:=aP hl
  have i1':decide ((i:Int)<(a0.kids.length:Int))=true:=decide_eq_true (by omega)
  have j1':decide ((j:Int)<(a1.kids.length:Int))=true:=decide_eq_true (by omega)
  have d1:decide ((j:Int)≥(a1.keys.length:Int))=false:=decide_eq_false (by omega)
  have d2:decide ((i:Int)≥(a0.keys.length:Int))=false:=decide_eq_false (by omega)
  have hzm:=List.mem_of_getElem? hz
  have hym:=List.mem_of_getElem? hy
  have zE:=pG fP hzm hym
  have Jx:Nat.blt (sL z y) (KG a0 a1)=true:=by rw[Nat.blt_eq];have:=bN hzm;simp only[sL,KG];omega
  have yF:=(sn (s:=x) zE).2
  have pZ:Nat.ble (o.length+(bK x (aM z y)).length) bT=true:=Nat.ble_eq_true_of_le ho
  simp only[fm,i1,i1',i0,iw,it,j1,j1',j0,jw,jt,d1,d2,h1,h2,zE,Jx,yF,pZ,aK,bm (t:= .str) hx,bm (t:= .str) hl,bm (t:= .node) hz,bm (t:= .node) hy,Bool.and_self,cond_true,cond_false]
 ·simp only[fm,iX,cond_false]
 ·simp only[List.drop_zero,List.nil_append]
  rfl
theorem abV:∀x∈([⟨7,[.ro,.ro],[false],true,mu7,q7⟩,⟨26,[.ro,.ro],[false],true,Sr,q26⟩]:List Rc),Gm.bW Tryz.prog x.f (Gm.Spec.of x.ms x.rs x.ow x.q):=by
 refine tg _ fun N hr=> ?_
 have SG:Gm.bW Tryz.prog 7 (Gm.Spec.of [.ro,.ro] [false] true (qA mu7 N q7)):=fun {R}=>hr _ (.head _)
 have hr2:Gm.bW Tryz.prog 26 (Gm.Spec.of [.ro,.ro] [false] true (qA Sr N q26)):=fun {R}=>hr _ (.tail _ (.head _))
 refine bt.2 ⟨?_,bt.2 ⟨?_,gw⟩⟩
 ·have hl:∀x∈([(7,s7r N),(24,s24),(25,s25),(26,ago N),(27,x3),(28,s28),(29,UH)]:List (Nat×Gm.Spec)),Gm.Good Tryz.prog x:=bt.2 ⟨⟨⟨SG,_,Tryz.func7,by kernel_rfl,of_decide_eq_true (by kernel_rfl)⟩,Gm.Spec.ax _ _ _ _⟩,bt.2 ⟨QR,bt.2 ⟨ZT,bt.2 ⟨⟨⟨hr2,_,Tryz.func26,by kernel_rfl,of_decide_eq_true (by kernel_rfl)⟩,Gm.Spec.ax _ _ _ _⟩,bt.2 ⟨jZ,bt.2 ⟨Sp,bt.2 ⟨BH,gw⟩⟩⟩⟩⟩⟩⟩
  show Gm.bW Tryz.prog 7 (Gm.Spec.of [.ro,.ro] [false] true (zM mu7 N q7))
  intro R
  refine aD (E:=Sw N) (aL.env hl) (bQ.cq hl) Tryz.func7 (by kernel_rfl:Tryz.f7.body=some Yj) [30] (by kernel_rfl) ?_
  intro ds outs h
  obtain⟨h,hm⟩:=dg h
  unfold q7 at h
  split at h
  ·simp only[Option.some.injEq,Prod.mk.injEq] at h;obtain⟨hg,h⟩:=h;cases h;exact WQ N _ _ hg hm
  ·cases h
 ·have hl:∀x∈([(7,s7r N),(27,x3),(28,s28)]:List (Nat×Gm.Spec)),Gm.Good Tryz.prog x:=bt.2 ⟨⟨⟨SG,_,Tryz.func7,by kernel_rfl,of_decide_eq_true (by kernel_rfl)⟩,Gm.Spec.ax _ _ _ _⟩,bt.2 ⟨jZ,bt.2 ⟨Sp,gw⟩⟩⟩
  show Gm.bW Tryz.prog 26 (Gm.Spec.of [.ro,.ro] [false] true (zM Sr N q26))
  intro R
  refine aD (E:=B4 N) (aL.env hl) (bQ.cq hl) Tryz.func26 (by kernel_rfl:Tryz.f26.body=some GG) [30] (by kernel_rfl) ?_
  intro ds outs h
  obtain⟨h,hm⟩:=dg h
  unfold q26 at h
  split at h
  ·simp only[Option.some.injEq,Prod.mk.injEq] at h;obtain⟨hg,h⟩:=h;cases h;exact SA N _ _ hg hm
  ·cases h
theorem agp:Gm.Good Tryz.prog (7,s7):=⟨⟨fun {R}=>abV _ (.head _),_,Tryz.func7,by kernel_rfl,of_decide_eq_true (by kernel_rfl)⟩,Gm.Spec.ax _ _ _ _⟩
noncomputable def WT(y0:List Int)(y1:Int)(y2:List ai)(y3:List ai):St:=⟨[(0,.c (.one (.rk (.i .u8) y0))),(5,.c (.one (.h 1408 0 0 []))),(6,.c (.one (.h 1600 0 0 []))),(7,.c (.one (.v (.int .i64 y1))))],[],[(1408,.live ⟨.pop,.deep,0,[],y2⟩),(1600,.live ⟨.pop,.deep,0,[],y3⟩)]⟩
noncomputable def SB:St:=⟨[(2,.c (.one (.v (.bool false))))],[],[]⟩
noncomputable def abW(y0:List Int)(y1:Int)(y2:Bool)(y3:List ai)(y4:List ai):St:=⟨[(0,.c (.one (.rk (.i .u8) y0))),(5,.c (.one (.h 1408 0 0 []))),(6,.c (.one (.h 1600 0 0 []))),(7,.c (.one (.v (.int .i64 y1)))),(41,.c (.one (.v (.bool y2))))],[],[(1408,.live ⟨.pop,.deep,0,[],y3⟩),(1600,.live ⟨.pop,.deep,0,[],y4⟩)]⟩
noncomputable def f3c:Code:=(Tryz.f3.body).getD .skip
def f3k:Nat→Kp:=fa [⟨[0],[],[],[]⟩,⟨[0,14],[],[],[]⟩,⟨[2],[],[],[]⟩,⟨[0,3,4],[],[],[]⟩,⟨[0,3,5,6],[],[],[]⟩,⟨[0,5,6,37],[],[],[]⟩,⟨[2],[],[],[]⟩,⟨[0,5,6,7],[],[],[]⟩,⟨[0,5,6,7,41],[],[],[]⟩,⟨[0,5,6,7],[],[],[]⟩,⟨[0,5,6,7,82],[],[],[]⟩,⟨[2],[],[],[]⟩,⟨[8,9],[],[],[]⟩,⟨[8,9,95],[],[],[]⟩,⟨[2],[],[],[]⟩,⟨[8,9,10],[],[],[]⟩,⟨[9,10,11,12],[],[],[]⟩,⟨[2],[],[],[]⟩]
noncomputable def WU:Env:=bQ.env [(4,s4),(5,s5),(6,s6),(7,s7),(8,s8),(9,s9),(10,s10),(11,s11),(12,s12)]
noncomputable def GH{R:Type}(n:Nat)(x0:Option R)(x1:Int→Bool→Option R)(wB:List Int)(wC:List ai)(wD:List ai):Nat→Int→Option R
  |0,_=>none
  |m+1,wA=>
    (cond (decide (wA<(wC.length:Int)))
   (cond ((decide ((0:Int)≤wA))&&(decide (wA<(wC.length:Int))))
    (cond ((decide ((0:Int)≤wA))&&(decide (wA<(wD.length:Int))))
     (cond ((ai.kind (al (t:= .pop) wC (Int.toNat wA))) !=(ai.kind (al (t:= .pop) wD (Int.toNat wA))))
      (x0)
      (cond ((decide ((0:Int)≤wA))&&(decide (wA<(wC.length:Int))))
       (cond ((decide ((0:Int)≤wA))&&(decide (wA<(wD.length:Int))))
        (cond ((xh (fk (α:=BA))) (ai.path (al (t:= .pop) wC (Int.toNat wA))) (ai.path (al (t:= .pop) wD (Int.toNat wA))))
         (cond (!((fun(_ _:List BA)=>true) (ai.path (al (t:= .pop) wC (Int.toNat wA))) (ai.path (al (t:= .pop) wD (Int.toNat wA)))))
          (x0)
          (cond ((decide ((0:Int)≤wA))&&(decide (wA<(wC.length:Int))))
           (cond ((decide ((0:Int)≤wA))&&(decide (wA<(wD.length:Int))))
            (cond (pQ ag (eN (ai.x (al (t:= .pop) wC (Int.toNat wA)))) (eN (ai.x (al (t:= .pop) wD (Int.toNat wA)))))
             (cond (!(iM (eN (ai.x (al (t:= .pop) wC (Int.toNat wA)))) (eN (ai.x (al (t:= .pop) wD (Int.toNat wA))))))
              (x0)
              (GH n x0 x1 wB wC wD m (IntKind.wrap .i64 (wA+(1:Int)))))
             none)
            none)
           none))
         none)
        none)
       none))
     none)
    none)
   (x1 wA (decide (wA<(wC.length:Int)))))
theorem abY{R:Type}(n:Nat)(k':Kx R)(wB:List Int)(wA:Int)(wC:List ai)(wD:List ai):ev WU f3k n (bC [1,1,1,1,1,0,1,0,0] f3c) (WT wB wA wC wD) k'=
 (cond (decide (wA<(wC.length:Int)))
 (cond ((decide ((0:Int)≤wA))&&(decide (wA<(wC.length:Int))))
 (cond ((decide ((0:Int)≤wA))&&(decide (wA<(wD.length:Int))))
 (cond ((ai.kind (al (t:= .pop) wC (Int.toNat wA))) !=(ai.kind (al (t:= .pop) wD (Int.toNat wA))))
 (k' .ret SB)
 (cond ((decide ((0:Int)≤wA))&&(decide (wA<(wC.length:Int))))
 (cond ((decide ((0:Int)≤wA))&&(decide (wA<(wD.length:Int))))
 (cond ((xh (fk (α:=BA))) (ai.path (al (t:= .pop) wC (Int.toNat wA))) (ai.path (al (t:= .pop) wD (Int.toNat wA))))
 (cond (!((fun(_ _:List BA)=>true) (ai.path (al (t:= .pop) wC (Int.toNat wA))) (ai.path (al (t:= .pop) wD (Int.toNat wA)))))
 (k' .ret SB)
 (cond ((decide ((0:Int)≤wA))&&(decide (wA<(wC.length:Int))))
 (cond ((decide ((0:Int)≤wA))&&(decide (wA<(wD.length:Int))))
 (cond (pQ ag (eN (ai.x (al (t:= .pop) wC (Int.toNat wA)))) (eN (ai.x (al (t:= .pop) wD (Int.toNat wA)))))
 (cond (!(iM (eN (ai.x (al (t:= .pop) wC (Int.toNat wA)))) (eN (ai.x (al (t:= .pop) wD (Int.toNat wA))))))
 (k' .ret SB)
 (k' .normal (WT wB (IntKind.wrap .i64 (wA+(1:Int))) wC wD)))
 none)
 none)
 none))
 none)
 none)
 none))
 none)
 none)
 (k' (.exit 0) (abW wB wA (decide (wA<(wC.length:Int))) wC wD))):=by kernel_rfl
theorem WV{R:Type}(n:Nat)(k':Kx R)(wB:List Int)(wC:List ai)(wD:List ai):∀(m:Nat)(wA:Int),iter (fun st k=>ev WU f3k n (bC [1,1,1,1,1,0,1,0,0] f3c) st k) m (WT wB wA wC wD) k'=GH n (k' .ret SB) (fun(wE:Int)(wF:Bool)=>k' (.exit 0) (abW wB wE wF wC wD)) wB wC wD m wA:=by
 intro m;induction m with
 |zero=>intros;rfl
 |succ m ih=>
  intro wA
  simp only[iter]
  rw[abY]
  simp only[ih,GH]
noncomputable def abZ{R:Type}(n:Nat)(k':Kx R):Kx R:=(b8 0 (eP WU f3k n (bC [1,1,1,1,1,1] f3c) k'))
theorem WW{R:Type}(n:Nat)(k:Kt R)(a0:List Int):abZ n (aI WU [.kp] [false] true [.tmp 2] [4] [.d (.sl (.i .u8)) a0] k) .ret SB=
 (k [.d .bool false]):=by kernel_rfl
theorem WX{R:Type}(n:Nat)(k:Kt R)(a0:List Int)(wB:List Int)(wC:List ai)(wD:List ai)(wE:Int)(wF:Bool):abZ n (aI WU [.kp] [false] true [.tmp 2] [4] [.d (.sl (.i .u8)) a0] k) (.exit 0) (abW wB wE wF wC wD)=
 (cond (eG wB)
 (cond (ag (eN ((bO wB).1)))
 (cond (!(ju (eN ((bO wB).1))))
 (k [.d .bool true])
 (cond (ag (eN ((bO wB).2)))
 (cond (!(ju (eN ((bO wB).2))))
 (k [.d .bool true])
 (cond (cY (eN ((bO wB).1)) (eN ((bO wB).2)))
 (cond (XH (eN ((bO wB).1)) (aM (eN ((bO wB).1)) (eN ((bO wB).2))))
 (cond (decide (((aM (eN ((bO wB).1)) (eN ((bO wB).2))).length:Int)>(200:Int)))
 (k [.d .bool true])
 (cond (((fe (eN ((bO wB).1)) (aM (eN ((bO wB).1)) (eN ((bO wB).2)))).2)==(-1:Int))
 (cond (pQ ag (eN ((fe (eN ((bO wB).1)) (aM (eN ((bO wB).1)) (eN ((bO wB).2)))).1)) (eN ((bO wB).2)))
 (k [.d .bool (iM (eN ((fe (eN ((bO wB).1)) (aM (eN ((bO wB).1)) (eN ((bO wB).2)))).1)) (eN ((bO wB).2)))])
 none)
 (k [.d .bool false])))
 none)
 none))
 none))
 none)
 none):=by kernel_rfl
theorem ab0{R:Type}(n:Nat)(k:Kt R)(a0:List Int):aG WU f3k n f3c [.kp] [false] true [.tmp 2] [4] [.d (.sl (.i .u8)) a0] k=
 (cond (Fh a0)
 (k [.d .bool true])
 (cond (eG a0)
 (cond (cY (eN ((cU a0).1)) (eN ((cU a0).2)))
 (cond (cY (eN ((cU a0).1)) (eN ((cU a0).2)))
 (cond (((aM (eN ((cU a0).1)) (eN ((cU a0).2))).length:Int) !=((aM (eN ((cU a0).1)) (eN ((cU a0).2))).length:Int))
 (k [.d .bool false])
 (cond (cY (eN ((cU a0).1)) (eN ((cU a0).1)))
 (cond (((aM (eN ((cU a0).1)) (eN ((cU a0).1))).length:Int) !=(0:Int))
 (k [.d .bool false])
 (GH n (k [.d .bool false]) (fun(wE:Int)(wF:Bool)=>
 (cond (eG a0)
 (cond (ag (eN ((bO a0).1)))
 (cond (!(ju (eN ((bO a0).1))))
 (k [.d .bool true])
 (cond (ag (eN ((bO a0).2)))
 (cond (!(ju (eN ((bO a0).2))))
 (k [.d .bool true])
 (cond (cY (eN ((bO a0).1)) (eN ((bO a0).2)))
 (cond (XH (eN ((bO a0).1)) (aM (eN ((bO a0).1)) (eN ((bO a0).2))))
 (cond (decide (((aM (eN ((bO a0).1)) (eN ((bO a0).2))).length:Int)>(200:Int)))
 (k [.d .bool true])
 (cond (((fe (eN ((bO a0).1)) (aM (eN ((bO a0).1)) (eN ((bO a0).2)))).2)==(-1:Int))
 (cond (pQ ag (eN ((fe (eN ((bO a0).1)) (aM (eN ((bO a0).1)) (eN ((bO a0).2)))).1)) (eN ((bO a0).2)))
 (k [.d .bool (iM (eN ((fe (eN ((bO a0).1)) (aM (eN ((bO a0).1)) (eN ((bO a0).2)))).1)) (eN ((bO a0).2)))])
 none)
 (k [.d .bool false])))
 none)
 none))
 none))
 none)
 none)) a0 (aM (eN ((cU a0).1)) (eN ((cU a0).2))) (aM (eN ((cU a0).1)) (eN ((cU a0).2))) n (0:Int)))
 none))
 none)
 none)
 none)):=by
  refine Eq.trans (b:=(cond (Fh a0)
  (k [.d .bool true])
  (cond (eG a0)
   (cond (cY (eN ((cU a0).1)) (eN ((cU a0).2)))
    (cond (cY (eN ((cU a0).1)) (eN ((cU a0).2)))
     (cond (((aM (eN ((cU a0).1)) (eN ((cU a0).2))).length:Int) !=((aM (eN ((cU a0).1)) (eN ((cU a0).2))).length:Int))
      (k [.d .bool false])
      (cond (cY (eN ((cU a0).1)) (eN ((cU a0).1)))
       (cond (((aM (eN ((cU a0).1)) (eN ((cU a0).1))).length:Int) !=(0:Int))
        (k [.d .bool false])
        (iter (fun st k=>ev WU f3k n (bC [1,1,1,1,1,0,1,0,0] f3c) st k) n (WT a0 (0:Int) (aM (eN ((cU a0).1)) (eN ((cU a0).2))) (aM (eN ((cU a0).1)) (eN ((cU a0).2)))) (abZ n (aI WU [.kp] [false] true [.tmp 2] [4] [.d (.sl (.i .u8)) a0] k))))
       none))
     none)
    none)
   none))) (by kernel_rfl) ?_
  simp only[WV,WW,WX]
theorem WY(a0:List Int):∃keep rounds,∀{R:Type}(k:Kt R),aG WU keep rounds f3c [.kp] [false] true [.tmp 2] [4] [.d (.sl (.i .u8)) a0] k=k [.d .bool ((fun(_:List Int)=>true) a0)]:=by
 refine⟨f3k,(aM (cU a0).1 (cU a0).2).length+1,fun {R} k=> ?_⟩
 rw[ab0]
 show _=k [.d .bool true]
 cases ajX:Fh a0
 rotate_left
 ·simp only[cond_true]
 have hc:=Mu ajX
 obtain⟨d1,d2⟩:=Ra a0 hc
 obtain⟨⟨s1,s2⟩,z1,z2⟩:=Kq a0 hc
 revert d1 d2
 generalize (cU a0).1=x,(cU a0).2=y
 intro d1 d2
 revert s1 s2 z1 z2
 generalize (bO a0).1=a,(bO a0).2=b
 intro s1 s2 z1 z2
 have hlen:=np d1
 obtain⟨⟨_,sy⟩,_,hz⟩:=fU.1 d1
 have Eu:=rT x
 have ajY:=tu x y sy
 simp only[aK,hc,d1,d2,FL,List.length_nil,bne_self_eq_false,show (((0:Nat):Int) !=(0:Int))=false from rfl,cond_true,cond_false]
 refine Eq.trans (jq (n:=(aM x y).length) (F:=fun m i=>GH ((aM x y).length+1) _ _ _ _ _ m i) (p:=fun _=>true) (good:=k [.d .bool true]) (bad:=k [.d .bool false])
  (fun m j hj=> ?_) (fun m=> ?_) (aM x y).length 0 ((aM x y).length+1) (by omega) (by omega)) ?_
 ·obtain⟨h1,h0,hw,ht⟩:=idx hj (by omega)
  have ho:=ajY _ (List.mem_of_getElem? (dm (t:= .pop) hj))
  have hq:fk (al (t:= .pop) (aM x y) j).path=true:=w8 (by have:=ho.2.2.2;omega)
  simp only[GH,h1,h0,hw,ht,Fi hq,aK,ho.2.1,pQ,rG,bne_self_eq_false,Bool.and_self,Bool.not_true,cond_true,cond_false]
 ·simp only[GH,iX,s1,s2,cond_true,cond_false]
  cases ta:ju a
  ·simp only[Bool.not_false,cond_true]
  cases tb:ju b
  ·simp only[Bool.not_true,Bool.not_false,cond_true,cond_false]
  have zE:=DN s1 s2 ta tb (by omega)
  obtain⟨p1,p2⟩:=M4 (nN ta) (nN tb) s1 s2 (by omega) (by omega)
  cases hl:decide (((aM a b).length:Int)>(200:Int))
  ·have e:=p2 (of_decide_eq_false hl)
   simp only[zE,p1,hl,e,pQ,s2,rG,beq_self_eq_true,Bool.and_self,Bool.not_true,cond_true,cond_false]
  ·simp only[zE,p1,hl,Bool.not_true,cond_true,cond_false]
 ·rw[show rE (fun _=>true) 0 (aM x y).length=true from rF.2 fun _ _ _=>rfl];rfl
noncomputable def q3:Qt
 | [.d (.sl (.i .u8)) a0]=>some (true,[.d .bool ((fun(_:List Int)=>true) a0)])
 |_=>none
noncomputable def s3:Gm.Spec:=Gm.Spec.of [.kp] [false] true q3
theorem agq:Gm.Good Tryz.prog (3,s3):=by
 have hl:∀x∈[(4,s4),(5,s5),(6,s6),(7,s7),(8,s8),(9,s9),(10,s10),(11,s11),(12,s12)],Gm.Good Tryz.prog x:=bt.2 ⟨afU,bt.2 ⟨afT,bt.2 ⟨agl,bt.2 ⟨agp,bt.2 ⟨afV,bt.2 ⟨QI,bt.2 ⟨abh,bt.2 ⟨abC,bt.2 ⟨abp,gw⟩⟩⟩⟩⟩⟩⟩⟩⟩
 refine⟨⟨aD (aL.env hl) (bQ.cq hl) Tryz.func3 (by kernel_rfl:Tryz.f3.body=some f3c) [4] (by kernel_rfl) ?_,_,Tryz.func3,by kernel_rfl,of_decide_eq_true (by kernel_rfl)⟩,Gm.Spec.ax _ _ _ _⟩
 intro ds outs h
 unfold q3 at h
 split at h
 ·cases h;exact WY _
 ·cases h
end Go.Proofs.YtalnkjjnohgjkaaGreat
