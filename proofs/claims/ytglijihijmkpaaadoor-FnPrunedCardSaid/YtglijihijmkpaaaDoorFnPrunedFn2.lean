/- What the functions compute, part 2. No conditions. -/
import Derived.Test.YtglijihijmkpaaaDoorFnPrunedFn1
namespace Go.Proofs.YtglijihijmkpaaaDoor
open Go Go.Gm
noncomputable def yA (y0:List Int) (y1:Int) (y2:Int) (y3:Int) (y4:Int) (y5:BA) (y6:List BA) (y7:List ae):St:=⟨[(0,.c (.one (.pt 0 0))),(2,.c (.one (.pt 2 0)))],[(0,⟨.cur,[.rk (.i .u8) y0,.v (.int .i64 y1),.v (.int .i64 y2)]⟩),(2,⟨.node,[.v (.int .i64 y3),.v (.int .i64 y4),.v (.string y5),.h 448 0 0 [],.h 449 0 0 []]⟩)],[(448,.live ⟨.str,.deep,0,[],y6⟩),(449,.live ⟨.node,.deep,0,[],y7⟩)]⟩
noncomputable def gv (y0:List Int) (y1:Int) (y2:Int) (y6:Int) (y7:Int) (y8:BA) (y9:List BA) (fc:List ae):St:=⟨[(0,.c (.one (.pt 0 0))),(2,.c (.one (.pt 2 0))),(3,.c (.one (.pt 3 0)))],[(0,⟨.cur,[.rk (.i .u8) y0,.v (.int .i64 y1),.v (.int .i64 y2)]⟩),(2,⟨.node,[.v (.int .i64 (0:Int)),.v (.int .i64 (0:Int)),.v (.string ByteArray.empty),.nl,.nl]⟩),(3,⟨.node,[.v (.int .i64 y6),.v (.int .i64 y7),.v (.string y8),.h 448 0 0 [],.h 449 0 0 []]⟩)],[(448,.live ⟨.str,.deep,0,[],y9⟩),(449,.live ⟨.node,.deep,0,[],fc⟩)]⟩
noncomputable def Ml (y0:Nat) (y1:Nat) (y2:Nat) (y3:Bool) (y4:List Int) (y5:Int) (y6:Int) (fc:Int) (fE:Int) (iN:BA) (ml:List BA) (o4:List ae):St:=⟨[(0,.c (.one (.pt 0 0))),(2,.c (.one (.pt 2 0))),(3,.c (.one (.pt 3 0))),(4,.c (.one (.pe 449 0 0 [(y0,4),(y1,4)] y2 0))),(74,.c (.one (.v (.bool y3))))],[(0,⟨.cur,[.rk (.i .u8) y4,.v (.int .i64 y5),.v (.int .i64 y6)]⟩),(2,⟨.node,[.v (.int .i64 (0:Int)),.v (.int .i64 (0:Int)),.v (.string ByteArray.empty),.nl,.nl]⟩),(3,⟨.node,[.v (.int .i64 fc),.v (.int .i64 fE),.v (.string iN),.h 448 0 0 [],.h 449 0 0 []]⟩)],[(448,.live ⟨.str,.deep,0,[],ml⟩),(449,.live ⟨.node,.deep,0,[],o4⟩)]⟩
noncomputable def Mm (y0:Nat) (y1:Nat) (y2:Nat) (y4:Bool) (y5:List Int) (y6:Int) (y7:Int) (fE:Int) (iN:Int) (ml:BA) (o4:List BA) (oq:List ae):St:=⟨[(0,.c (.one (.pt 0 0))),(2,.c (.one (.pt 2 0))),(3,.c (.one (.pt 3 0))),(4,.c (.one (.pe 449 0 0 [(y0,4),(y1,4)] y2 0))),(5,.c (.one (.v (.int .i64 (3:Int))))),(22,.c (.one (.v (.bool y4))))],[(0,⟨.cur,[.rk (.i .u8) y5,.v (.int .i64 y6),.v (.int .i64 y7)]⟩),(2,⟨.node,[.v (.int .i64 (0:Int)),.v (.int .i64 (0:Int)),.v (.string ByteArray.empty),.nl,.nl]⟩),(3,⟨.node,[.v (.int .i64 fE),.v (.int .i64 iN),.v (.string ml),.h 448 0 0 [],.h 449 0 0 []]⟩)],[(448,.live ⟨.str,.deep,0,[],o4⟩),(449,.live ⟨.node,.deep,0,[],oq⟩)]⟩
noncomputable def Mn (y0:Nat) (y1:Nat) (y2:Bool) (y3:List Int) (y4:Int) (y5:Int) (y9:Int) (fc:Int) (fE:BA) (iN:List BA) (ml:List ae):St:=⟨[(0,.c (.one (.pt 0 0))),(2,.c (.one (.pt 2 0))),(3,.c (.one (.pt 3 0))),(4,.c (.one (.pe 449 0 0 [(y0,4)] y1 0))),(74,.c (.one (.v (.bool y2))))],[(0,⟨.cur,[.rk (.i .u8) y3,.v (.int .i64 y4),.v (.int .i64 y5)]⟩),(2,⟨.node,[.v (.int .i64 (0:Int)),.v (.int .i64 (0:Int)),.v (.string ByteArray.empty),.nl,.nl]⟩),(3,⟨.node,[.v (.int .i64 y9),.v (.int .i64 fc),.v (.string fE),.h 448 0 0 [],.h 449 0 0 []]⟩)],[(448,.live ⟨.str,.deep,0,[],iN⟩),(449,.live ⟨.node,.deep,0,[],ml⟩)]⟩
noncomputable def F3 (y0:Nat) (y1:Nat) (y3:Bool) (y4:List Int) (y5:Int) (y6:Int) (fc:Int) (fE:Int) (iN:BA) (ml:List BA) (o4:List ae):St:=⟨[(0,.c (.one (.pt 0 0))),(2,.c (.one (.pt 2 0))),(3,.c (.one (.pt 3 0))),(4,.c (.one (.pe 449 0 0 [(y0,4)] y1 0))),(5,.c (.one (.v (.int .i64 (2:Int))))),(22,.c (.one (.v (.bool y3))))],[(0,⟨.cur,[.rk (.i .u8) y4,.v (.int .i64 y5),.v (.int .i64 y6)]⟩),(2,⟨.node,[.v (.int .i64 (0:Int)),.v (.int .i64 (0:Int)),.v (.string ByteArray.empty),.nl,.nl]⟩),(3,⟨.node,[.v (.int .i64 fc),.v (.int .i64 fE),.v (.string iN),.h 448 0 0 [],.h 449 0 0 []]⟩)],[(448,.live ⟨.str,.deep,0,[],ml⟩),(449,.live ⟨.node,.deep,0,[],o4⟩)]⟩
noncomputable def Mp (y0:Nat) (y1:Bool) (y2:List Int) (y3:Int) (y4:Int) (y8:Int) (y9:Int) (fc:BA) (fE:List BA) (iN:List ae):St:=⟨[(0,.c (.one (.pt 0 0))),(2,.c (.one (.pt 2 0))),(3,.c (.one (.pt 3 0))),(4,.c (.one (.pe 449 0 0 [] y0 0))),(74,.c (.one (.v (.bool y1))))],[(0,⟨.cur,[.rk (.i .u8) y2,.v (.int .i64 y3),.v (.int .i64 y4)]⟩),(2,⟨.node,[.v (.int .i64 (0:Int)),.v (.int .i64 (0:Int)),.v (.string ByteArray.empty),.nl,.nl]⟩),(3,⟨.node,[.v (.int .i64 y8),.v (.int .i64 y9),.v (.string fc),.h 448 0 0 [],.h 449 0 0 []]⟩)],[(448,.live ⟨.str,.deep,0,[],fE⟩),(449,.live ⟨.node,.deep,0,[],iN⟩)]⟩
noncomputable def F4 (y0:Nat) (y2:Bool) (y3:List Int) (y4:Int) (y5:Int) (y9:Int) (fc:Int) (fE:BA) (iN:List BA) (ml:List ae):St:=⟨[(0,.c (.one (.pt 0 0))),(2,.c (.one (.pt 2 0))),(3,.c (.one (.pt 3 0))),(4,.c (.one (.pe 449 0 0 [] y0 0))),(5,.c (.one (.v (.int .i64 (1:Int))))),(22,.c (.one (.v (.bool y2))))],[(0,⟨.cur,[.rk (.i .u8) y3,.v (.int .i64 y4),.v (.int .i64 y5)]⟩),(2,⟨.node,[.v (.int .i64 (0:Int)),.v (.int .i64 (0:Int)),.v (.string ByteArray.empty),.nl,.nl]⟩),(3,⟨.node,[.v (.int .i64 y9),.v (.int .i64 fc),.v (.string fE),.h 448 0 0 [],.h 449 0 0 []]⟩)],[(448,.live ⟨.str,.deep,0,[],iN⟩),(449,.live ⟨.node,.deep,0,[],ml⟩)]⟩
noncomputable def Mq (y0:Bool) (y1:List Int) (y2:Int) (y3:Int) (y7:Int) (y8:Int) (y9:BA) (fc:List BA) (fE:List ae):St:=⟨[(0,.c (.one (.pt 0 0))),(2,.c (.one (.pt 2 0))),(3,.c (.one (.pt 3 0))),(4,.c (.one (.pt 3 0))),(74,.c (.one (.v (.bool y0))))],[(0,⟨.cur,[.rk (.i .u8) y1,.v (.int .i64 y2),.v (.int .i64 y3)]⟩),(2,⟨.node,[.v (.int .i64 (0:Int)),.v (.int .i64 (0:Int)),.v (.string ByteArray.empty),.nl,.nl]⟩),(3,⟨.node,[.v (.int .i64 y7),.v (.int .i64 y8),.v (.string y9),.h 448 0 0 [],.h 449 0 0 []]⟩)],[(448,.live ⟨.str,.deep,0,[],fc⟩),(449,.live ⟨.node,.deep,0,[],fE⟩)]⟩
noncomputable def F5 (y1:Bool) (y2:List Int) (y3:Int) (y4:Int) (y8:Int) (y9:Int) (fc:BA) (fE:List BA) (iN:List ae):St:=⟨[(0,.c (.one (.pt 0 0))),(2,.c (.one (.pt 2 0))),(3,.c (.one (.pt 3 0))),(4,.c (.one (.pt 3 0))),(5,.c (.one (.v (.int .i64 (0:Int))))),(22,.c (.one (.v (.bool y1))))],[(0,⟨.cur,[.rk (.i .u8) y2,.v (.int .i64 y3),.v (.int .i64 y4)]⟩),(2,⟨.node,[.v (.int .i64 (0:Int)),.v (.int .i64 (0:Int)),.v (.string ByteArray.empty),.nl,.nl]⟩),(3,⟨.node,[.v (.int .i64 y8),.v (.int .i64 y9),.v (.string fc),.h 448 0 0 [],.h 449 0 0 []]⟩)],[(448,.live ⟨.str,.deep,0,[],fE⟩),(449,.live ⟨.node,.deep,0,[],iN⟩)]⟩
noncomputable def au (b:List Int) (i h:Int):Int×ai:=ag ⟨b,i,h⟩ 14
def cP:List Int:=[1,2,1000000000001]
def cQ:List BA:=[bs [120],bs [31],bs [127]]
noncomputable def df:Code:=(Tryd.f92.body).getD .skip
def il:Nat→Kp:=fT [⟨[0,2],[],[],[]⟩,⟨[0,2,3],[],[],[]⟩,⟨[0,2,3,4],[],[],[]⟩,⟨[0,2,3,4,5],[],[],[]⟩,⟨[0,2,3,4,5,22],[],[],[]⟩,⟨[0,2,3,4,5],[],[],[]⟩,⟨[0,2,3,4,5],[],[],[]⟩,⟨[0,2,3,4,38],[],[],[]⟩,⟨[0,2,3,4,38,39],[],[],[]⟩,⟨[0,2,3],[],[],[]⟩,⟨[0,2,3,4,38,47],[],[],[]⟩,⟨[0,2,3],[],[],[]⟩,⟨[0,2,3,4,38,55],[],[],[]⟩,⟨[0,2,3],[],[],[]⟩,⟨[0,2,3,4,38,63],[],[],[]⟩,⟨[0,2,3],[],[],[]⟩,⟨[0,2,3,4,74],[],[],[]⟩,⟨[0,2,3],[],[],[]⟩,⟨[0,2],[],[],[]⟩]
noncomputable def dO:Env:=b9.env [(72,Ip),(76,Wv),(86,Ay),(98,QU),(101,Hu)]
noncomputable def ph (wD:List ae) (wF:Nat) (wL:Nat) (wE:Nat) (wA:List Int) (wB:Int) (wC:Int):List ae:=
 (wD.set wF (wK (ar (t:= .node) wD wF) ((ae.kids (ar (t:= .node) wD wF)).set wL (wK (ar (t:= .node) (ae.kids (ar (t:= .node) wD wF)) wL) ((ae.kids (ar (t:= .node) (ae.kids (ar (t:= .node) wD wF)) wL)).set wE (n7 (ar (t:= .node) (ae.kids (ar (t:= .node) (ae.kids (ar (t:= .node) wD wF)) wL)) wE) (IntKind.wrap .i64 (((ag ((au wA wB wC).2) (8:Int)).1)-(1:Int)))))))))
noncomputable def pj (wD:List ae) (wF:Nat) (wL:Nat) (wE:Nat) (wA:List Int) (wB:Int) (wC:Int):List ae:=
 (wD.set wF (wK (ar (t:= .node) wD wF) ((ae.kids (ar (t:= .node) wD wF)).set wL (wK (ar (t:= .node) (ae.kids (ar (t:= .node) wD wF)) wL) ((ae.kids (ar (t:= .node) (ae.kids (ar (t:= .node) wD wF)) wL)).set wE (wN (ar (t:= .node) (ae.kids (ar (t:= .node) (ae.kids (ar (t:= .node) wD wF)) wL)) wE) ((bf ((au wA wB wC).2) cP).1)))))))
noncomputable def pk (wD:List ae) (wF:Nat) (wL:Nat) (wE:Nat) (wA:List Int) (wB:Int) (wC:Int):List ae:=
 (wD.set wF (wK (ar (t:= .node) wD wF) ((ae.kids (ar (t:= .node) wD wF)).set wL (wK (ar (t:= .node) (ae.kids (ar (t:= .node) wD wF)) wL) ((ae.kids (ar (t:= .node) (ae.kids (ar (t:= .node) wD wF)) wL)).set wE (wS (ar (t:= .node) (ae.kids (ar (t:= .node) (ae.kids (ar (t:= .node) wD wF)) wL)) wE) ((bE ((au wA wB wC).2) cQ).1)))))))
noncomputable def pn (wD:List ae) (wF:Nat) (wL:Nat) (wE:Nat):List ae:=
 (wD.set wF (wK (ar (t:= .node) wD wF) ((ae.kids (ar (t:= .node) wD wF)).set wL (wK (ar (t:= .node) (ae.kids (ar (t:= .node) wD wF)) wL) ((ae.kids (ar (t:= .node) (ae.kids (ar (t:= .node) wD wF)) wL)).set wE (n8 (ar (t:= .node) (ae.kids (ar (t:= .node) (ae.kids (ar (t:= .node) wD wF)) wL)) wE) ((ae.keys (ar (t:= .node) (ae.kids (ar (t:= .node) (ae.kids (ar (t:= .node) wD wF)) wL)) wE))++([(bs [97])]:List BA))))))))
noncomputable def qR (wD:List ae) (wF:Nat) (wL:Nat) (wE:Nat):List ae:=
 (((ae.kids (ar (t:= .node) (ae.kids (ar (t:= .node) (ae.kids (ar (t:= .node) wD wF)) wL)) wE))++([(⟨(0:Int),(0:Int),ByteArray.empty,([]:List BA),([]:List ae)⟩:ae)]:List ae)).set (Int.toNat ((ae.kids (ar (t:= .node) (ae.kids (ar (t:= .node) (ae.kids (ar (t:= .node) wD wF)) wL)) wE)).length:Int)) (⟨(0:Int),(0:Int),ByteArray.empty,([]:List BA),([]:List ae)⟩:ae))
noncomputable def po (wD:List ae) (wF:Nat) (wL:Nat) (wE:Nat):List ae:=
 (wD.set wF (wK (ar (t:= .node) wD wF) ((ae.kids (ar (t:= .node) wD wF)).set wL (wK (ar (t:= .node) (ae.kids (ar (t:= .node) wD wF)) wL) ((ae.kids (ar (t:= .node) (ae.kids (ar (t:= .node) wD wF)) wL)).set wE (wK (ar (t:= .node) (ae.kids (ar (t:= .node) (ae.kids (ar (t:= .node) wD wF)) wL)) wE) (qR wD wF wL wE)))))))
noncomputable def pq {R:Type} (n:Nat) (k:Kt R) (a0:ai) (wA:List Int) (wB:Int) (wC:Int) (wP:Int) (wQ:Int) (wR:BA) (wG:List BA) (wD:List ae):Option R:=
 (k [.d .node (⟨wP,wQ,wR,wG,wD⟩:ae),.d .cur (⟨wA,wB,wC⟩:ai)])
theorem ou {R:Type} (n:Nat) (k:Kt R) (a0:ai) (wA:List Int) (wB:Int) (wC:Int) (wP:Int) (wQ:Int) (wR:BA) (wG:List BA) (wD:List ae):ev dO il n (bl [1,1,1,1,1,1] df) (yA wA wB wC wP wQ wR wG wD) (aC dO [.bj] [false] true [.cell 2 35] [35] [.d .cur a0] k)=pq n k a0 wA wB wC wP wQ wR wG wD:=by
 kernel_rfl
theorem RH {R:Type} (n:Nat) (k':Kx R) (wA:List Int) (wB:Int) (wC:Int) (wH:Int) (wI:Int) (wJ:BA) (wG:List BA) (wD:List ae):ev dO il n (bl [1,1,1,1,1,0] df) (gv wA wB wC wH wI wJ wG wD) k'=
 (k' .normal (yA wA wB wC wH wI wJ wG wD)):=by kernel_rfl
noncomputable def eU {R:Type} (n:Nat) (k:Kt R) (a0:ai) (wA:List Int) (wB:Int) (wC:Int) (wH:Int) (wI:Int) (wJ:BA) (wG:List BA) (wD:List ae):Option R:=
 (pq n k a0 wA wB wC wH wI wJ wG wD)
theorem qS {R:Type} (n:Nat) (k:Kt R) (a0:ai) (wA:List Int) (wB:Int) (wC:Int) (wH:Int) (wI:Int) (wJ:BA) (wG:List BA) (wD:List ae):ev dO il n (bl [1,1,1,1,1] df) (gv wA wB wC wH wI wJ wG wD) (aC dO [.bj] [false] true [.cell 2 35] [35] [.d .cur a0] k)=eU n k a0 wA wB wC wH wI wJ wG wD:=by
 rw [show (bl [1,1,1,1,1] df) = .seq (bl [1,1,1,1,1,0] df) (bl [1,1,1,1,1,1] df) from by kernel_rfl,mM,RH]
 simp only [mN,mO,ou,eU]
theorem RI {R:Type} (n:Nat) (k':Kx R) (wF:Nat) (wL:Nat) (wE:Nat) (wO:Bool) (wA:List Int) (wB:Int) (wC:Int) (wH:Int) (wI:Int) (wJ:BA) (wG:List BA) (wD:List ae):ev dO il n (bl [1,1,1,1,1,0] df) (Ml wF wL wE wO wA wB wC wH wI wJ wG wD) k'=
 (k' .normal (yA wA wB wC wH wI wJ wG wD)):=by kernel_rfl
noncomputable def v8 {R:Type} (n:Nat) (k:Kt R) (a0:ai) (wF:Nat) (wL:Nat) (wE:Nat) (wO:Bool) (wA:List Int) (wB:Int) (wC:Int) (wH:Int) (wI:Int) (wJ:BA) (wG:List BA) (wD:List ae):Option R:=
 (pq n k a0 wA wB wC wH wI wJ wG wD)
theorem Mr {R:Type} (n:Nat) (k:Kt R) (a0:ai) (wF:Nat) (wL:Nat) (wE:Nat) (wO:Bool) (wA:List Int) (wB:Int) (wC:Int) (wH:Int) (wI:Int) (wJ:BA) (wG:List BA) (wD:List ae):ev dO il n (bl [1,1,1,1,1] df) (Ml wF wL wE wO wA wB wC wH wI wJ wG wD) (aC dO [.bj] [false] true [.cell 2 35] [35] [.d .cur a0] k)=v8 n k a0 wF wL wE wO wA wB wC wH wI wJ wG wD:=by
 rw [show (bl [1,1,1,1,1] df) = .seq (bl [1,1,1,1,1,0] df) (bl [1,1,1,1,1,1] df) from by kernel_rfl,mM,RI]
 simp only [mN,mO,ou,v8]
theorem RJ {R:Type} (n:Nat) (k':Kx R) (wF:Nat) (wL:Nat) (wE:Nat) (wM:Bool) (wA:List Int) (wB:Int) (wC:Int) (wH:Int) (wI:Int) (wJ:BA) (wG:List BA) (wD:List ae):ev dO il n (bl [1,1,1,1,0] df) (Mm wF wL wE wM wA wB wC wH wI wJ wG wD) k'=
 (cond ((fun c _=>ay c) (⟨wA,wB,wC⟩:ai) (14:Int))
 (cond (((au wA wB wC).1)==(0:Int))
 (cond ((fun c _=>ay c) ((au wA wB wC).2) (8:Int))
 (k' .normal (gv (ai.b ((ag ((au wA wB wC).2) (8:Int)).2)) (ai.i ((ag ((au wA wB wC).2) (8:Int)).2)) (ai.h ((ag ((au wA wB wC).2) (8:Int)).2)) wH wI wJ wG (ph wD wF wL wE wA wB wC)))
 none)
 (cond (((au wA wB wC).1)==(1:Int))
 (cond (dW ((au wA wB wC).2) cP)
 (k' .normal (gv (ai.b ((bf ((au wA wB wC).2) cP).2)) (ai.i ((bf ((au wA wB wC).2) cP).2)) (ai.h ((bf ((au wA wB wC).2) cP).2)) wH wI wJ wG (pj wD wF wL wE wA wB wC)))
 none)
 (cond (((au wA wB wC).1)==(2:Int))
 (cond (ey ((au wA wB wC).2) cQ)
 (k' .normal (gv (ai.b ((bE ((au wA wB wC).2) cQ).2)) (ai.i ((bE ((au wA wB wC).2) cQ).2)) (ai.h ((bE ((au wA wB wC).2) cQ).2)) wH wI wJ wG (pk wD wF wL wE wA wB wC)))
 none)
 (cond (((au wA wB wC).1)==(3:Int))
 (cond (Nat.ble ((ae.keys (ar (t:= .node) (ae.kids (ar (t:= .node) (ae.kids (ar (t:= .node) wD wF)) wL)) wE)).length+1) bT)
 (cond (xy [(wF,4),(wL,4),(wE,3)] [(wF,4),(wL,4),(wE,3)])
 (k' .normal (gv (ai.b ((au wA wB wC).2)) (ai.i ((au wA wB wC).2)) (ai.h ((au wA wB wC).2)) wH wI wJ wG (pn wD wF wL wE)))
 none)
 none)
 (cond (((au wA wB wC).1)==(4:Int))
 (cond (Nat.ble ((ae.kids (ar (t:= .node) (ae.kids (ar (t:= .node) (ae.kids (ar (t:= .node) wD wF)) wL)) wE)).length+1) bT)
 (cond ((decide ((0:Int)≤((ae.kids (ar (t:= .node) (ae.kids (ar (t:= .node) (ae.kids (ar (t:= .node) wD wF)) wL)) wE)).length:Int)))&&(decide (((ae.kids (ar (t:= .node) (ae.kids (ar (t:= .node) (ae.kids (ar (t:= .node) wD wF)) wL)) wE)).length:Int)<(((ae.kids (ar (t:= .node) (ae.kids (ar (t:= .node) (ae.kids (ar (t:= .node) wD wF)) wL)) wE))++([(⟨(0:Int),(0:Int),ByteArray.empty,([]:List BA),([]:List ae)⟩:ae)]:List ae)).length:Int))))
 (cond (xy [(wF,4),(wL,4),(wE,4)] [(wF,4),(wL,4),(wE,4)])
 (k' .normal (gv (ai.b ((au wA wB wC).2)) (ai.i ((au wA wB wC).2)) (ai.h ((au wA wB wC).2)) wH wI wJ wG (po wD wF wL wE)))
 none)
 none)
 none)
 (k' .normal (Ml wF wL wE (((au wA wB wC).1)==(4:Int)) (ai.b ((au wA wB wC).2)) (ai.i ((au wA wB wC).2)) (ai.h ((au wA wB wC).2)) wH wI wJ wG wD)))))))
 none):=by kernel_rfl
noncomputable def sL {R:Type} (n:Nat) (k:Kt R) (a0:ai) (wF:Nat) (wL:Nat) (wE:Nat) (wM:Bool) (wA:List Int) (wB:Int) (wC:Int) (wH:Int) (wI:Int) (wJ:BA) (wG:List BA) (wD:List ae):Option R:=
 (cond ((fun c _=>ay c) (⟨wA,wB,wC⟩:ai) (14:Int))
 (cond (((au wA wB wC).1)==(0:Int))
 (cond ((fun c _=>ay c) ((au wA wB wC).2) (8:Int))
 (eU n k a0 (ai.b ((ag ((au wA wB wC).2) (8:Int)).2)) (ai.i ((ag ((au wA wB wC).2) (8:Int)).2)) (ai.h ((ag ((au wA wB wC).2) (8:Int)).2)) wH wI wJ wG (ph wD wF wL wE wA wB wC))
 none)
 (cond (((au wA wB wC).1)==(1:Int))
 (cond (dW ((au wA wB wC).2) cP)
 (eU n k a0 (ai.b ((bf ((au wA wB wC).2) cP).2)) (ai.i ((bf ((au wA wB wC).2) cP).2)) (ai.h ((bf ((au wA wB wC).2) cP).2)) wH wI wJ wG (pj wD wF wL wE wA wB wC))
 none)
 (cond (((au wA wB wC).1)==(2:Int))
 (cond (ey ((au wA wB wC).2) cQ)
 (eU n k a0 (ai.b ((bE ((au wA wB wC).2) cQ).2)) (ai.i ((bE ((au wA wB wC).2) cQ).2)) (ai.h ((bE ((au wA wB wC).2) cQ).2)) wH wI wJ wG (pk wD wF wL wE wA wB wC))
 none)
 (cond (((au wA wB wC).1)==(3:Int))
 (cond (Nat.ble ((ae.keys (ar (t:= .node) (ae.kids (ar (t:= .node) (ae.kids (ar (t:= .node) wD wF)) wL)) wE)).length+1) bT)
 (cond (xy [(wF,4),(wL,4),(wE,3)] [(wF,4),(wL,4),(wE,3)])
 (eU n k a0 (ai.b ((au wA wB wC).2)) (ai.i ((au wA wB wC).2)) (ai.h ((au wA wB wC).2)) wH wI wJ wG (pn wD wF wL wE))
 none)
 none)
 (cond (((au wA wB wC).1)==(4:Int))
 (cond (Nat.ble ((ae.kids (ar (t:= .node) (ae.kids (ar (t:= .node) (ae.kids (ar (t:= .node) wD wF)) wL)) wE)).length+1) bT)
 (cond ((decide ((0:Int)≤((ae.kids (ar (t:= .node) (ae.kids (ar (t:= .node) (ae.kids (ar (t:= .node) wD wF)) wL)) wE)).length:Int)))&&(decide (((ae.kids (ar (t:= .node) (ae.kids (ar (t:= .node) (ae.kids (ar (t:= .node) wD wF)) wL)) wE)).length:Int)<(((ae.kids (ar (t:= .node) (ae.kids (ar (t:= .node) (ae.kids (ar (t:= .node) wD wF)) wL)) wE))++([(⟨(0:Int),(0:Int),ByteArray.empty,([]:List BA),([]:List ae)⟩:ae)]:List ae)).length:Int))))
 (cond (xy [(wF,4),(wL,4),(wE,4)] [(wF,4),(wL,4),(wE,4)])
 (eU n k a0 (ai.b ((au wA wB wC).2)) (ai.i ((au wA wB wC).2)) (ai.h ((au wA wB wC).2)) wH wI wJ wG (po wD wF wL wE))
 none)
 none)
 none)
 (v8 n k a0 wF wL wE (((au wA wB wC).1)==(4:Int)) (ai.b ((au wA wB wC).2)) (ai.i ((au wA wB wC).2)) (ai.h ((au wA wB wC).2)) wH wI wJ wG wD))))))
 none)
theorem Ms {R:Type} (n:Nat) (k:Kt R) (a0:ai) (wF:Nat) (wL:Nat) (wE:Nat) (wM:Bool) (wA:List Int) (wB:Int) (wC:Int) (wH:Int) (wI:Int) (wJ:BA) (wG:List BA) (wD:List ae):ev dO il n (bl [1,1,1,1] df) (Mm wF wL wE wM wA wB wC wH wI wJ wG wD) (aC dO [.bj] [false] true [.cell 2 35] [35] [.d .cur a0] k)=sL n k a0 wF wL wE wM wA wB wC wH wI wJ wG wD:=by
 rw [show (bl [1,1,1,1] df) = .seq (bl [1,1,1,1,0] df) (bl [1,1,1,1,1] df) from by kernel_rfl,mM,RJ]
 simp only [mN,mO,qS,Mr,sL]
noncomputable def pr (wD:List ae) (wF:Nat) (wE:Nat) (wA:List Int) (wB:Int) (wC:Int):List ae:=
 (wD.set wF (wK (ar (t:= .node) wD wF) ((ae.kids (ar (t:= .node) wD wF)).set wE (n7 (ar (t:= .node) (ae.kids (ar (t:= .node) wD wF)) wE) (IntKind.wrap .i64 (((ag ((au wA wB wC).2) (8:Int)).1)-(1:Int)))))))
noncomputable def pv (wD:List ae) (wF:Nat) (wE:Nat) (wA:List Int) (wB:Int) (wC:Int):List ae:=
 (wD.set wF (wK (ar (t:= .node) wD wF) ((ae.kids (ar (t:= .node) wD wF)).set wE (wN (ar (t:= .node) (ae.kids (ar (t:= .node) wD wF)) wE) ((bf ((au wA wB wC).2) cP).1)))))
noncomputable def pw (wD:List ae) (wF:Nat) (wE:Nat) (wA:List Int) (wB:Int) (wC:Int):List ae:=
 (wD.set wF (wK (ar (t:= .node) wD wF) ((ae.kids (ar (t:= .node) wD wF)).set wE (wS (ar (t:= .node) (ae.kids (ar (t:= .node) wD wF)) wE) ((bE ((au wA wB wC).2) cQ).1)))))
noncomputable def px (wD:List ae) (wF:Nat) (wE:Nat):List ae:=
 (wD.set wF (wK (ar (t:= .node) wD wF) ((ae.kids (ar (t:= .node) wD wF)).set wE (n8 (ar (t:= .node) (ae.kids (ar (t:= .node) wD wF)) wE) ((ae.keys (ar (t:= .node) (ae.kids (ar (t:= .node) wD wF)) wE))++([(bs [97])]:List BA))))))
noncomputable def mU (wD:List ae) (wF:Nat) (wE:Nat):List ae:=
 (((ae.kids (ar (t:= .node) (ae.kids (ar (t:= .node) wD wF)) wE))++([(⟨(0:Int),(0:Int),ByteArray.empty,([]:List BA),([]:List ae)⟩:ae)]:List ae)).set (Int.toNat ((ae.kids (ar (t:= .node) (ae.kids (ar (t:= .node) wD wF)) wE)).length:Int)) (⟨(0:Int),(0:Int),ByteArray.empty,([]:List BA),([]:List ae)⟩:ae))
noncomputable def lJ (wD:List ae) (wF:Nat) (wE:Nat):List ae:=
 (wD.set wF (wK (ar (t:= .node) wD wF) ((ae.kids (ar (t:= .node) wD wF)).set wE (wK (ar (t:= .node) (ae.kids (ar (t:= .node) wD wF)) wE) (mU wD wF wE)))))
theorem RL {R:Type} (n:Nat) (k':Kx R) (wF:Nat) (wE:Nat) (wO:Bool) (wA:List Int) (wB:Int) (wC:Int) (wH:Int) (wI:Int) (wJ:BA) (wG:List BA) (wD:List ae):ev dO il n (bl [1,1,1,1,1,0] df) (Mn wF wE wO wA wB wC wH wI wJ wG wD) k'=
 (k' .normal (yA wA wB wC wH wI wJ wG wD)):=by kernel_rfl
noncomputable def wa {R:Type} (n:Nat) (k:Kt R) (a0:ai) (wF:Nat) (wE:Nat) (wO:Bool) (wA:List Int) (wB:Int) (wC:Int) (wH:Int) (wI:Int) (wJ:BA) (wG:List BA) (wD:List ae):Option R:=
 (pq n k a0 wA wB wC wH wI wJ wG wD)
theorem Mt {R:Type} (n:Nat) (k:Kt R) (a0:ai) (wF:Nat) (wE:Nat) (wO:Bool) (wA:List Int) (wB:Int) (wC:Int) (wH:Int) (wI:Int) (wJ:BA) (wG:List BA) (wD:List ae):ev dO il n (bl [1,1,1,1,1] df) (Mn wF wE wO wA wB wC wH wI wJ wG wD) (aC dO [.bj] [false] true [.cell 2 35] [35] [.d .cur a0] k)=wa n k a0 wF wE wO wA wB wC wH wI wJ wG wD:=by
 rw [show (bl [1,1,1,1,1] df) = .seq (bl [1,1,1,1,1,0] df) (bl [1,1,1,1,1,1] df) from by kernel_rfl,mM,RL]
 simp only [mN,mO,ou,wa]
theorem RM {R:Type} (n:Nat) (k':Kx R) (wF:Nat) (wE:Nat) (wM:Bool) (wA:List Int) (wB:Int) (wC:Int) (wH:Int) (wI:Int) (wJ:BA) (wG:List BA) (wD:List ae):ev dO il n (bl [1,1,1,1,0] df) (F3 wF wE wM wA wB wC wH wI wJ wG wD) k'=
 (cond ((fun c _=>ay c) (⟨wA,wB,wC⟩:ai) (14:Int))
 (cond (((au wA wB wC).1)==(0:Int))
 (cond ((fun c _=>ay c) ((au wA wB wC).2) (8:Int))
 (k' .normal (gv (ai.b ((ag ((au wA wB wC).2) (8:Int)).2)) (ai.i ((ag ((au wA wB wC).2) (8:Int)).2)) (ai.h ((ag ((au wA wB wC).2) (8:Int)).2)) wH wI wJ wG (pr wD wF wE wA wB wC)))
 none)
 (cond (((au wA wB wC).1)==(1:Int))
 (cond (dW ((au wA wB wC).2) cP)
 (k' .normal (gv (ai.b ((bf ((au wA wB wC).2) cP).2)) (ai.i ((bf ((au wA wB wC).2) cP).2)) (ai.h ((bf ((au wA wB wC).2) cP).2)) wH wI wJ wG (pv wD wF wE wA wB wC)))
 none)
 (cond (((au wA wB wC).1)==(2:Int))
 (cond (ey ((au wA wB wC).2) cQ)
 (k' .normal (gv (ai.b ((bE ((au wA wB wC).2) cQ).2)) (ai.i ((bE ((au wA wB wC).2) cQ).2)) (ai.h ((bE ((au wA wB wC).2) cQ).2)) wH wI wJ wG (pw wD wF wE wA wB wC)))
 none)
 (cond (((au wA wB wC).1)==(3:Int))
 (cond (Nat.ble ((ae.keys (ar (t:= .node) (ae.kids (ar (t:= .node) wD wF)) wE)).length+1) bT)
 (cond (xy [(wF,4),(wE,3)] [(wF,4),(wE,3)])
 (k' .normal (gv (ai.b ((au wA wB wC).2)) (ai.i ((au wA wB wC).2)) (ai.h ((au wA wB wC).2)) wH wI wJ wG (px wD wF wE)))
 none)
 none)
 (cond (((au wA wB wC).1)==(4:Int))
 (cond (Nat.ble ((ae.kids (ar (t:= .node) (ae.kids (ar (t:= .node) wD wF)) wE)).length+1) bT)
 (cond ((decide ((0:Int)≤((ae.kids (ar (t:= .node) (ae.kids (ar (t:= .node) wD wF)) wE)).length:Int)))&&(decide (((ae.kids (ar (t:= .node) (ae.kids (ar (t:= .node) wD wF)) wE)).length:Int)<(((ae.kids (ar (t:= .node) (ae.kids (ar (t:= .node) wD wF)) wE))++([(⟨(0:Int),(0:Int),ByteArray.empty,([]:List BA),([]:List ae)⟩:ae)]:List ae)).length:Int))))
 (cond (xy [(wF,4),(wE,4)] [(wF,4),(wE,4)])
 (k' .normal (gv (ai.b ((au wA wB wC).2)) (ai.i ((au wA wB wC).2)) (ai.h ((au wA wB wC).2)) wH wI wJ wG (lJ wD wF wE)))
 none)
 none)
 none)
 (k' .normal (Mn wF wE (((au wA wB wC).1)==(4:Int)) (ai.b ((au wA wB wC).2)) (ai.i ((au wA wB wC).2)) (ai.h ((au wA wB wC).2)) wH wI wJ wG wD)))))))
 none):=by kernel_rfl
noncomputable def qT {R:Type} (n:Nat) (k:Kt R) (a0:ai) (wF:Nat) (wE:Nat) (wM:Bool) (wA:List Int) (wB:Int) (wC:Int) (wH:Int) (wI:Int) (wJ:BA) (wG:List BA) (wD:List ae):Option R:=
 (cond ((fun c _=>ay c) (⟨wA,wB,wC⟩:ai) (14:Int))
 (cond (((au wA wB wC).1)==(0:Int))
 (cond ((fun c _=>ay c) ((au wA wB wC).2) (8:Int))
 (eU n k a0 (ai.b ((ag ((au wA wB wC).2) (8:Int)).2)) (ai.i ((ag ((au wA wB wC).2) (8:Int)).2)) (ai.h ((ag ((au wA wB wC).2) (8:Int)).2)) wH wI wJ wG (pr wD wF wE wA wB wC))
 none)
 (cond (((au wA wB wC).1)==(1:Int))
 (cond (dW ((au wA wB wC).2) cP)
 (eU n k a0 (ai.b ((bf ((au wA wB wC).2) cP).2)) (ai.i ((bf ((au wA wB wC).2) cP).2)) (ai.h ((bf ((au wA wB wC).2) cP).2)) wH wI wJ wG (pv wD wF wE wA wB wC))
 none)
 (cond (((au wA wB wC).1)==(2:Int))
 (cond (ey ((au wA wB wC).2) cQ)
 (eU n k a0 (ai.b ((bE ((au wA wB wC).2) cQ).2)) (ai.i ((bE ((au wA wB wC).2) cQ).2)) (ai.h ((bE ((au wA wB wC).2) cQ).2)) wH wI wJ wG (pw wD wF wE wA wB wC))
 none)
 (cond (((au wA wB wC).1)==(3:Int))
 (cond (Nat.ble ((ae.keys (ar (t:= .node) (ae.kids (ar (t:= .node) wD wF)) wE)).length+1) bT)
 (cond (xy [(wF,4),(wE,3)] [(wF,4),(wE,3)])
 (eU n k a0 (ai.b ((au wA wB wC).2)) (ai.i ((au wA wB wC).2)) (ai.h ((au wA wB wC).2)) wH wI wJ wG (px wD wF wE))
 none)
 none)
 (cond (((au wA wB wC).1)==(4:Int))
 (cond (Nat.ble ((ae.kids (ar (t:= .node) (ae.kids (ar (t:= .node) wD wF)) wE)).length+1) bT)
 (cond ((decide ((0:Int)≤((ae.kids (ar (t:= .node) (ae.kids (ar (t:= .node) wD wF)) wE)).length:Int)))&&(decide (((ae.kids (ar (t:= .node) (ae.kids (ar (t:= .node) wD wF)) wE)).length:Int)<(((ae.kids (ar (t:= .node) (ae.kids (ar (t:= .node) wD wF)) wE))++([(⟨(0:Int),(0:Int),ByteArray.empty,([]:List BA),([]:List ae)⟩:ae)]:List ae)).length:Int))))
 (cond (xy [(wF,4),(wE,4)] [(wF,4),(wE,4)])
 (eU n k a0 (ai.b ((au wA wB wC).2)) (ai.i ((au wA wB wC).2)) (ai.h ((au wA wB wC).2)) wH wI wJ wG (lJ wD wF wE))
 none)
 none)
 none)
 (wa n k a0 wF wE (((au wA wB wC).1)==(4:Int)) (ai.b ((au wA wB wC).2)) (ai.i ((au wA wB wC).2)) (ai.h ((au wA wB wC).2)) wH wI wJ wG wD))))))
 none)
theorem Mu {R:Type} (n:Nat) (k:Kt R) (a0:ai) (wF:Nat) (wE:Nat) (wM:Bool) (wA:List Int) (wB:Int) (wC:Int) (wH:Int) (wI:Int) (wJ:BA) (wG:List BA) (wD:List ae):ev dO il n (bl [1,1,1,1] df) (F3 wF wE wM wA wB wC wH wI wJ wG wD) (aC dO [.bj] [false] true [.cell 2 35] [35] [.d .cur a0] k)=qT n k a0 wF wE wM wA wB wC wH wI wJ wG wD:=by
 rw [show (bl [1,1,1,1] df) = .seq (bl [1,1,1,1,0] df) (bl [1,1,1,1,1] df) from by kernel_rfl,mM,RM]
 simp only [mN,mO,qS,Mt,qT]
noncomputable def lK (wD:List ae) (wE:Nat) (wA:List Int) (wB:Int) (wC:Int):List ae:=
 (wD.set wE (n7 (ar (t:= .node) wD wE) (IntKind.wrap .i64 (((ag ((au wA wB wC).2) (8:Int)).1)-(1:Int)))))
noncomputable def lL (wD:List ae) (wE:Nat) (wA:List Int) (wB:Int) (wC:Int):List ae:=
 (wD.set wE (wN (ar (t:= .node) wD wE) ((bf ((au wA wB wC).2) cP).1)))
noncomputable def lM (wD:List ae) (wE:Nat) (wA:List Int) (wB:Int) (wC:Int):List ae:=
 (wD.set wE (wS (ar (t:= .node) wD wE) ((bE ((au wA wB wC).2) cQ).1)))
noncomputable def lN (wD:List ae) (wE:Nat):List ae:=
 (wD.set wE (n8 (ar (t:= .node) wD wE) ((ae.keys (ar (t:= .node) wD wE))++([(bs [97])]:List BA))))
noncomputable def mV (wD:List ae) (wE:Nat):List ae:=
 (((ae.kids (ar (t:= .node) wD wE))++([(⟨(0:Int),(0:Int),ByteArray.empty,([]:List BA),([]:List ae)⟩:ae)]:List ae)).set (Int.toNat ((ae.kids (ar (t:= .node) wD wE)).length:Int)) (⟨(0:Int),(0:Int),ByteArray.empty,([]:List BA),([]:List ae)⟩:ae))
noncomputable def lO (wD:List ae) (wE:Nat):List ae:=
 (wD.set wE (wK (ar (t:= .node) wD wE) (mV wD wE)))
theorem RN {R:Type} (n:Nat) (k':Kx R) (wE:Nat) (wO:Bool) (wA:List Int) (wB:Int) (wC:Int) (wH:Int) (wI:Int) (wJ:BA) (wG:List BA) (wD:List ae):ev dO il n (bl [1,1,1,1,1,0] df) (Mp wE wO wA wB wC wH wI wJ wG wD) k'=
 (k' .normal (yA wA wB wC wH wI wJ wG wD)):=by kernel_rfl
noncomputable def wb {R:Type} (n:Nat) (k:Kt R) (a0:ai) (wE:Nat) (wO:Bool) (wA:List Int) (wB:Int) (wC:Int) (wH:Int) (wI:Int) (wJ:BA) (wG:List BA) (wD:List ae):Option R:=
 (pq n k a0 wA wB wC wH wI wJ wG wD)
theorem Mv {R:Type} (n:Nat) (k:Kt R) (a0:ai) (wE:Nat) (wO:Bool) (wA:List Int) (wB:Int) (wC:Int) (wH:Int) (wI:Int) (wJ:BA) (wG:List BA) (wD:List ae):ev dO il n (bl [1,1,1,1,1] df) (Mp wE wO wA wB wC wH wI wJ wG wD) (aC dO [.bj] [false] true [.cell 2 35] [35] [.d .cur a0] k)=wb n k a0 wE wO wA wB wC wH wI wJ wG wD:=by
 rw [show (bl [1,1,1,1,1] df) = .seq (bl [1,1,1,1,1,0] df) (bl [1,1,1,1,1,1] df) from by kernel_rfl,mM,RN]
 simp only [mN,mO,ou,wb]
theorem RP {R:Type} (n:Nat) (k':Kx R) (wE:Nat) (wM:Bool) (wA:List Int) (wB:Int) (wC:Int) (wH:Int) (wI:Int) (wJ:BA) (wG:List BA) (wD:List ae):ev dO il n (bl [1,1,1,1,0] df) (F4 wE wM wA wB wC wH wI wJ wG wD) k'=
 (cond ((fun c _=>ay c) (⟨wA,wB,wC⟩:ai) (14:Int))
 (cond (((au wA wB wC).1)==(0:Int))
 (cond ((fun c _=>ay c) ((au wA wB wC).2) (8:Int))
 (k' .normal (gv (ai.b ((ag ((au wA wB wC).2) (8:Int)).2)) (ai.i ((ag ((au wA wB wC).2) (8:Int)).2)) (ai.h ((ag ((au wA wB wC).2) (8:Int)).2)) wH wI wJ wG (lK wD wE wA wB wC)))
 none)
 (cond (((au wA wB wC).1)==(1:Int))
 (cond (dW ((au wA wB wC).2) cP)
 (k' .normal (gv (ai.b ((bf ((au wA wB wC).2) cP).2)) (ai.i ((bf ((au wA wB wC).2) cP).2)) (ai.h ((bf ((au wA wB wC).2) cP).2)) wH wI wJ wG (lL wD wE wA wB wC)))
 none)
 (cond (((au wA wB wC).1)==(2:Int))
 (cond (ey ((au wA wB wC).2) cQ)
 (k' .normal (gv (ai.b ((bE ((au wA wB wC).2) cQ).2)) (ai.i ((bE ((au wA wB wC).2) cQ).2)) (ai.h ((bE ((au wA wB wC).2) cQ).2)) wH wI wJ wG (lM wD wE wA wB wC)))
 none)
 (cond (((au wA wB wC).1)==(3:Int))
 (cond (Nat.ble ((ae.keys (ar (t:= .node) wD wE)).length+1) bT)
 (cond (xy [(wE,3)] [(wE,3)])
 (k' .normal (gv (ai.b ((au wA wB wC).2)) (ai.i ((au wA wB wC).2)) (ai.h ((au wA wB wC).2)) wH wI wJ wG (lN wD wE)))
 none)
 none)
 (cond (((au wA wB wC).1)==(4:Int))
 (cond (Nat.ble ((ae.kids (ar (t:= .node) wD wE)).length+1) bT)
 (cond ((decide ((0:Int)≤((ae.kids (ar (t:= .node) wD wE)).length:Int)))&&(decide (((ae.kids (ar (t:= .node) wD wE)).length:Int)<(((ae.kids (ar (t:= .node) wD wE))++([(⟨(0:Int),(0:Int),ByteArray.empty,([]:List BA),([]:List ae)⟩:ae)]:List ae)).length:Int))))
 (cond (xy [(wE,4)] [(wE,4)])
 (k' .normal (gv (ai.b ((au wA wB wC).2)) (ai.i ((au wA wB wC).2)) (ai.h ((au wA wB wC).2)) wH wI wJ wG (lO wD wE)))
 none)
 none)
 none)
 (k' .normal (Mp wE (((au wA wB wC).1)==(4:Int)) (ai.b ((au wA wB wC).2)) (ai.i ((au wA wB wC).2)) (ai.h ((au wA wB wC).2)) wH wI wJ wG wD)))))))
 none):=by kernel_rfl
noncomputable def qU {R:Type} (n:Nat) (k:Kt R) (a0:ai) (wE:Nat) (wM:Bool) (wA:List Int) (wB:Int) (wC:Int) (wH:Int) (wI:Int) (wJ:BA) (wG:List BA) (wD:List ae):Option R:=
 (cond ((fun c _=>ay c) (⟨wA,wB,wC⟩:ai) (14:Int))
 (cond (((au wA wB wC).1)==(0:Int))
 (cond ((fun c _=>ay c) ((au wA wB wC).2) (8:Int))
 (eU n k a0 (ai.b ((ag ((au wA wB wC).2) (8:Int)).2)) (ai.i ((ag ((au wA wB wC).2) (8:Int)).2)) (ai.h ((ag ((au wA wB wC).2) (8:Int)).2)) wH wI wJ wG (lK wD wE wA wB wC))
 none)
 (cond (((au wA wB wC).1)==(1:Int))
 (cond (dW ((au wA wB wC).2) cP)
 (eU n k a0 (ai.b ((bf ((au wA wB wC).2) cP).2)) (ai.i ((bf ((au wA wB wC).2) cP).2)) (ai.h ((bf ((au wA wB wC).2) cP).2)) wH wI wJ wG (lL wD wE wA wB wC))
 none)
 (cond (((au wA wB wC).1)==(2:Int))
 (cond (ey ((au wA wB wC).2) cQ)
 (eU n k a0 (ai.b ((bE ((au wA wB wC).2) cQ).2)) (ai.i ((bE ((au wA wB wC).2) cQ).2)) (ai.h ((bE ((au wA wB wC).2) cQ).2)) wH wI wJ wG (lM wD wE wA wB wC))
 none)
 (cond (((au wA wB wC).1)==(3:Int))
 (cond (Nat.ble ((ae.keys (ar (t:= .node) wD wE)).length+1) bT)
 (cond (xy [(wE,3)] [(wE,3)])
 (eU n k a0 (ai.b ((au wA wB wC).2)) (ai.i ((au wA wB wC).2)) (ai.h ((au wA wB wC).2)) wH wI wJ wG (lN wD wE))
 none)
 none)
 (cond (((au wA wB wC).1)==(4:Int))
 (cond (Nat.ble ((ae.kids (ar (t:= .node) wD wE)).length+1) bT)
 (cond ((decide ((0:Int)≤((ae.kids (ar (t:= .node) wD wE)).length:Int)))&&(decide (((ae.kids (ar (t:= .node) wD wE)).length:Int)<(((ae.kids (ar (t:= .node) wD wE))++([(⟨(0:Int),(0:Int),ByteArray.empty,([]:List BA),([]:List ae)⟩:ae)]:List ae)).length:Int))))
 (cond (xy [(wE,4)] [(wE,4)])
 (eU n k a0 (ai.b ((au wA wB wC).2)) (ai.i ((au wA wB wC).2)) (ai.h ((au wA wB wC).2)) wH wI wJ wG (lO wD wE))
 none)
 none)
 none)
 (wb n k a0 wE (((au wA wB wC).1)==(4:Int)) (ai.b ((au wA wB wC).2)) (ai.i ((au wA wB wC).2)) (ai.h ((au wA wB wC).2)) wH wI wJ wG wD))))))
 none)
theorem Mw {R:Type} (n:Nat) (k:Kt R) (a0:ai) (wE:Nat) (wM:Bool) (wA:List Int) (wB:Int) (wC:Int) (wH:Int) (wI:Int) (wJ:BA) (wG:List BA) (wD:List ae):ev dO il n (bl [1,1,1,1] df) (F4 wE wM wA wB wC wH wI wJ wG wD) (aC dO [.bj] [false] true [.cell 2 35] [35] [.d .cur a0] k)=qU n k a0 wE wM wA wB wC wH wI wJ wG wD:=by
 rw [show (bl [1,1,1,1] df) = .seq (bl [1,1,1,1,0] df) (bl [1,1,1,1,1] df) from by kernel_rfl,mM,RP]
 simp only [mN,mO,qS,Mv,qU]
noncomputable def lP (wD:List ae):List ae:=
 ((wD++([(⟨(0:Int),(0:Int),ByteArray.empty,([]:List BA),([]:List ae)⟩:ae)]:List ae)).set (Int.toNat (wD.length:Int)) (⟨(0:Int),(0:Int),ByteArray.empty,([]:List BA),([]:List ae)⟩:ae))
theorem RQ {R:Type} (n:Nat) (k':Kx R) (wO:Bool) (wA:List Int) (wB:Int) (wC:Int) (wH:Int) (wI:Int) (wJ:BA) (wG:List BA) (wD:List ae):ev dO il n (bl [1,1,1,1,1,0] df) (Mq wO wA wB wC wH wI wJ wG wD) k'=
 (k' .normal (yA wA wB wC wH wI wJ wG wD)):=by kernel_rfl
noncomputable def wc {R:Type} (n:Nat) (k:Kt R) (a0:ai) (wO:Bool) (wA:List Int) (wB:Int) (wC:Int) (wH:Int) (wI:Int) (wJ:BA) (wG:List BA) (wD:List ae):Option R:=
 (pq n k a0 wA wB wC wH wI wJ wG wD)
theorem Mx {R:Type} (n:Nat) (k:Kt R) (a0:ai) (wO:Bool) (wA:List Int) (wB:Int) (wC:Int) (wH:Int) (wI:Int) (wJ:BA) (wG:List BA) (wD:List ae):ev dO il n (bl [1,1,1,1,1] df) (Mq wO wA wB wC wH wI wJ wG wD) (aC dO [.bj] [false] true [.cell 2 35] [35] [.d .cur a0] k)=wc n k a0 wO wA wB wC wH wI wJ wG wD:=by
 rw [show (bl [1,1,1,1,1] df) = .seq (bl [1,1,1,1,1,0] df) (bl [1,1,1,1,1,1] df) from by kernel_rfl,mM,RQ]
 simp only [mN,mO,ou,wc]
theorem RR {R:Type} (n:Nat) (k':Kx R) (wM:Bool) (wA:List Int) (wB:Int) (wC:Int) (wH:Int) (wI:Int) (wJ:BA) (wG:List BA) (wD:List ae):ev dO il n (bl [1,1,1,1,0] df) (F5 wM wA wB wC wH wI wJ wG wD) k'=
 (cond ((fun c _=>ay c) (⟨wA,wB,wC⟩:ai) (14:Int))
 (cond (((au wA wB wC).1)==(0:Int))
 (cond ((fun c _=>ay c) ((au wA wB wC).2) (8:Int))
 (k' .normal (gv (ai.b ((ag ((au wA wB wC).2) (8:Int)).2)) (ai.i ((ag ((au wA wB wC).2) (8:Int)).2)) (ai.h ((ag ((au wA wB wC).2) (8:Int)).2)) (IntKind.wrap .i64 (((ag ((au wA wB wC).2) (8:Int)).1)-(1:Int))) wI wJ wG wD))
 none)
 (cond (((au wA wB wC).1)==(1:Int))
 (cond (dW ((au wA wB wC).2) cP)
 (k' .normal (gv (ai.b ((bf ((au wA wB wC).2) cP).2)) (ai.i ((bf ((au wA wB wC).2) cP).2)) (ai.h ((bf ((au wA wB wC).2) cP).2)) wH ((bf ((au wA wB wC).2) cP).1) wJ wG wD))
 none)
 (cond (((au wA wB wC).1)==(2:Int))
 (cond (ey ((au wA wB wC).2) cQ)
 (k' .normal (gv (ai.b ((bE ((au wA wB wC).2) cQ).2)) (ai.i ((bE ((au wA wB wC).2) cQ).2)) (ai.h ((bE ((au wA wB wC).2) cQ).2)) wH wI ((bE ((au wA wB wC).2) cQ).1) wG wD))
 none)
 (cond (((au wA wB wC).1)==(3:Int))
 (cond (Nat.ble (wG.length+1) bT)
 (k' .normal (gv (ai.b ((au wA wB wC).2)) (ai.i ((au wA wB wC).2)) (ai.h ((au wA wB wC).2)) wH wI wJ (wG++([(bs [97])]:List BA)) wD))
 none)
 (cond (((au wA wB wC).1)==(4:Int))
 (cond (Nat.ble (wD.length+1) bT)
 (cond ((decide ((0:Int)≤(wD.length:Int)))&&(decide ((wD.length:Int)<((wD++([(⟨(0:Int),(0:Int),ByteArray.empty,([]:List BA),([]:List ae)⟩:ae)]:List ae)).length:Int))))
 (k' .normal (gv (ai.b ((au wA wB wC).2)) (ai.i ((au wA wB wC).2)) (ai.h ((au wA wB wC).2)) wH wI wJ wG (lP wD)))
 none)
 none)
 (k' .normal (Mq (((au wA wB wC).1)==(4:Int)) (ai.b ((au wA wB wC).2)) (ai.i ((au wA wB wC).2)) (ai.h ((au wA wB wC).2)) wH wI wJ wG wD)))))))
 none):=by kernel_rfl
noncomputable def qV {R:Type} (n:Nat) (k:Kt R) (a0:ai) (wM:Bool) (wA:List Int) (wB:Int) (wC:Int) (wH:Int) (wI:Int) (wJ:BA) (wG:List BA) (wD:List ae):Option R:=
 (cond ((fun c _=>ay c) (⟨wA,wB,wC⟩:ai) (14:Int))
 (cond (((au wA wB wC).1)==(0:Int))
 (cond ((fun c _=>ay c) ((au wA wB wC).2) (8:Int))
 (eU n k a0 (ai.b ((ag ((au wA wB wC).2) (8:Int)).2)) (ai.i ((ag ((au wA wB wC).2) (8:Int)).2)) (ai.h ((ag ((au wA wB wC).2) (8:Int)).2)) (IntKind.wrap .i64 (((ag ((au wA wB wC).2) (8:Int)).1)-(1:Int))) wI wJ wG wD)
 none)
 (cond (((au wA wB wC).1)==(1:Int))
 (cond (dW ((au wA wB wC).2) cP)
 (eU n k a0 (ai.b ((bf ((au wA wB wC).2) cP).2)) (ai.i ((bf ((au wA wB wC).2) cP).2)) (ai.h ((bf ((au wA wB wC).2) cP).2)) wH ((bf ((au wA wB wC).2) cP).1) wJ wG wD)
 none)
 (cond (((au wA wB wC).1)==(2:Int))
 (cond (ey ((au wA wB wC).2) cQ)
 (eU n k a0 (ai.b ((bE ((au wA wB wC).2) cQ).2)) (ai.i ((bE ((au wA wB wC).2) cQ).2)) (ai.h ((bE ((au wA wB wC).2) cQ).2)) wH wI ((bE ((au wA wB wC).2) cQ).1) wG wD)
 none)
 (cond (((au wA wB wC).1)==(3:Int))
 (cond (Nat.ble (wG.length+1) bT)
 (eU n k a0 (ai.b ((au wA wB wC).2)) (ai.i ((au wA wB wC).2)) (ai.h ((au wA wB wC).2)) wH wI wJ (wG++([(bs [97])]:List BA)) wD)
 none)
 (cond (((au wA wB wC).1)==(4:Int))
 (cond (Nat.ble (wD.length+1) bT)
 (cond ((decide ((0:Int)≤(wD.length:Int)))&&(decide ((wD.length:Int)<((wD++([(⟨(0:Int),(0:Int),ByteArray.empty,([]:List BA),([]:List ae)⟩:ae)]:List ae)).length:Int))))
 (eU n k a0 (ai.b ((au wA wB wC).2)) (ai.i ((au wA wB wC).2)) (ai.h ((au wA wB wC).2)) wH wI wJ wG (lP wD))
 none)
 none)
 (wc n k a0 (((au wA wB wC).1)==(4:Int)) (ai.b ((au wA wB wC).2)) (ai.i ((au wA wB wC).2)) (ai.h ((au wA wB wC).2)) wH wI wJ wG wD))))))
 none)
theorem My {R:Type} (n:Nat) (k:Kt R) (a0:ai) (wM:Bool) (wA:List Int) (wB:Int) (wC:Int) (wH:Int) (wI:Int) (wJ:BA) (wG:List BA) (wD:List ae):ev dO il n (bl [1,1,1,1] df) (F5 wM wA wB wC wH wI wJ wG wD) (aC dO [.bj] [false] true [.cell 2 35] [35] [.d .cur a0] k)=qV n k a0 wM wA wB wC wH wI wJ wG wD:=by
 rw [show (bl [1,1,1,1] df) = .seq (bl [1,1,1,1,0] df) (bl [1,1,1,1,1] df) from by kernel_rfl,mM,RR]
 simp only [mN,mO,qS,Mx,qV]
noncomputable def aU (a0:ai):ae×ai:=(dT a0 (3:Int))
noncomputable def jC (a0:ai):Bool×ai:=(aj ((aU a0).2) (2:Int))
noncomputable def dz (a0:ai):Int×ai:=(ag ((jC a0).2) ((ae.kids ((aU a0).1)).length:Int))
noncomputable def ov (a0:ai):ae:=(ar (t:= .node) (ae.kids ((aU a0).1)) (Int.toNat ((dz a0).1)))
noncomputable def jD (a0:ai):Bool×ai:=(aj ((dz a0).2) (2:Int))
noncomputable def eK (a0:ai):Int×ai:=(ag ((jD a0).2) ((ae.kids (ov a0)).length:Int))
noncomputable def jE (a0:ai):Bool×ai:=(aj ((eK a0).2) (2:Int))
noncomputable def py (a0:ai):ae:=(ar (t:= .node) (ae.kids (ov a0)) (Int.toNat ((eK a0).1)))
noncomputable def jQ (a0:ai):Int×ai:=(ag ((jE a0).2) ((ae.kids (py a0)).length:Int))
theorem mW {R:Type} (n:Nat) (k:Kt R) (a0:ai):aM dO il (n+4) df [.bj] [false] true [.cell 2 35] [35] [.d .cur a0] k=
 (cond (HQ a0 (3:Int))
 (cond (decide (((ae.kids ((aU a0).1)).length:Int)>(0:Int)))
 (cond ((fun c _=>ay c) ((aU a0).2) (2:Int))
 (cond (!((jC a0).1))
 (cond ((fun c _=>ay c) ((jC a0).2) ((ae.kids ((aU a0).1)).length:Int))
 (cond ((decide ((0:Int)≤((dz a0).1)))&&(decide (((dz a0).1)<((ae.kids ((aU a0).1)).length:Int))))
 (cond (decide (((ae.kids (ov a0)).length:Int)>(0:Int)))
 (cond ((fun c _=>ay c) ((dz a0).2) (2:Int))
 (cond (!((jD a0).1))
 (cond ((fun c _=>ay c) ((jD a0).2) ((ae.kids (ov a0)).length:Int))
 (cond ((decide ((0:Int)≤((eK a0).1)))&&(decide (((eK a0).1)<((ae.kids (ov a0)).length:Int))))
 (cond (decide (((ae.kids (py a0)).length:Int)>(0:Int)))
 (cond ((fun c _=>ay c) ((eK a0).2) (2:Int))
 (cond (!((jE a0).1))
 (cond ((fun c _=>ay c) ((jE a0).2) ((ae.kids (py a0)).length:Int))
 (cond ((decide ((0:Int)≤((jQ a0).1)))&&(decide (((jQ a0).1)<((ae.kids (py a0)).length:Int))))
 (sL n k a0 (Int.toNat ((dz a0).1)) (Int.toNat ((eK a0).1)) (Int.toNat ((jQ a0).1)) false (ai.b ((jQ a0).2)) (ai.i ((jQ a0).2)) (ai.h ((jQ a0).2)) (ae.kind ((aU a0).1)) (ae.n ((aU a0).1)) (ae.s ((aU a0).1)) (ae.keys ((aU a0).1)) (ae.kids ((aU a0).1)))
 none)
 none)
 (qT n k a0 (Int.toNat ((dz a0).1)) (Int.toNat ((eK a0).1)) (!((jE a0).1)) (ai.b ((jE a0).2)) (ai.i ((jE a0).2)) (ai.h ((jE a0).2)) (ae.kind ((aU a0).1)) (ae.n ((aU a0).1)) (ae.s ((aU a0).1)) (ae.keys ((aU a0).1)) (ae.kids ((aU a0).1))))
 none)
 (qT n k a0 (Int.toNat ((dz a0).1)) (Int.toNat ((eK a0).1)) false (ai.b ((eK a0).2)) (ai.i ((eK a0).2)) (ai.h ((eK a0).2)) (ae.kind ((aU a0).1)) (ae.n ((aU a0).1)) (ae.s ((aU a0).1)) (ae.keys ((aU a0).1)) (ae.kids ((aU a0).1))))
 none)
 none)
 (qU n k a0 (Int.toNat ((dz a0).1)) (!((jD a0).1)) (ai.b ((jD a0).2)) (ai.i ((jD a0).2)) (ai.h ((jD a0).2)) (ae.kind ((aU a0).1)) (ae.n ((aU a0).1)) (ae.s ((aU a0).1)) (ae.keys ((aU a0).1)) (ae.kids ((aU a0).1))))
 none)
 (qU n k a0 (Int.toNat ((dz a0).1)) false (ai.b ((dz a0).2)) (ai.i ((dz a0).2)) (ai.h ((dz a0).2)) (ae.kind ((aU a0).1)) (ae.n ((aU a0).1)) (ae.s ((aU a0).1)) (ae.keys ((aU a0).1)) (ae.kids ((aU a0).1))))
 none)
 none)
 (qV n k a0 (!((jC a0).1)) (ai.b ((jC a0).2)) (ai.i ((jC a0).2)) (ai.h ((jC a0).2)) (ae.kind ((aU a0).1)) (ae.n ((aU a0).1)) (ae.s ((aU a0).1)) (ae.keys ((aU a0).1)) (ae.kids ((aU a0).1))))
 none)
 (qV n k a0 false (ai.b ((aU a0).2)) (ai.i ((aU a0).2)) (ai.h ((aU a0).2)) (ae.kind ((aU a0).1)) (ae.n ((aU a0).1)) (ae.s ((aU a0).1)) (ae.keys ((aU a0).1)) (ae.kids ((aU a0).1))))
 none):=by
  refine Eq.trans (b:=(cond (HQ a0 (3:Int))
  (cond (decide (((ae.kids ((aU a0).1)).length:Int)>(0:Int)))
   (cond ((fun c _=>ay c) ((aU a0).2) (2:Int))
    (cond (!((jC a0).1))
     (cond ((fun c _=>ay c) ((jC a0).2) ((ae.kids ((aU a0).1)).length:Int))
      (cond ((decide ((0:Int)≤((dz a0).1)))&&(decide (((dz a0).1)<((ae.kids ((aU a0).1)).length:Int))))
       (cond (decide (((ae.kids (ov a0)).length:Int)>(0:Int)))
        (cond ((fun c _=>ay c) ((dz a0).2) (2:Int))
         (cond (!((jD a0).1))
          (cond ((fun c _=>ay c) ((jD a0).2) ((ae.kids (ov a0)).length:Int))
           (cond ((decide ((0:Int)≤((eK a0).1)))&&(decide (((eK a0).1)<((ae.kids (ov a0)).length:Int))))
            (cond (decide (((ae.kids (py a0)).length:Int)>(0:Int)))
             (cond ((fun c _=>ay c) ((eK a0).2) (2:Int))
              (cond (!((jE a0).1))
               (cond ((fun c _=>ay c) ((jE a0).2) ((ae.kids (py a0)).length:Int))
                (cond ((decide ((0:Int)≤((jQ a0).1)))&&(decide (((jQ a0).1)<((ae.kids (py a0)).length:Int))))
                 (ev dO il n (bl [1,1,1,1] df) (Mm (Int.toNat ((dz a0).1)) (Int.toNat ((eK a0).1)) (Int.toNat ((jQ a0).1)) false (ai.b ((jQ a0).2)) (ai.i ((jQ a0).2)) (ai.h ((jQ a0).2)) (ae.kind ((aU a0).1)) (ae.n ((aU a0).1)) (ae.s ((aU a0).1)) (ae.keys ((aU a0).1)) (ae.kids ((aU a0).1))) (aC dO [.bj] [false] true [.cell 2 35] [35] [.d .cur a0] k))
                 none)
                none)
               (ev dO il n (bl [1,1,1,1] df) (F3 (Int.toNat ((dz a0).1)) (Int.toNat ((eK a0).1)) (!((jE a0).1)) (ai.b ((jE a0).2)) (ai.i ((jE a0).2)) (ai.h ((jE a0).2)) (ae.kind ((aU a0).1)) (ae.n ((aU a0).1)) (ae.s ((aU a0).1)) (ae.keys ((aU a0).1)) (ae.kids ((aU a0).1))) (aC dO [.bj] [false] true [.cell 2 35] [35] [.d .cur a0] k)))
              none)
             (ev dO il n (bl [1,1,1,1] df) (F3 (Int.toNat ((dz a0).1)) (Int.toNat ((eK a0).1)) false (ai.b ((eK a0).2)) (ai.i ((eK a0).2)) (ai.h ((eK a0).2)) (ae.kind ((aU a0).1)) (ae.n ((aU a0).1)) (ae.s ((aU a0).1)) (ae.keys ((aU a0).1)) (ae.kids ((aU a0).1))) (aC dO [.bj] [false] true [.cell 2 35] [35] [.d .cur a0] k)))
            none)
           none)
          (ev dO il n (bl [1,1,1,1] df) (F4 (Int.toNat ((dz a0).1)) (!((jD a0).1)) (ai.b ((jD a0).2)) (ai.i ((jD a0).2)) (ai.h ((jD a0).2)) (ae.kind ((aU a0).1)) (ae.n ((aU a0).1)) (ae.s ((aU a0).1)) (ae.keys ((aU a0).1)) (ae.kids ((aU a0).1))) (aC dO [.bj] [false] true [.cell 2 35] [35] [.d .cur a0] k)))
         none)
        (ev dO il n (bl [1,1,1,1] df) (F4 (Int.toNat ((dz a0).1)) false (ai.b ((dz a0).2)) (ai.i ((dz a0).2)) (ai.h ((dz a0).2)) (ae.kind ((aU a0).1)) (ae.n ((aU a0).1)) (ae.s ((aU a0).1)) (ae.keys ((aU a0).1)) (ae.kids ((aU a0).1))) (aC dO [.bj] [false] true [.cell 2 35] [35] [.d .cur a0] k)))
       none)
      none)
     (ev dO il n (bl [1,1,1,1] df) (F5 (!((jC a0).1)) (ai.b ((jC a0).2)) (ai.i ((jC a0).2)) (ai.h ((jC a0).2)) (ae.kind ((aU a0).1)) (ae.n ((aU a0).1)) (ae.s ((aU a0).1)) (ae.keys ((aU a0).1)) (ae.kids ((aU a0).1))) (aC dO [.bj] [false] true [.cell 2 35] [35] [.d .cur a0] k)))
    none)
   (ev dO il n (bl [1,1,1,1] df) (F5 false (ai.b ((aU a0).2)) (ai.i ((aU a0).2)) (ai.h ((aU a0).2)) (ae.kind ((aU a0).1)) (ae.n ((aU a0).1)) (ae.s ((aU a0).1)) (ae.keys ((aU a0).1)) (ae.kids ((aU a0).1))) (aC dO [.bj] [false] true [.cell 2 35] [35] [.d .cur a0] k)))
  none)) (by kernel_rfl) ?_
  simp only [Ms,Mu,Mw,My]
theorem Mz (a0:ai) (t:ae) (c:ai) (wF:Nat) (wL:Nat) (wE:Nat) (wM:Bool) (hg:ay c=true) (h0:rL t=true) (h1:rL (ar (t:= .node) t.kids wF)=true) (h2:rL (ar (t:= .node) (ae.kids (ar (t:= .node) t.kids wF)) wL)=true) (h3:rL (ar (t:= .node) (ae.kids (ar (t:= .node) (ae.kids (ar (t:= .node) t.kids wF)) wL)) wE)=true):∃o:ae×ai,(nh 3 o.1=true∧ay o.2=true)∧∀ {R:Type} (n:Nat) (k:Kt R),sL n k a0 wF wL wE wM c.b c.i c.h t.kind t.n t.s t.keys t.kids=k [.d .node o.1,.d .cur o.2]:=by
 cases e0:(((ag c (14:Int)).1)==(0:Int))
 cases e1:(((ag c (14:Int)).1)==(1:Int))
 cases e2:(((ag c (14:Int)).1)==(2:Int))
 cases e3:(((ag c (14:Int)).1)==(3:Int))
 cases e4:(((ag c (14:Int)).1)==(4:Int))
 all_goals
  refine ⟨(?_,?_),?_,?_⟩
  rotate_left 3
  ·intro R n k;simp (decide:=true) (maxDischargeDepth:=60) only [au,cP,cQ,sL,eU,pq,v8,qT,wa,qU,wb,qV,wc, *,bh,bw,cD,cp,ca,cn,cond_true,cond_false,Bool.not_true,Bool.not_false,v7,mT,lI,fY,kC,lg,ju,jv,jx,kZ,k6,jy,sB,sC,jz,jA,n9,bu,aT,Bool.and_self,ph,pj,pk,pn,qR,po,pr,pv,pw,px,mU,lJ,lK,lL,lM,lN,mV,lO,lP,n7,wN,wS,n8,wK,aT,dQ,bu];exact rfl
  simp (decide:=true) (maxDischargeDepth:=60) only [au,cP,cQ, *,bh,bw,cD,cp,ca,cn,ez,fp,gI,fq,and_self,v7,mT,lI,fY,kC,lg,ju,jv,jx,kZ,k6,jy,sB,sC,jz,jA,n9,bu,aT,Bool.and_self,ph,pj,pk,pn,qR,po,pr,pv,pw,px,mU,lJ,lK,lL,lM,lN,mV,lO,lP,n7,wN,wS,n8,wK,aT,dQ,bu]
theorem Cg (a0:ai) (t:ae) (c:ai) (wF:Nat) (wE:Nat) (wM:Bool) (hg:ay c=true) (h0:rL t=true) (h1:rL (ar (t:= .node) t.kids wF)=true) (h2:rL (ar (t:= .node) (ae.kids (ar (t:= .node) t.kids wF)) wE)=true):∃o:ae×ai,(nh 3 o.1=true∧ay o.2=true)∧∀ {R:Type} (n:Nat) (k:Kt R),qT n k a0 wF wE wM c.b c.i c.h t.kind t.n t.s t.keys t.kids=k [.d .node o.1,.d .cur o.2]:=by
 cases e0:(((ag c (14:Int)).1)==(0:Int))
 cases e1:(((ag c (14:Int)).1)==(1:Int))
 cases e2:(((ag c (14:Int)).1)==(2:Int))
 cases e3:(((ag c (14:Int)).1)==(3:Int))
 cases e4:(((ag c (14:Int)).1)==(4:Int))
 all_goals
  refine ⟨(?_,?_),?_,?_⟩
  rotate_left 3
  ·intro R n k;simp (decide:=true) (maxDischargeDepth:=60) only [au,cP,cQ,sL,eU,pq,v8,qT,wa,qU,wb,qV,wc, *,bh,bw,cD,cp,ca,cn,cond_true,cond_false,Bool.not_true,Bool.not_false,v7,mT,lI,fY,kC,lg,ju,jv,jx,kZ,k6,jy,sB,sC,jz,jA,n9,bu,aT,Bool.and_self,ph,pj,pk,pn,qR,po,pr,pv,pw,px,mU,lJ,lK,lL,lM,lN,mV,lO,lP,n7,wN,wS,n8,wK,aT,dQ,bu];exact rfl
  simp (decide:=true) (maxDischargeDepth:=60) only [au,cP,cQ, *,bh,bw,cD,cp,ca,cn,ez,fp,gI,fq,and_self,v7,mT,lI,fY,kC,lg,ju,jv,jx,kZ,k6,jy,sB,sC,jz,jA,n9,bu,aT,Bool.and_self,ph,pj,pk,pn,qR,po,pr,pv,pw,px,mU,lJ,lK,lL,lM,lN,mV,lO,lP,n7,wN,wS,n8,wK,aT,dQ,bu]
theorem Ch (a0:ai) (t:ae) (c:ai) (wE:Nat) (wM:Bool) (hg:ay c=true) (h0:rL t=true) (h1:rL (ar (t:= .node) t.kids wE)=true):∃o:ae×ai,(nh 3 o.1=true∧ay o.2=true)∧∀ {R:Type} (n:Nat) (k:Kt R),qU n k a0 wE wM c.b c.i c.h t.kind t.n t.s t.keys t.kids=k [.d .node o.1,.d .cur o.2]:=by
 cases e0:(((ag c (14:Int)).1)==(0:Int))
 cases e1:(((ag c (14:Int)).1)==(1:Int))
 cases e2:(((ag c (14:Int)).1)==(2:Int))
 cases e3:(((ag c (14:Int)).1)==(3:Int))
 cases e4:(((ag c (14:Int)).1)==(4:Int))
 all_goals
  refine ⟨(?_,?_),?_,?_⟩
  rotate_left 3
  ·intro R n k;simp (decide:=true) (maxDischargeDepth:=60) only [au,cP,cQ,sL,eU,pq,v8,qT,wa,qU,wb,qV,wc, *,bh,bw,cD,cp,ca,cn,cond_true,cond_false,Bool.not_true,Bool.not_false,v7,mT,lI,fY,kC,lg,ju,jv,jx,kZ,k6,jy,sB,sC,jz,jA,n9,bu,aT,Bool.and_self,ph,pj,pk,pn,qR,po,pr,pv,pw,px,mU,lJ,lK,lL,lM,lN,mV,lO,lP,n7,wN,wS,n8,wK,aT,dQ,bu];exact rfl
  simp (decide:=true) (maxDischargeDepth:=60) only [au,cP,cQ, *,bh,bw,cD,cp,ca,cn,ez,fp,gI,fq,and_self,v7,mT,lI,fY,kC,lg,ju,jv,jx,kZ,k6,jy,sB,sC,jz,jA,n9,bu,aT,Bool.and_self,ph,pj,pk,pn,qR,po,pr,pv,pw,px,mU,lJ,lK,lL,lM,lN,mV,lO,lP,n7,wN,wS,n8,wK,aT,dQ,bu]
theorem Ci (a0:ai) (t:ae) (c:ai) (wM:Bool) (hg:ay c=true) (h0:rL t=true):∃o:ae×ai,(nh 3 o.1=true∧ay o.2=true)∧∀ {R:Type} (n:Nat) (k:Kt R),qV n k a0 wM c.b c.i c.h t.kind t.n t.s t.keys t.kids=k [.d .node o.1,.d .cur o.2]:=by
 cases e0:(((ag c (14:Int)).1)==(0:Int))
 cases e1:(((ag c (14:Int)).1)==(1:Int))
 cases e2:(((ag c (14:Int)).1)==(2:Int))
 cases e3:(((ag c (14:Int)).1)==(3:Int))
 cases e4:(((ag c (14:Int)).1)==(4:Int))
 all_goals
  refine ⟨(?_,?_),?_,?_⟩
  rotate_left 3
  ·intro R n k;simp (decide:=true) (maxDischargeDepth:=60) only [au,cP,cQ,sL,eU,pq,v8,qT,wa,qU,wb,qV,wc, *,bh,bw,cD,cp,ca,cn,cond_true,cond_false,Bool.not_true,Bool.not_false,v7,mT,lI,fY,kC,lg,ju,jv,jx,kZ,k6,jy,sB,sC,jz,jA,n9,bu,aT,Bool.and_self,ph,pj,pk,pn,qR,po,pr,pv,pw,px,mU,lJ,lK,lL,lM,lN,mV,lO,lP,n7,wN,wS,n8,wK,aT,dQ,bu];exact rfl
  simp (decide:=true) (maxDischargeDepth:=60) only [au,cP,cQ, *,bh,bw,cD,cp,ca,cn,ez,fp,gI,fq,and_self,v7,mT,lI,fY,kC,lg,ju,jv,jx,kZ,k6,jy,sB,sC,jz,jA,n9,bu,aT,Bool.and_self,ph,pj,pk,pn,qR,po,pr,pv,pw,px,mU,lJ,lK,lL,lM,lN,mV,lO,lP,n7,wN,wS,n8,wK,aT,dQ,bu]
def Um (a0:ai) (o:ae×ai):Prop:=(fun _ o=>nh 3 o.1=true∧ay o.2=true) a0 o∧∃n:Nat,∀ {R:Type} (k:Kt R),aM dO il n df [.bj] [false] true [.cell 2 35] [35] [.d .cur a0] k=k [.d .node o.1,.d .cur o.2]
theorem Ww (a0:ai) (hg:ay a0=true):∃o:ae×ai,(fun _ o=>nh 3 o.1=true∧ay o.2=true) a0 o∧∃n:Nat,∀ {R:Type} (k:Kt R),aM dO il n df [.bj] [false] true [.cell 2 35] [35] [.d .cur a0] k=k [.d .node o.1,.d .cur o.2]:=by
 have t0:=mT hg
 have g0:(HQ a0 (3:Int))=true:=v7 hg
 cases e0:(decide (((ae.kids ((aU a0).1)).length:Int)>(0:Int)))
 rotate_left
 have g1:((fun c _=>ay c) ((aU a0).2) (2:Int))=true:=by first | exact lI hg | exact bw _ _ hg | exact bh _ _ hg
 cases e1:(!((jC a0).1))
 rotate_left
 have g2:((fun c _=>ay c) ((jC a0).2) ((ae.kids ((aU a0).1)).length:Int))=true:=by first | exact lI hg | exact bw _ _ g1 | exact bh _ _ g1
 have g3:((decide ((0:Int)≤((dz a0).1)))&&(decide (((dz a0).1)<((ae.kids ((aU a0).1)).length:Int))))=true:=fY g2 e0
 have t1:=kC t0 g2 e0
 cases e2:(decide (((ae.kids (ov a0)).length:Int)>(0:Int)))
 rotate_left
 have g4:((fun c _=>ay c) ((dz a0).2) (2:Int))=true:=by first | exact lI hg | exact bw _ _ g2 | exact bh _ _ g2
 cases e3:(!((jD a0).1))
 rotate_left
 have g5:((fun c _=>ay c) ((jD a0).2) ((ae.kids (ov a0)).length:Int))=true:=by first | exact lI hg | exact bw _ _ g4 | exact bh _ _ g4
 have g6:((decide ((0:Int)≤((eK a0).1)))&&(decide (((eK a0).1)<((ae.kids (ov a0)).length:Int))))=true:=fY g5 e2
 have t2:=kC t1 g5 e2
 cases e4:(decide (((ae.kids (py a0)).length:Int)>(0:Int)))
 rotate_left
 have g7:((fun c _=>ay c) ((eK a0).2) (2:Int))=true:=by first | exact lI hg | exact bw _ _ g5 | exact bh _ _ g5
 cases e5:(!((jE a0).1))
 rotate_left
 have g8:((fun c _=>ay c) ((jE a0).2) ((ae.kids (py a0)).length:Int))=true:=by first | exact lI hg | exact bw _ _ g7 | exact bh _ _ g7
 have g9:((decide ((0:Int)≤((jQ a0).1)))&&(decide (((jQ a0).1)<((ae.kids (py a0)).length:Int))))=true:=fY g8 e4
 have t3:=kC t2 g8 e4
 ·refine Exists.elim (Mz a0 ((aU a0).1) ((jQ a0).2) (Int.toNat ((dz a0).1)) (Int.toNat ((eK a0).1)) (Int.toNat ((jQ a0).1)) false (by first | exact lI hg | exact bw _ _ g8 | exact bh _ _ g8) t0 t1 t2 t3) fun o ho=>⟨o,ho.1,0+4,fun {R} k=> ?_⟩
  rw [mW]
  simp only [hg,e0,e1,e2,e3,e4,e5,g0,g1,g2,g3,g4,g5,g6,g7,g8,g9,cond_true,cond_false]
  exact ho.2 _ k
 ·refine Exists.elim (Ci a0 ((aU a0).1) ((aU a0).2) false (by first | exact lI hg | exact bw _ _ hg | exact bh _ _ hg) t0) fun o ho=>⟨o,ho.1,0+4,fun {R} k=> ?_⟩
  rw [mW]
  simp only [hg,e0,g0,cond_true,cond_false]
  exact ho.2 _ k
 ·refine Exists.elim (Ci a0 ((aU a0).1) ((jC a0).2) (!((jC a0).1)) (by first | exact lI hg | exact bw _ _ g1 | exact bh _ _ g1) t0) fun o ho=>⟨o,ho.1,0+4,fun {R} k=> ?_⟩
  rw [mW]
  simp only [hg,e0,e1,g0,g1,cond_true,cond_false]
  exact ho.2 _ k
 ·refine Exists.elim (Ch a0 ((aU a0).1) ((dz a0).2) (Int.toNat ((dz a0).1)) false (by first | exact lI hg | exact bw _ _ g2 | exact bh _ _ g2) t0 t1) fun o ho=>⟨o,ho.1,0+4,fun {R} k=> ?_⟩
  rw [mW]
  simp only [hg,e0,e1,e2,g0,g1,g2,g3,cond_true,cond_false]
  exact ho.2 _ k
 ·refine Exists.elim (Ch a0 ((aU a0).1) ((jD a0).2) (Int.toNat ((dz a0).1)) (!((jD a0).1)) (by first | exact lI hg | exact bw _ _ g4 | exact bh _ _ g4) t0 t1) fun o ho=>⟨o,ho.1,0+4,fun {R} k=> ?_⟩
  rw [mW]
  simp only [hg,e0,e1,e2,e3,g0,g1,g2,g3,g4,cond_true,cond_false]
  exact ho.2 _ k
 ·refine Exists.elim (Cg a0 ((aU a0).1) ((eK a0).2) (Int.toNat ((dz a0).1)) (Int.toNat ((eK a0).1)) false (by first | exact lI hg | exact bw _ _ g5 | exact bh _ _ g5) t0 t1 t2) fun o ho=>⟨o,ho.1,0+4,fun {R} k=> ?_⟩
  rw [mW]
  simp only [hg,e0,e1,e2,e3,e4,g0,g1,g2,g3,g4,g5,g6,cond_true,cond_false]
  exact ho.2 _ k
 ·refine Exists.elim (Cg a0 ((aU a0).1) ((jE a0).2) (Int.toNat ((dz a0).1)) (Int.toNat ((eK a0).1)) (!((jE a0).1)) (by first | exact lI hg | exact bw _ _ g7 | exact bh _ _ g7) t0 t1 t2) fun o ho=>⟨o,ho.1,0+4,fun {R} k=> ?_⟩
  rw [mW]
  simp only [hg,e0,e1,e2,e3,e4,e5,g0,g1,g2,g3,g4,g5,g6,g7,cond_true,cond_false]
  exact ho.2 _ k
theorem MA (a0:ai):Nonempty {o:ae×ai // ay a0=true→Um a0 o}:=by
 by_cases hg:ay a0=true
 ·obtain ⟨o,ho⟩:=Ww a0 hg
  exact ⟨⟨o,fun _=>ho⟩⟩
 ·exact ⟨⟨((zero .node),(zero .cur)),fun h=>absurd h hg⟩⟩
noncomputable def nj (a0:ai):ae×ai:=(Classical.choice (MA a0)).val
theorem MB (a0:ai) (hg:ay a0=true):Um a0 (nj a0):=(Classical.choice (MA a0)).property hg
theorem Cj (a0:ai) (hg:ay a0=true):(fun _ o=>nh 3 o.1=true∧ay o.2=true) a0 (nj a0):=(MB a0 hg).1
theorem gU (a0:ai) (hg:ay a0=true):ay (nj a0).2=true:=by
  have h:=Cj a0 hg
  first | exact h | exact h.2 | exact h.2.2 | exact h.2.2.2
theorem MC (a0:ai) (hg:ay a0=true):∃aJ rounds,∀ {R:Type} (k:Kt R),aM dO aJ rounds df [.bj] [false] true [.cell 2 35] [35] [.d .cur a0] k=k [.d .node ((nj a0).1),.d .cur ((nj a0).2)]:=by
 obtain ⟨n,hn⟩:=(MB a0 hg).2
 exact ⟨il,n,hn⟩
noncomputable def q92:Qt
 | [.d .cur a0]=>some ((ay a0),[.d .node ((nj a0).1),.d .cur ((nj a0).2)])
 | _=>none
noncomputable def s92:Gm.Spec:=Gm.Spec.of [.bj] [false] true q92
theorem Wx:Gm.Good Tryd.prog (92,s92):=by
 have hl:∀x∈[(72,Ip),(76,Wv),(86,Ay),(98,QU),(101,Hu)],Gm.Good Tryd.prog x:=bJ.2 ⟨rQ,bJ.2 ⟨D5,bJ.2 ⟨mS,bJ.2 ⟨zU,bJ.2 ⟨zV,im⟩⟩⟩⟩⟩
 refine ⟨⟨aK (aV.env hl) (b9.cF hl) Tryd.func92 (by kernel_rfl:Tryd.f92.body=some df) [35] (by kernel_rfl) ?_,_,Tryd.func92,by kernel_rfl,of_decide_eq_true (by kernel_rfl)⟩,Gm.Spec.aB _ _ _ _⟩
 intro ds outs h
 unfold q92 at h
 split at h
 ·simp only [Option.some.injEq,Prod.mk.injEq] at h;obtain ⟨hg,h⟩:=h;cases h;exact MC _ hg
 ·cases h
noncomputable def q97:Qt
 | [.d .node a0]=>some ((Aw a0),[.d (.sl (.sl .str)) (aN a0)])
 | _=>none
noncomputable def Wy:List Dt→Nat
 | [.d .node a0]=>ao a0
 | _=>0
noncomputable def aau (N:Nat):Gm.Spec:=Gm.Spec.of [.ro] [false] true (nS Wy N q97)
noncomputable def yB (y0:Int) (y1:BA) (y2:Int) (y3:Int) (y4:Int) (y5:BA) (y6:List BA) (y7:List ae) (y8:List (List BA)) (y9:List (List BA)):St:=⟨[(1,.c (.one (.pt 1 0))),(3,.c (.one (.h 576 0 0 []))),(4,.c (.one (.v (.int .i64 y0)))),(5,.c (.one (.v (.string y1)))),(6,.c (.one (.h 2496 0 0 []))),(7,.c (.one (.v (.int .i64 y2))))],[(1,⟨.node,[.v (.int .i64 y3),.v (.int .i64 y4),.v (.string y5),.ro .str y6,.ro .node y7]⟩)],[(576,.live ⟨(.sl .str),.deep,0,[],y8⟩),(2496,.live ⟨(.sl .str),.deep,0,[],y9⟩)]⟩
noncomputable def MD (y0:Int) (y1:BA) (y2:Int) (y3:Bool) (y4:Int) (y5:Int) (y6:BA) (y7:List BA) (y8:List ae) (y9:List (List BA)) (fc:List (List BA)):St:=⟨[(1,.c (.one (.pt 1 0))),(3,.c (.one (.h 576 0 0 []))),(4,.c (.one (.v (.int .i64 y0)))),(5,.c (.one (.v (.string y1)))),(6,.c (.one (.h 2496 0 0 []))),(7,.c (.one (.v (.int .i64 y2)))),(43,.c (.one (.v (.bool y3))))],[(1,⟨.node,[.v (.int .i64 y4),.v (.int .i64 y5),.v (.string y6),.ro .str y7,.ro .node y8]⟩)],[(576,.live ⟨(.sl .str),.deep,0,[],y9⟩),(2496,.live ⟨(.sl .str),.deep,0,[],fc⟩)]⟩
noncomputable def we (y0:Int) (y1:Int) (y2:Int) (y3:BA) (y4:List BA) (y5:List ae) (y6:List (List BA)):St:=⟨[(1,.c (.one (.pt 1 0))),(3,.c (.one (.h 576 0 0 []))),(4,.c (.one (.v (.int .i64 y0))))],[(1,⟨.node,[.v (.int .i64 y1),.v (.int .i64 y2),.v (.string y3),.ro .str y4,.ro .node y5]⟩)],[(576,.live ⟨(.sl .str),.deep,0,[],y6⟩)]⟩
noncomputable def F6 (y0:Int) (y1:Bool) (y2:Int) (y3:Int) (y4:BA) (y5:List BA) (y6:List ae) (y7:List (List BA)):St:=⟨[(1,.c (.one (.pt 1 0))),(3,.c (.one (.h 576 0 0 []))),(4,.c (.one (.v (.int .i64 y0)))),(14,.c (.one (.v (.bool y1))))],[(1,⟨.node,[.v (.int .i64 y2),.v (.int .i64 y3),.v (.string y4),.ro .str y5,.ro .node y6]⟩)],[(576,.live ⟨(.sl .str),.deep,0,[],y7⟩)]⟩
noncomputable def rU:Code:=(Tryd.f97.body).getD .skip
def s8:Nat→Kp:=fT [⟨[1],[],[],[]⟩,⟨[1,3],[],[],[]⟩,⟨[1,3,4],[],[],[]⟩,⟨[1,3,4,14],[],[],[]⟩,⟨[1,3,4],[],[],[]⟩,⟨[1,3,4,5],[],[],[]⟩,⟨[1,3,4,5,28],[],[],[]⟩,⟨[1,3,4,5],[],[],[]⟩,⟨[1,3,4,5,6],[],[],[]⟩,⟨[1,3,4,5,6,7],[],[],[]⟩,⟨[1,3,4,5,6,7,43],[],[],[]⟩,⟨[1,3,4,5,6,7],[],[],[]⟩,⟨[1,3,4,5,6,7],[],[],[]⟩,⟨[2],[],[],[]⟩]
noncomputable def pW (N:Nat):Env:=b9.env [(64,Wb),(97,aau N)]
noncomputable def mn {R:Type} (N:Nat) (n:Nat) (x0:Int→Bool→(List (List BA))→Option R) (wA:Int) (wK:BA) (wD:Int) (wE:Int) (wF:BA) (wC:List BA) (wB:List ae) (wJ:List (List BA)):Nat→Int→(List (List BA))→Option R
  | 0,_,_=>none
  | m+1,wI,wG=>
    (cond (decide (wI<(wJ.length:Int)))
   (cond ((decide ((0:Int)≤wI))&&(decide (wI<(wJ.length:Int))))
    (cond (Nat.ble (1+(ar (t:=(.sl .str)) wJ (Int.toNat wI)).length) bT)
     (cond (Nat.ble (wG.length+1) bT)
      (mn N n x0 wA wK wD wE wF wC wB wJ m (IntKind.wrap .i64 (wI+(1:Int))) (wG++([(([wK]:List BA)++(ar (t:=(.sl .str)) wJ (Int.toNat wI)))]:List (List BA))))
      none)
     none)
    none)
   (x0 wI (decide (wI<(wJ.length:Int))) wG))
theorem RS {R:Type} (N:Nat) (n:Nat) (k':Kx R) (wA:Int) (wK:BA) (wI:Int) (wD:Int) (wE:Int) (wF:BA) (wC:List BA) (wB:List ae) (wG:List (List BA)) (wJ:List (List BA)):ev (pW N) s8 n (bl [1,1,0,1,0,0,1,0,0,1,1,1,1,0,0] rU) (yB wA wK wI wD wE wF wC wB wG wJ) k'=
 (cond (decide (wI<(wJ.length:Int)))
 (cond ((decide ((0:Int)≤wI))&&(decide (wI<(wJ.length:Int))))
 (cond (Nat.ble (1+(ar (t:=(.sl .str)) wJ (Int.toNat wI)).length) bT)
 (cond (Nat.ble (wG.length+1) bT)
 (k' .normal (yB wA wK (IntKind.wrap .i64 (wI+(1:Int))) wD wE wF wC wB (wG++([(([wK]:List BA)++(ar (t:=(.sl .str)) wJ (Int.toNat wI)))]:List (List BA))) wJ))
 none)
 none)
 none)
 (k' (.exit 2) (MD wA wK wI (decide (wI<(wJ.length:Int))) wD wE wF wC wB wG wJ))):=by kernel_rfl
theorem ME {R:Type} (N:Nat) (n:Nat) (k':Kx R) (wA:Int) (wK:BA) (wD:Int) (wE:Int) (wF:BA) (wC:List BA) (wB:List ae) (wJ:List (List BA)):∀(m:Nat) (wI:Int) (wG:List (List BA)),iter (fun st k=>ev (pW N) s8 n (bl [1,1,0,1,0,0,1,0,0,1,1,1,1,0,0] rU) st k) m (yB wA wK wI wD wE wF wC wB wG wJ) k'=mn N n (fun (wL:Int) (wM:Bool) (wH:List (List BA))=>k' (.exit 2) (MD wA wK wL wM wD wE wF wC wB wH wJ)) wA wK wD wE wF wC wB wJ m wI wG:=by
 intro m;induction m with
 | zero=>intros;rfl
 | succ m ih=>
  intro wI wG
  simp only [iter]
  rw [RS]
  simp only [ih,mn]
noncomputable def F7 {R:Type} (N:Nat) (n:Nat) (k':Kx R):Kx R:=(bZ 2 (bZ 1 (dS (pW N) s8 n (bl [1,1,0,1,0,0,1,1] rU) k')))
theorem MF {R:Type} (N:Nat) (n:Nat) (k':Kx R) (wA:Int) (wK:BA) (wD:Int) (wE:Int) (wF:BA) (wC:List BA) (wB:List ae) (wJ:List (List BA)) (wL:Int) (wM:Bool) (wH:List (List BA)):F7 N n k' (.exit 2) (MD wA wK wL wM wD wE wF wC wB wH wJ)=
 (k' .normal (we (IntKind.wrap .i64 (wA+(1:Int))) wD wE wF wC wB wH)):=by kernel_rfl
noncomputable def qW {R:Type} (N:Nat) (n:Nat) (x0:Int→Bool→(List (List BA))→Option R) (wD:Int) (wE:Int) (wF:BA) (wC:List BA) (wB:List ae):Nat→Int→(List (List BA))→Option R
  | 0,_,_=>none
  | m+1,wA,wG=>
    (cond (decide (wA<(wB.length:Int)))
   (cond (gL wA)
    (cond (wD==(5:Int))
     (cond (decide (wA<(wC.length:Int)))
      (cond ((decide ((0:Int)≤wA))&&(decide (wA<(wC.length:Int))))
       (cond ((decide ((0:Int)≤wA))&&(decide (wA<(wB.length:Int))))
        (cond ((Aw (eN (ar (t:= .node) wB (Int.toNat wA))))&&(Nat.blt (ao (eN (ar (t:= .node) wB (Int.toNat wA)))) N))
         (mn N n (fun (wL:Int) (wM:Bool) (wH:List (List BA))=>
          (qW N n x0 wD wE wF wC wB m (IntKind.wrap .i64 (wA+(1:Int))) wH)) wA (ar (t:= .str) wC (Int.toNat wA)) wD wE wF wC wB (aN (eN (ar (t:= .node) wB (Int.toNat wA)))) n (0:Int) wG)
         none)
        none)
       none)
      (cond ((decide ((0:Int)≤wA))&&(decide (wA<(wB.length:Int))))
       (cond ((Aw (eN (ar (t:= .node) wB (Int.toNat wA))))&&(Nat.blt (ao (eN (ar (t:= .node) wB (Int.toNat wA)))) N))
        (mn N n (fun (wL:Int) (wM:Bool) (wH:List (List BA))=>
         (qW N n x0 wD wE wF wC wB m (IntKind.wrap .i64 (wA+(1:Int))) wH)) wA (cj wA) wD wE wF wC wB (aN (eN (ar (t:= .node) wB (Int.toNat wA)))) n (0:Int) wG)
        none)
       none))
     (cond ((decide ((0:Int)≤wA))&&(decide (wA<(wB.length:Int))))
      (cond ((Aw (eN (ar (t:= .node) wB (Int.toNat wA))))&&(Nat.blt (ao (eN (ar (t:= .node) wB (Int.toNat wA)))) N))
       (mn N n (fun (wL:Int) (wM:Bool) (wH:List (List BA))=>
        (qW N n x0 wD wE wF wC wB m (IntKind.wrap .i64 (wA+(1:Int))) wH)) wA (cj wA) wD wE wF wC wB (aN (eN (ar (t:= .node) wB (Int.toNat wA)))) n (0:Int) wG)
       none)
      none))
    none)
   (x0 wA (decide (wA<(wB.length:Int))) wG))
theorem RT {R:Type} (N:Nat) (n:Nat) (k':Kx R) (wA:Int) (wD:Int) (wE:Int) (wF:BA) (wC:List BA) (wB:List ae) (wG:List (List BA)):ev (pW N) s8 n (bl [1,1,0,1,0,0] rU) (we wA wD wE wF wC wB wG) k'=
 (cond (decide (wA<(wB.length:Int)))
 (cond (gL wA)
 (cond (wD==(5:Int))
 (cond (decide (wA<(wC.length:Int)))
 (cond ((decide ((0:Int)≤wA))&&(decide (wA<(wC.length:Int))))
 (cond ((decide ((0:Int)≤wA))&&(decide (wA<(wB.length:Int))))
 (cond ((Aw (eN (ar (t:= .node) wB (Int.toNat wA))))&&(Nat.blt (ao (eN (ar (t:= .node) wB (Int.toNat wA)))) N))
 (mn N n (fun (wL:Int) (wM:Bool) (wH:List (List BA))=>
 (k' .normal (we (IntKind.wrap .i64 (wA+(1:Int))) wD wE wF wC wB wH))) wA (ar (t:= .str) wC (Int.toNat wA)) wD wE wF wC wB (aN (eN (ar (t:= .node) wB (Int.toNat wA)))) n (0:Int) wG)
 none)
 none)
 none)
 (cond ((decide ((0:Int)≤wA))&&(decide (wA<(wB.length:Int))))
 (cond ((Aw (eN (ar (t:= .node) wB (Int.toNat wA))))&&(Nat.blt (ao (eN (ar (t:= .node) wB (Int.toNat wA)))) N))
 (mn N n (fun (wL:Int) (wM:Bool) (wH:List (List BA))=>
 (k' .normal (we (IntKind.wrap .i64 (wA+(1:Int))) wD wE wF wC wB wH))) wA (cj wA) wD wE wF wC wB (aN (eN (ar (t:= .node) wB (Int.toNat wA)))) n (0:Int) wG)
 none)
 none))
 (cond ((decide ((0:Int)≤wA))&&(decide (wA<(wB.length:Int))))
 (cond ((Aw (eN (ar (t:= .node) wB (Int.toNat wA))))&&(Nat.blt (ao (eN (ar (t:= .node) wB (Int.toNat wA)))) N))
 (mn N n (fun (wL:Int) (wM:Bool) (wH:List (List BA))=>
 (k' .normal (we (IntKind.wrap .i64 (wA+(1:Int))) wD wE wF wC wB wH))) wA (cj wA) wD wE wF wC wB (aN (eN (ar (t:= .node) wB (Int.toNat wA)))) n (0:Int) wG)
 none)
 none))
 none)
 (k' (.exit 0) (F6 wA (decide (wA<(wB.length:Int))) wD wE wF wC wB wG))):=by
  refine Eq.trans (b:=(cond (decide (wA<(wB.length:Int)))
  (cond (gL wA)
   (cond (wD==(5:Int))
    (cond (decide (wA<(wC.length:Int)))
     (cond ((decide ((0:Int)≤wA))&&(decide (wA<(wC.length:Int))))
      (cond ((decide ((0:Int)≤wA))&&(decide (wA<(wB.length:Int))))
       (cond ((Aw (eN (ar (t:= .node) wB (Int.toNat wA))))&&(Nat.blt (ao (eN (ar (t:= .node) wB (Int.toNat wA)))) N))
        (iter (fun st k=>ev (pW N) s8 n (bl [1,1,0,1,0,0,1,0,0,1,1,1,1,0,0] rU) st k) n (yB wA (ar (t:= .str) wC (Int.toNat wA)) (0:Int) wD wE wF wC wB wG (aN (eN (ar (t:= .node) wB (Int.toNat wA))))) (F7 N n k'))
        none)
       none)
      none)
     (cond ((decide ((0:Int)≤wA))&&(decide (wA<(wB.length:Int))))
      (cond ((Aw (eN (ar (t:= .node) wB (Int.toNat wA))))&&(Nat.blt (ao (eN (ar (t:= .node) wB (Int.toNat wA)))) N))
       (iter (fun st k=>ev (pW N) s8 n (bl [1,1,0,1,0,0,1,0,0,1,1,1,1,0,0] rU) st k) n (yB wA (cj wA) (0:Int) wD wE wF wC wB wG (aN (eN (ar (t:= .node) wB (Int.toNat wA))))) (F7 N n k'))
       none)
      none))
    (cond ((decide ((0:Int)≤wA))&&(decide (wA<(wB.length:Int))))
     (cond ((Aw (eN (ar (t:= .node) wB (Int.toNat wA))))&&(Nat.blt (ao (eN (ar (t:= .node) wB (Int.toNat wA)))) N))
      (iter (fun st k=>ev (pW N) s8 n (bl [1,1,0,1,0,0,1,0,0,1,1,1,1,0,0] rU) st k) n (yB wA (cj wA) (0:Int) wD wE wF wC wB wG (aN (eN (ar (t:= .node) wB (Int.toNat wA))))) (F7 N n k'))
      none)
     none))
   none)
  (k' (.exit 0) (F6 wA (decide (wA<(wB.length:Int))) wD wE wF wC wB wG)))) (by kernel_rfl) ?_
  simp only [ME,MF]
theorem MG {R:Type} (N:Nat) (n:Nat) (k':Kx R) (wD:Int) (wE:Int) (wF:BA) (wC:List BA) (wB:List ae):∀(m:Nat) (wA:Int) (wG:List (List BA)),iter (fun st k=>ev (pW N) s8 n (bl [1,1,0,1,0,0] rU) st k) m (we wA wD wE wF wC wB wG) k'=qW N n (fun (wN:Int) (wO:Bool) (wH:List (List BA))=>k' (.exit 0) (F6 wN wO wD wE wF wC wB wH)) wD wE wF wC wB m wA wG:=by
 intro m;induction m with
 | zero=>intros;rfl
 | succ m ih=>
  intro wA wG
  simp only [iter]
  rw [RT]
  simp only [ih,qW]
noncomputable def Un {R:Type} (N:Nat) (n:Nat) (k':Kx R):Kx R:=(bZ 0 (dS (pW N) s8 n (bl [1,1,1] rU) k'))
theorem MH {R:Type} (N:Nat) (n:Nat) (k:Kt R) (a0:ae) (wD:Int) (wE:Int) (wF:BA) (wC:List BA) (wB:List ae) (wN:Int) (wO:Bool) (wH:List (List BA)):Un N n (aC (pW N) [.ro] [false] true [.tmp 2] [106] [.d .node a0] k) (.exit 0) (F6 wN wO wD wE wF wC wB wH)=
 (k [.d (.sl (.sl .str)) wH]):=by kernel_rfl
theorem RU {R:Type} (N:Nat) (n:Nat) (k:Kt R) (a0:ae):aM (pW N) s8 n rU [.ro] [false] true [.tmp 2] [106] [.d .node a0] k=
 (qW N n (fun (wN:Int) (wO:Bool) (wH:List (List BA))=>
 (k [.d (.sl (.sl .str)) wH])) (ae.kind a0) (ae.n a0) (ae.s a0) (ae.keys a0) (ae.kids a0) n (0:Int) [([]:List BA)]):=by
 refine Eq.trans (b:=(iter (fun st k=>ev (pW N) s8 n (bl [1,1,0,1,0,0] rU) st k) n (we (0:Int) (ae.kind a0) (ae.n a0) (ae.s a0) (ae.keys a0) (ae.kids a0) ([([]:List BA)]:List (List BA))) (Un N n (aC (pW N) [.ro] [false] true [.tmp 2] [106] [.d .node a0] k)))) (by kernel_rfl) ?_
 simp only [MG,MH]
theorem MI (N:Nat) (a0:ae) (hg:Aw a0=true) (hm:Wy [.d .node a0]=N):∃aJ rounds,∀ {R:Type} (k:Kt R),aM (pW N) aJ rounds rU [.ro] [false] true [.tmp 2] [106] [.d .node a0] k=k [.d (.sl (.sl .str)) (aN a0)]:=by
 have hm:ao a0=N:=hm
 subst hm
 have pg:=hg
 simp only [Aw,Bool.and_eq_true] at hg
 obtain ⟨hg,GB⟩:=hg
 have GB:=gw GB
 rw [bY] at hg
 simp only [Bool.and_eq_true] at hg
 obtain ⟨_,_,_,ng,mL⟩:=hg
 have vS:=bp ng
 have xm:=bp mL
 have hkl:a0.kids.length+1≤ao a0:=by
  rw [dE]
  have:∀l:List ae,l.length≤oZ ao l:=fun l=>by
   induction l with
   | nil=>exact Nat.zero_le _
   | cons y r ih=>
    have e1:oZ ao (y::r)=ao y+oZ ao r:=by simp [oZ]
    have:=dE y
    rw [List.length_cons];omega
  have:=this a0.kids
  omega
 refine ⟨s8,ao a0+1,fun {R} k=> ?_⟩
 rw [RU]
 show _=k [.d (.sl (.sl .str)) (aN a0)]
 have hlen:=n6 a0
 rw [fX,List.length_cons] at hlen
 have inner:∀(x:ae) (j:Nat) (part:BA) (out:List (List BA)) (fin:Int→Bool→List (List BA)→Option R),x∈a0.kids→out.length+(aN x).length≤ao a0→
   mn (ao a0) (ao a0+1) fin (j:Int) part a0.kind a0.n a0.s a0.keys a0.kids (aN x) (ao a0+1) (0:Int) out=fin ((aN x).length:Int) false (out++(aN x).map fun p=>part::p):=by
  intro x j part out fin hx hB
  have hxl:=bD hx
  have hxn:=n6 x
  refine Eq.trans (nT (xs:=aN x) (F:=fun m j' out=>mn (ao a0) (ao a0+1) fin (j:Int) part a0.kind a0.n a0.s a0.keys a0.kids (aN x) m (j':Int) out) (f:=fun out p=>out++[part::p]) (good:=fun out=>fin ((aN x).length:Int) false out) (fun j' o=>o.length≤out.length+j')
   (fun j' o p hp hi=>by simp only [List.length_append,List.length_cons,List.length_nil];omega) (fun m j' o p hp hi=> ?_) (fun m o hi=>by simp only [mn,gG,cond_false]) (aN x).length 0 (ao a0+1) out (by omega) (by omega) (by omega)) ?_
  ·obtain ⟨h1,h0,hw,ht⟩:=idx (aY hp) (by omega)
   have hj:=aY hp
   have aho:=sA x p (List.mem_of_getElem? hp)
   have kG:Nat.ble (o.length+1) bT=true:=Nat.ble_eq_true_of_le (by have:(bT:Nat)=4294967296:=rfl;omega)
   have aav:Nat.ble (1+p.length) bT=true:=Nat.ble_eq_true_of_le (by have:(bT:Nat)=4294967296:=rfl;omega)
   simp only [mn,h1,h0,hw,ht,bz (t:= .sl .str) hp,Bool.and_self,cond_true,kG,aav]
   rfl
  ·rw [List.drop_zero]
   congr 1
   have:∀(l:List (List BA)) (o:List (List BA)),l.foldl (fun out p=>out++[part::p]) o=o++l.map fun p=>part::p:=by
    intro l
    induction l with
    | nil=>intro o;simp
    | cons y r ih=>intro o;rw [List.foldl_cons,ih];simp
   exact this _ _
 refine Eq.trans (Ka (kids:=a0.kids) (kind:=a0.kind) (keys:=a0.keys) (B:=ao a0) (F:=fun m j out=>qW (ao a0) (ao a0+1) _ a0.kind a0.n a0.s a0.keys a0.kids m (j:Int) out) (good:=fun out=>k [.d (.sl (.sl .str)) out])
  (fun m j out x hx hB=> ?_) (fun m out=>by simp only [qW,gG,cond_false]) a0.kids.length 0 (ao a0+1) [[]] (by omega) (by omega) (by rw [List.drop_zero,List.length_cons,List.length_nil];omega)) ?_
 ·obtain ⟨h1,h0,hw,ht⟩:=idx (aY hx) (by omega)
  have hj:=aY hx
  have nz:=List.mem_of_getElem? hx
  have hb:Nat.blt (ao x) (ao a0)=true:=by
   have:=bD (x:=a0) nz
   rw [Nat.blt_eq];exact this
  have hgx:=Qx pg nz
  have Vm:gL (j:Int)=true:=kt (by omega) (by omega)
  simp only [qW,h1,h0,hw,ht,Vm,bz (t:= .node) hx,Bool.and_self,cond_true,aT,bu,hgx,hb]
  unfold sy
  cases a0.kind==(5:Int)
  ·simp only [cond_false];exact inner x j _ out _ nz hB
  by_cases hl:(j:Int)<(a0.keys.length:Int)
  ·simp only [decide_eq_true hl,Bool.and_self,cond_true];exact inner x j _ out _ nz hB
  ·simp only [decide_eq_false hl,cond_true,cond_false];exact inner x j _ out _ nz hB
 ·rw [List.drop_zero,fX];rfl
noncomputable def s97:Gm.Spec:=Gm.Spec.of [.ro] [false] true q97
theorem Wz:Gm.Good Tryd.prog (97,s97):=by
 refine ⟨⟨fU Wy fun N hr=> ?_,_,Tryd.func97,by kernel_rfl,of_decide_eq_true (by kernel_rfl)⟩,Gm.Spec.aB _ _ _ _⟩
 have hl:∀x∈[(64,Wb),(97,aau N)],Gm.Good Tryd.prog x:=bJ.2 ⟨DW,bJ.2 ⟨⟨⟨hr,_,Tryd.func97,by kernel_rfl,of_decide_eq_true (by kernel_rfl)⟩,Gm.Spec.aB _ _ _ _⟩,im⟩⟩
 intro R
 refine aK (E:=pW N) (aV.env hl) (b9.cF hl) Tryd.func97 (by kernel_rfl:Tryd.f97.body=some rU) [106] (by kernel_rfl) ?_
 intro ds outs h
 obtain ⟨h,hm⟩:=cT h
 unfold q97 at h
 split at h
 ·simp only [Option.some.injEq,Prod.mk.injEq] at h;obtain ⟨hg,h⟩:=h;cases h;exact MI N _ hg hm
 ·cases h
noncomputable def MJ:Code:=(Tryd.f75.body).getD .skip
def RV:Nat→Kp:=fT [⟨[0,3],[],[],[]⟩,⟨[0,5],[],[],[]⟩,⟨[0,6],[],[],[]⟩,⟨[0,6,19],[],[],[]⟩,⟨[0,6,19,20],[],[],[]⟩,⟨[0,4],[],[],[]⟩,⟨[0,6,27],[],[],[]⟩,⟨[0,4],[],[],[]⟩,⟨[0,4],[],[],[]⟩]
noncomputable def RW:Env:=b9.env [(86,Ay),(94,Uh),(97,s97),(98,QU)]
theorem Aj {R:Type} (n:Nat) (k:Kt R) (a0:ai) (a1:ae):aM RW RV n MJ [.bj,.ro] [false] true [.tmp 4] [22] [.d .cur a0,.d .node a1] k=
 (cond (Aw (eN a1))
 (cond ((fun c _=>ay c) a0 ((aN (eN a1)).length:Int))
 (cond ((decide ((0:Int)≤((ag a0 ((aN (eN a1)).length:Int)).1)))&&(decide (((ag a0 ((aN (eN a1)).length:Int)).1)<((aN (eN a1)).length:Int))))
 (cond (Nat.ble (0+(ar (t:=(.sl .str)) (aN (eN a1)) (Int.toNat ((ag a0 ((aN (eN a1)).length:Int)).1))).length) bT)
 (cond ((fun c _=>ay c) ((ag a0 ((aN (eN a1)).length:Int)).2) (5:Int))
 (cond (((ag ((ag a0 ((aN (eN a1)).length:Int)).2) (5:Int)).1)==(0:Int))
 (cond (ay ((ag ((ag a0 ((aN (eN a1)).length:Int)).2) (5:Int)).2))
 (cond (Nat.ble ((([]:List BA)++(ar (t:=(.sl .str)) (aN (eN a1)) (Int.toNat ((ag a0 ((aN (eN a1)).length:Int)).1)))).length+1) bT)
 (k [.d (.sl .str) ((([]:List BA)++(ar (t:=(.sl .str)) (aN (eN a1)) (Int.toNat ((ag a0 ((aN (eN a1)).length:Int)).1))))++([((dn ((ag ((ag a0 ((aN (eN a1)).length:Int)).2) (5:Int)).2)).1)]:List BA)),.d .cur ((dn ((ag ((ag a0 ((aN (eN a1)).length:Int)).2) (5:Int)).2)).2)])
 none)
 none)
 (cond (((ag ((ag a0 ((aN (eN a1)).length:Int)).2) (5:Int)).1)==(1:Int))
 (cond (ey ((ag ((ag a0 ((aN (eN a1)).length:Int)).2) (5:Int)).2) ([(bs [48]),(bs [49]),(bs [45]),(bs [48,48]),(bs [57])]:List BA))
 (cond (Nat.ble ((([]:List BA)++(ar (t:=(.sl .str)) (aN (eN a1)) (Int.toNat ((ag a0 ((aN (eN a1)).length:Int)).1)))).length+1) bT)
 (k [.d (.sl .str) ((([]:List BA)++(ar (t:=(.sl .str)) (aN (eN a1)) (Int.toNat ((ag a0 ((aN (eN a1)).length:Int)).1))))++([((bE ((ag ((ag a0 ((aN (eN a1)).length:Int)).2) (5:Int)).2) ([(bs [48]),(bs [49]),(bs [45]),(bs [48,48]),(bs [57])]:List BA)).1)]:List BA)),.d .cur ((bE ((ag ((ag a0 ((aN (eN a1)).length:Int)).2) (5:Int)).2) ([(bs [48]),(bs [49]),(bs [45]),(bs [48,48]),(bs [57])]:List BA)).2)])
 none)
 none)
 (k [.d (.sl .str) (([]:List BA)++(ar (t:=(.sl .str)) (aN (eN a1)) (Int.toNat ((ag a0 ((aN (eN a1)).length:Int)).1)))),.d .cur ((ag ((ag a0 ((aN (eN a1)).length:Int)).2) (5:Int)).2)])))
 none)
 none)
 none)
 none)
 none):=by kernel_rfl
def Uo (a0:ai) (a1:ae) (o:List BA×ai):Prop:=(fun _ _ o=>BP o.1=true∧ay o.2=true) a0 a1 o∧∃n:Nat,∀ {R:Type} (k:Kt R),aM RW RV n MJ [.bj,.ro] [false] true [.tmp 4] [22] [.d .cur a0,.d .node a1] k=k [.d (.sl .str) o.1,.d .cur o.2]
theorem WA (a0:ai) (a1:ae) (hg:(fun (c:ai) (t:ae)=>ay c&&nh 3 t) a0 a1=true):∃o:List BA×ai,(fun _ _ o=>BP o.1=true∧ay o.2=true) a0 a1 o∧∃n:Nat,∀ {R:Type} (k:Kt R),aM RW RV n MJ [.bj,.ro] [false] true [.tmp 4] [22] [.d .cur a0,.d .node a1] k=k [.d (.sl .str) o.1,.d .cur o.2]:=by
 obtain ⟨hc,ht⟩:=Bool.and_eq_true_iff.1 (show (ay a0&&nh 3 a1)=true from hg)
 have hp:=QC ht
 obtain ⟨b0,b1,g1⟩:=cG a0 ((aN a1).length:Int) hc
 have b1:=b1 (BQ a1)
 have hix:=J5 b0 b1
 have hw:=VL ht (tn (t:= .sl .str) b0 b1)
 have hn:=lF ByteArray.size (ar (t:= .sl .str) (aN a1) (Int.toNat (ag a0 ((aN a1).length:Int)).1))
 have l1:Nat.ble (0+(ar (t:= .sl .str) (aN a1) (Int.toNat (ag a0 ((aN a1).length:Int)).1)).length) bT=true:=Nat.ble_eq_true_of_le (by have:(bT:Nat)=4294967296:=rfl;omega)
 have l2:Nat.ble ((ar (t:= .sl .str) (aN a1) (Int.toNat (ag a0 ((aN a1).length:Int)).1)).length+1) bT=true:=Nat.ble_eq_true_of_le (by have:(bT:Nat)=4294967296:=rfl;omega)
 obtain ⟨_,_,g2⟩:=cG (ag a0 ((aN a1).length:Int)).2 5 g1
 cases e0:((ag (ag a0 ((aN a1).length:Int)).2 5).1==(0:Int))
 rotate_left
 ·obtain ⟨hz,g3⟩:=tq _ g2
  refine ⟨(?ZS,?ZT),?DO,0,?DP⟩
  case DP=>
   intro R k
   rw [Aj]
   simp only [bu,hp,hc,hix,l1,l2,g1,g2,e0,List.nil_append,cond_true,cond_false]
   exact rfl
  case DO=>exact ⟨yh hw (by omega),g3⟩
 cases e1:((ag (ag a0 ((aN a1).length:Int)).2 5).1==(1:Int))
 ·refine ⟨(?az1,?bz1),?ZU,0,?ZV⟩
  case ZV=>
   intro R k
   rw [Aj]
   simp only [bu,hp,hc,hix,l1,l2,g1,g2,e0,e1,List.nil_append,cond_true,cond_false]
   exact rfl
  case ZU=>exact ⟨QD hw,g2⟩
 ·have hk:=ca (l:=([(bs [48]),(bs [49]),(bs [45]),(bs [48,48]),(bs [57])]:List BA)) g2 rfl
  obtain ⟨zl,g3⟩:=jh _ _ hk
  have hz:=gw (List.all_eq_true.1 (show (([(bs [48]),(bs [49]),(bs [45]),(bs [48,48]),(bs [57])]:List BA).all fun x=>Nat.ble x.size 3)=true from rfl) _ zl)
  refine ⟨(?az2,?bz2),?gz2,0,?rz2⟩
  case rz2=>
   intro R k
   rw [Aj]
   simp only [bu,hp,hc,hix,l1,l2,g1,g2,e0,e1,hk,List.nil_append,cond_true,cond_false]
   exact rfl
  case gz2=>exact ⟨yh hw (by omega),g3⟩
theorem MK (a0:ai) (a1:ae):Nonempty {o:List BA×ai // (fun (c:ai) (t:ae)=>ay c&&nh 3 t) a0 a1=true→Uo a0 a1 o}:=by
 by_cases hg:(fun (c:ai) (t:ae)=>ay c&&nh 3 t) a0 a1=true
 ·obtain ⟨o,ho⟩:=WA a0 a1 hg
  exact ⟨⟨o,fun _=>ho⟩⟩
 ·exact ⟨⟨([],(zero .cur)),fun h=>absurd h hg⟩⟩
noncomputable def o5 (a0:ai) (a1:ae):List BA×ai:=(Classical.choice (MK a0 a1)).val
theorem ML (a0:ai) (a1:ae) (hg:(fun (c:ai) (t:ae)=>ay c&&nh 3 t) a0 a1=true):Uo a0 a1 (o5 a0 a1):=(Classical.choice (MK a0 a1)).property hg
theorem F8 (a0:ai) (a1:ae) (hg:(fun (c:ai) (t:ae)=>ay c&&nh 3 t) a0 a1=true):(fun _ _ o=>BP o.1=true∧ay o.2=true) a0 a1 (o5 a0 a1):=(ML a0 a1 hg).1
theorem jM (a0:ai) (a1:ae) (hg:(fun (c:ai) (t:ae)=>ay c&&nh 3 t) a0 a1=true):ay (o5 a0 a1).2=true:=by
  have h:=F8 a0 a1 hg
  first | exact h | exact h.2 | exact h.2.2 | exact h.2.2.2
theorem MM (a0:ai) (a1:ae) (hg:(fun (c:ai) (t:ae)=>ay c&&nh 3 t) a0 a1=true):∃aJ rounds,∀ {R:Type} (k:Kt R),aM RW aJ rounds MJ [.bj,.ro] [false] true [.tmp 4] [22] [.d .cur a0,.d .node a1] k=k [.d (.sl .str) ((o5 a0 a1).1),.d .cur ((o5 a0 a1).2)]:=by
 obtain ⟨n,hn⟩:=(ML a0 a1 hg).2
 exact ⟨RV,n,hn⟩
noncomputable def q75:Qt
 | [.d .cur a0,.d .node a1]=>some (((fun (c:ai) (t:ae)=>ay c&&nh 3 t) a0 a1),[.d (.sl .str) ((o5 a0 a1).1),.d .cur ((o5 a0 a1).2)])
 | _=>none
noncomputable def s75:Gm.Spec:=Gm.Spec.of [.bj,.ro] [false] true q75
theorem WB:Gm.Good Tryd.prog (75,s75):=by
 have hl:∀x∈[(86,Ay),(94,Uh),(97,s97),(98,QU)],Gm.Good Tryd.prog x:=bJ.2 ⟨mS,bJ.2 ⟨Af,bJ.2 ⟨Wz,bJ.2 ⟨zU,im⟩⟩⟩⟩
 refine ⟨⟨aK (aV.env hl) (b9.cF hl) Tryd.func75 (by kernel_rfl:Tryd.f75.body=some MJ) [22] (by kernel_rfl) ?_,_,Tryd.func75,by kernel_rfl,of_decide_eq_true (by kernel_rfl)⟩,Gm.Spec.aB _ _ _ _⟩
 intro ds outs h
 unfold q75 at h
 split at h
 ·simp only [Option.some.injEq,Prod.mk.injEq] at h;obtain ⟨hg,h⟩:=h;cases h;exact MM _ _ hg
 ·cases h
noncomputable def F9 (y0:Int) (y1:List Int) (y2:Int) (y3:Int) (y7:Int) (y8:Int) (y9:BA) (fc:List BA) (fE:List ae):St:=⟨[(0,.c (.one (.pt 0 0))),(2,.c (.one (.pt 2 0))),(3,.c (.one (.pt 3 0))),(4,.c (.one (.v (.int .i64 y0))))],[(0,⟨.cur,[.rk (.i .u8) y1,.v (.int .i64 y2),.v (.int .i64 y3)]⟩),(2,⟨.node,[.v (.int .i64 (0:Int)),.v (.int .i64 (0:Int)),.v (.string ByteArray.empty),.nl,.nl]⟩),(3,⟨.node,[.v (.int .i64 y7),.v (.int .i64 y8),.v (.string y9),.h 195 0 0 [],.h 196 0 0 []]⟩)],[(195,.live ⟨.str,.deep,0,[],fc⟩),(196,.live ⟨.node,.deep,0,[],fE⟩)]⟩
noncomputable def MN (y0:Int) (y1:Bool) (y2:List Int) (y3:Int) (y4:Int) (y8:Int) (y9:Int) (fc:BA) (fE:List BA) (iN:List ae):St:=⟨[(0,.c (.one (.pt 0 0))),(2,.c (.one (.pt 2 0))),(3,.c (.one (.pt 3 0))),(4,.c (.one (.v (.int .i64 y0)))),(14,.c (.one (.v (.bool y1))))],[(0,⟨.cur,[.rk (.i .u8) y2,.v (.int .i64 y3),.v (.int .i64 y4)]⟩),(2,⟨.node,[.v (.int .i64 (0:Int)),.v (.int .i64 (0:Int)),.v (.string ByteArray.empty),.nl,.nl]⟩),(3,⟨.node,[.v (.int .i64 y8),.v (.int .i64 y9),.v (.string fc),.h 195 0 0 [],.h 196 0 0 []]⟩)],[(195,.live ⟨.str,.deep,0,[],fE⟩),(196,.live ⟨.node,.deep,0,[],iN⟩)]⟩
noncomputable def Ak:Code:=(Tryd.f71.body).getD .skip
def Ck:Nat→Kp:=fT [⟨[0,2],[],[],[]⟩,⟨[0,2,7],[],[],[]⟩,⟨[0,2],[],[],[]⟩,⟨[0,2,3],[],[],[]⟩,⟨[0,2,3,4],[⟨true,false,3,3,.str⟩,⟨true,false,3,4,.node⟩],[],[]⟩,⟨[0,2,3,4,14],[],[],[]⟩,⟨[0,2,3,4],[],[],[(1472,195),(1473,196)]⟩,⟨[0,2,3,4,5],[],[],[]⟩,⟨[0,2,3,4],[],[],[]⟩,⟨[0,2],[],[],[]⟩]
noncomputable def xp:Env:=b9.env [(72,Ip),(76,Wv),(86,Ay),(92,s92),(93,Uc),(94,Uh)]
noncomputable def sM {R:Type} (n:Nat) (x0:Int→Bool→(List Int)→Int→Int→Int→Int→BA→(List BA)→(List ae)→Option R):Nat→Int→(List Int)→Int→Int→Int→Int→BA→(List BA)→(List ae)→Option R
  | 0,_,_,_,_,_,_,_,_,_=>none
  | m+1,wP,wA,wB,wC,wE,wF,wG,wJ,wK=>
    (cond ((fun c _=>ay c) (⟨wA,wB,wC⟩:ai) (5:Int))
   (cond (decide (wP<((ag (⟨wA,wB,wC⟩:ai) (5:Int)).1)))
    (cond (HQ ((ag (⟨wA,wB,wC⟩:ai) (5:Int)).2) (1:Int))
     (cond (ay ((dT ((ag (⟨wA,wB,wC⟩:ai) (5:Int)).2) (1:Int)).2))
      (cond (zK (⟨wE,wF,wG,wJ,wK⟩:ae) ((dn ((dT ((ag (⟨wA,wB,wC⟩:ai) (5:Int)).2) (1:Int)).2)).1) (eN ((dT ((ag (⟨wA,wB,wC⟩:ai) (5:Int)).2) (1:Int)).1)))
       (sM n x0 m (IntKind.wrap .i64 (wP+(1:Int))) (ai.b ((dn ((dT ((ag (⟨wA,wB,wC⟩:ai) (5:Int)).2) (1:Int)).2)).2)) (ai.i ((dn ((dT ((ag (⟨wA,wB,wC⟩:ai) (5:Int)).2) (1:Int)).2)).2)) (ai.h ((dn ((dT ((ag (⟨wA,wB,wC⟩:ai) (5:Int)).2) (1:Int)).2)).2)) (ae.kind (fa (⟨wE,wF,wG,wJ,wK⟩:ae) ((dn ((dT ((ag (⟨wA,wB,wC⟩:ai) (5:Int)).2) (1:Int)).2)).1) (eN ((dT ((ag (⟨wA,wB,wC⟩:ai) (5:Int)).2) (1:Int)).1)))) (ae.n (fa (⟨wE,wF,wG,wJ,wK⟩:ae) ((dn ((dT ((ag (⟨wA,wB,wC⟩:ai) (5:Int)).2) (1:Int)).2)).1) (eN ((dT ((ag (⟨wA,wB,wC⟩:ai) (5:Int)).2) (1:Int)).1)))) (ae.s (fa (⟨wE,wF,wG,wJ,wK⟩:ae) ((dn ((dT ((ag (⟨wA,wB,wC⟩:ai) (5:Int)).2) (1:Int)).2)).1) (eN ((dT ((ag (⟨wA,wB,wC⟩:ai) (5:Int)).2) (1:Int)).1)))) (ae.keys (fa (⟨wE,wF,wG,wJ,wK⟩:ae) ((dn ((dT ((ag (⟨wA,wB,wC⟩:ai) (5:Int)).2) (1:Int)).2)).1) (eN ((dT ((ag (⟨wA,wB,wC⟩:ai) (5:Int)).2) (1:Int)).1)))) (ae.kids (fa (⟨wE,wF,wG,wJ,wK⟩:ae) ((dn ((dT ((ag (⟨wA,wB,wC⟩:ai) (5:Int)).2) (1:Int)).2)).1) (eN ((dT ((ag (⟨wA,wB,wC⟩:ai) (5:Int)).2) (1:Int)).1)))))
       none)
      none)
     none)
    (x0 wP (decide (wP<((ag (⟨wA,wB,wC⟩:ai) (5:Int)).1))) (ai.b ((ag (⟨wA,wB,wC⟩:ai) (5:Int)).2)) (ai.i ((ag (⟨wA,wB,wC⟩:ai) (5:Int)).2)) (ai.h ((ag (⟨wA,wB,wC⟩:ai) (5:Int)).2)) wE wF wG wJ wK))
   none)
theorem RX {R:Type} (n:Nat) (k':Kx R) (wP:Int) (wA:List Int) (wB:Int) (wC:Int) (wE:Int) (wF:Int) (wG:BA) (wJ:List BA) (wK:List ae):ev xp Ck n (bl [1,1,1,0,1,0,0] Ak) (F9 wP wA wB wC wE wF wG wJ wK) k'=
 (cond ((fun c _=>ay c) (⟨wA,wB,wC⟩:ai) (5:Int))
 (cond (decide (wP<((ag (⟨wA,wB,wC⟩:ai) (5:Int)).1)))
 (cond (HQ ((ag (⟨wA,wB,wC⟩:ai) (5:Int)).2) (1:Int))
 (cond (ay ((dT ((ag (⟨wA,wB,wC⟩:ai) (5:Int)).2) (1:Int)).2))
 (cond (zK (⟨wE,wF,wG,wJ,wK⟩:ae) ((dn ((dT ((ag (⟨wA,wB,wC⟩:ai) (5:Int)).2) (1:Int)).2)).1) (eN ((dT ((ag (⟨wA,wB,wC⟩:ai) (5:Int)).2) (1:Int)).1)))
 (k' .normal (F9 (IntKind.wrap .i64 (wP+(1:Int))) (ai.b ((dn ((dT ((ag (⟨wA,wB,wC⟩:ai) (5:Int)).2) (1:Int)).2)).2)) (ai.i ((dn ((dT ((ag (⟨wA,wB,wC⟩:ai) (5:Int)).2) (1:Int)).2)).2)) (ai.h ((dn ((dT ((ag (⟨wA,wB,wC⟩:ai) (5:Int)).2) (1:Int)).2)).2)) (ae.kind (fa (⟨wE,wF,wG,wJ,wK⟩:ae) ((dn ((dT ((ag (⟨wA,wB,wC⟩:ai) (5:Int)).2) (1:Int)).2)).1) (eN ((dT ((ag (⟨wA,wB,wC⟩:ai) (5:Int)).2) (1:Int)).1)))) (ae.n (fa (⟨wE,wF,wG,wJ,wK⟩:ae) ((dn ((dT ((ag (⟨wA,wB,wC⟩:ai) (5:Int)).2) (1:Int)).2)).1) (eN ((dT ((ag (⟨wA,wB,wC⟩:ai) (5:Int)).2) (1:Int)).1)))) (ae.s (fa (⟨wE,wF,wG,wJ,wK⟩:ae) ((dn ((dT ((ag (⟨wA,wB,wC⟩:ai) (5:Int)).2) (1:Int)).2)).1) (eN ((dT ((ag (⟨wA,wB,wC⟩:ai) (5:Int)).2) (1:Int)).1)))) (ae.keys (fa (⟨wE,wF,wG,wJ,wK⟩:ae) ((dn ((dT ((ag (⟨wA,wB,wC⟩:ai) (5:Int)).2) (1:Int)).2)).1) (eN ((dT ((ag (⟨wA,wB,wC⟩:ai) (5:Int)).2) (1:Int)).1)))) (ae.kids (fa (⟨wE,wF,wG,wJ,wK⟩:ae) ((dn ((dT ((ag (⟨wA,wB,wC⟩:ai) (5:Int)).2) (1:Int)).2)).1) (eN ((dT ((ag (⟨wA,wB,wC⟩:ai) (5:Int)).2) (1:Int)).1))))))
 none)
 none)
 none)
 (k' (.exit 0) (MN wP (decide (wP<((ag (⟨wA,wB,wC⟩:ai) (5:Int)).1))) (ai.b ((ag (⟨wA,wB,wC⟩:ai) (5:Int)).2)) (ai.i ((ag (⟨wA,wB,wC⟩:ai) (5:Int)).2)) (ai.h ((ag (⟨wA,wB,wC⟩:ai) (5:Int)).2)) wE wF wG wJ wK)))
 none):=by kernel_rfl
theorem MO {R:Type} (n:Nat) (k':Kx R):∀(m:Nat) (wP:Int) (wA:List Int) (wB:Int) (wC:Int) (wE:Int) (wF:Int) (wG:BA) (wJ:List BA) (wK:List ae),iter (fun st k=>ev xp Ck n (bl [1,1,1,0,1,0,0] Ak) st k) m (F9 wP wA wB wC wE wF wG wJ wK) k'=sM n (fun (uC:Int) (uD:Bool) (wL:List Int) (wM:Int) (wN:Int) (wX:Int) (wY:Int) (wZ:BA) (uA:List BA) (uB:List ae)=>k' (.exit 0) (MN uC uD wL wM wN wX wY wZ uA uB)) m wP wA wB wC wE wF wG wJ wK:=by
 intro m;induction m with
 | zero=>intros;rfl
 | succ m ih=>
  intro wP wA wB wC wE wF wG wJ wK
  simp only [iter]
  rw [RX]
  simp only [ih,sM]
noncomputable def Up {R:Type} (n:Nat) (k':Kx R):Kx R:=(bZ 0 (dS xp Ck n (bl [1,1,1,1] Ak) k'))
theorem MP {R:Type} (n:Nat) (k:Kt R) (a0:ai) (uC:Int) (uD:Bool) (wL:List Int) (wM:Int) (wN:Int) (wX:Int) (wY:Int) (wZ:BA) (uA:List BA) (uB:List ae):Up n (aC xp [.bj] [false] true [.cell 2 35] [35] [.d .cur a0] k) (.exit 0) (MN uC uD wL wM wN wX wY wZ uA uB)=
 (k [.d .node (⟨wX,wY,wZ,uA,uB⟩:ae),.d .cur (⟨wL,wM,wN⟩:ai)]):=by kernel_rfl
theorem Ga {R:Type} (n:Nat) (k:Kt R) (a0:ai):aM xp Ck n Ak [.bj] [false] true [.cell 2 35] [35] [.d .cur a0] k=
 (cond ((fun c _=>ay c) a0 (5:Int))
 (cond ((aj a0 (5:Int)).1)
 (cond (ay ((aj a0 (5:Int)).2))
 (k [.d .node (eN ((nj ((aj a0 (5:Int)).2)).1)),.d .cur ((nj ((aj a0 (5:Int)).2)).2)])
 none)
 (sM n (fun (uC:Int) (uD:Bool) (wL:List Int) (wM:Int) (wN:Int) (wX:Int) (wY:Int) (wZ:BA) (uA:List BA) (uB:List ae)=>
 (k [.d .node (⟨wX,wY,wZ,uA,uB⟩:ae),.d .cur (⟨wL,wM,wN⟩:ai)])) n (0:Int) (ai.b ((aj a0 (5:Int)).2)) (ai.i ((aj a0 (5:Int)).2)) (ai.h ((aj a0 (5:Int)).2)) (5:Int) (0:Int) ByteArray.empty ([]:List BA) ([]:List ae)))
 none):=by
  refine Eq.trans (b:=(cond ((fun c _=>ay c) a0 (5:Int))
  (cond ((aj a0 (5:Int)).1)
   (cond (ay ((aj a0 (5:Int)).2))
    (k [.d .node (eN ((nj ((aj a0 (5:Int)).2)).1)),.d .cur ((nj ((aj a0 (5:Int)).2)).2)])
    none)
   (iter (fun st k=>ev xp Ck n (bl [1,1,1,0,1,0,0] Ak) st k) n (F9 (0:Int) (ai.b ((aj a0 (5:Int)).2)) (ai.i ((aj a0 (5:Int)).2)) (ai.h ((aj a0 (5:Int)).2)) (5:Int) (0:Int) ByteArray.empty ([]:List BA) ([]:List ae)) (Up n (aC xp [.bj] [false] true [.cell 2 35] [35] [.d .cur a0] k))))
  none)) (by kernel_rfl) ?_
  simp only [MO,MP]
def Uq (a0:ai) (o:ae×ai):Prop:=(fun _ o=>nh 3 o.1=true∧ay o.2=true) a0 o∧∃n:Nat,∀ {R:Type} (k:Kt R),aM xp Ck n Ak [.bj] [false] true [.cell 2 35] [35] [.d .cur a0] k=k [.d .node o.1,.d .cur o.2]
theorem WC (a0:ai) (hg:ay a0=true):∃o:ae×ai,(fun _ o=>nh 3 o.1=true∧ay o.2=true) a0 o∧∃n:Nat,∀ {R:Type} (k:Kt R),aM xp Ck n Ak [.bj] [false] true [.cell 2 35] [35] [.d .cur a0] k=k [.d .node o.1,.d .cur o.2]:=by
 have hg:ay a0=true:=hg
 have g1:ay (aj a0 5).2=true:=fb a0 5 hg
 have key:∀(d m i:Nat) (t:ae) (c:ai),i+d=5→d<m→ak t=true→aw t≤i*410→ay c=true→∃o:ae×ai,(nh 3 o.1=true∧ay o.2=true)∧∀ {R:Type} (X:Int→Bool→List Int→Int→Int→Int→Int→BA→List BA→List ae→Option R) (Z:ae→ai→Option R),(∀ i b x y z v w u p q,X i b x y z v w u p q=Z ⟨v,w,u,p,q⟩ ⟨x,y,z⟩)→sM 6 X m (i:Int) c.b c.i c.h t.kind t.n t.s t.keys t.kids=Z o.1 o.2:=by
  intro d
  induction d with
  | zero=>
   intro m i t c hi hm hs hz hc
   obtain ⟨m,rfl⟩:∃m',m=m'+1:=⟨m-1,by omega⟩
   obtain ⟨b0,b1,b2⟩:=cG c 5 hc
   have b1:=b1 (by omega)
   refine ⟨(t,(ag c 5).2),⟨ek.2 ⟨hs,show aw t≤_ by omega⟩,b2⟩,fun {R} X Z hX=> ?_⟩
   simp only [sM,dQ,aT,bu,hc,decide_eq_false (show ¬((i:Int)<(ag c 5).1) by omega),hX,cond_true,cond_false]
  | succ d ih=>
   intro m i t c hi hm hs hz hc
   obtain ⟨m,rfl⟩:∃m',m=m'+1:=⟨m-1,by omega⟩
   obtain ⟨b0,b1,b2⟩:=cG c 5 hc
   cases hd:decide ((i:Int)<(ag c 5).1)
   ·refine ⟨(t,(ag c 5).2),⟨ek.2 ⟨hs,show aw t≤_ by omega⟩,b2⟩,fun {R} X Z hX=> ?_⟩
    simp only [sM,dQ,aT,bu,hc,hd,hX,cond_true,cond_false]
   have gd:=D4 (d:=1) b2 rfl
   obtain ⟨⟨q1,q2,_⟩,q4⟩:=FZ gd
   obtain ⟨k1,k2⟩:=tq _ q4
   have hks:c8 (dn (dT (ag c 5).2 1).2).1=true:=kq (by omega)
   have Ub:zK t (dn (dT (ag c 5).2 1).2).1 (dT (ag c 5).2 1).1=true:=by simp only [zK,hs,hks,q1,Bool.and_self]
   obtain ⟨s1,s2⟩:=zJ hs hks q1 (by omega)
   have hw:IntKind.wrap .i64 ((i:Int)+1)=((i+1:Nat):Int):=by rw [cu (by omega) (by omega)];omega
   have q2:aw (dT (ag c 5).2 1).1≤400:=q2
   obtain ⟨o,ho,hh⟩:=ih m (i+1) (fa t (dn (dT (ag c 5).2 1).2).1 (dT (ag c 5).2 1).1) (dn (dT (ag c 5).2 1).2).2 (by omega) (by omega) s1 (by omega) k2
   exact ⟨o,ho,fun {R} X Z hX=>by
    simp only [sM,dQ,aT,bu,bu,hc,hd,gd,q4,Ub,hw,cond_true]
    exact hh X Z hX⟩
 cases e0:(aj a0 5).1
 ·obtain ⟨o,ho,hh⟩:=key 5 6 0 ⟨5,0,ByteArray.empty,[],[]⟩ (aj a0 5).2 (by omega) (by omega) (by decide) (by rw [aW];simp [dw]) g1
  refine ⟨o,ho,6,fun {R} k=> ?_⟩
  rw [Ga]
  simp only [hg,e0,cond_true,cond_false]
  exact hh _ (fun t c=>k [.d .node t,.d .cur c]) (fun _ _ _ _ _ _ _ _ _ _=>rfl)
 ·obtain ⟨h1,h2⟩:=Cj _ g1
  exact ⟨nj (aj a0 5).2,⟨h1,h2⟩,0,fun {R} k=>by
   rw [Ga]
   simp only [hg,g1,e0,bu,cond_true]⟩
theorem MQ (a0:ai):Nonempty {o:ae×ai // ay a0=true→Uq a0 o}:=by
 by_cases hg:ay a0=true
 ·obtain ⟨o,ho⟩:=WC a0 hg
  exact ⟨⟨o,fun _=>ho⟩⟩
 ·exact ⟨⟨((zero .node),(zero .cur)),fun h=>absurd h hg⟩⟩
noncomputable def aO (a0:ai):ae×ai:=(Classical.choice (MQ a0)).val
theorem MR (a0:ai) (hg:ay a0=true):Uq a0 (aO a0):=(Classical.choice (MQ a0)).property hg
theorem Al (a0:ai) (hg:ay a0=true):(fun _ o=>nh 3 o.1=true∧ay o.2=true) a0 (aO a0):=(MR a0 hg).1
theorem jN (a0:ai) (hg:ay a0=true):ay (aO a0).2=true:=by
  have h:=Al a0 hg
  first | exact h | exact h.2 | exact h.2.2 | exact h.2.2.2
theorem MS (a0:ai) (hg:ay a0=true):∃aJ rounds,∀ {R:Type} (k:Kt R),aM xp aJ rounds Ak [.bj] [false] true [.cell 2 35] [35] [.d .cur a0] k=k [.d .node ((aO a0).1),.d .cur ((aO a0).2)]:=by
 obtain ⟨n,hn⟩:=(MR a0 hg).2
 exact ⟨Ck,n,hn⟩
noncomputable def q71:Qt
 | [.d .cur a0]=>some ((ay a0),[.d .node ((aO a0).1),.d .cur ((aO a0).2)])
 | _=>none
noncomputable def s71:Gm.Spec:=Gm.Spec.of [.bj] [false] true q71
theorem MT:Gm.Good Tryd.prog (71,s71):=by
 have hl:∀x∈[(72,Ip),(76,Wv),(86,Ay),(92,s92),(93,Uc),(94,Uh)],Gm.Good Tryd.prog x:=bJ.2 ⟨rQ,bJ.2 ⟨D5,bJ.2 ⟨mS,bJ.2 ⟨Wx,bJ.2 ⟨Ae,bJ.2 ⟨Af,im⟩⟩⟩⟩⟩⟩
 refine ⟨⟨aK (aV.env hl) (b9.cF hl) Tryd.func71 (by kernel_rfl:Tryd.f71.body=some Ak) [35] (by kernel_rfl) ?_,_,Tryd.func71,by kernel_rfl,of_decide_eq_true (by kernel_rfl)⟩,Gm.Spec.aB _ _ _ _⟩
 intro ds outs h
 unfold q71 at h
 split at h
 ·simp only [Option.some.injEq,Prod.mk.injEq] at h;obtain ⟨hg,h⟩:=h;cases h;exact MS _ hg
 ·cases h
noncomputable def q73:Qt
 | [.d .cur a0,.d .node a1]=>some (((fun (c:ai) (t:ae)=>ay c&&ak t) a0 a1),[.d .aq ((aI aj a0 a1).1),.d .cur ((aI aj a0 a1).2)])
 | _=>none
noncomputable def WD:List Dt→Nat
 | [.d .cur a0,.d .node a1]=>(fun (_:ai) (t:ae)=>ao t) a0 a1
 | _=>0
noncomputable def aax (N:Nat):Gm.Spec:=Gm.Spec.of [.bj,.ro] [false] true (nS WD N q73)
noncomputable def Gb (y0:Int) (y1:List Int) (y2:Int) (y3:Int) (y4:Int) (y5:Int) (y6:BA) (y7:List BA) (y8:List ae) (iN:Int) (oq:List BA) (qP:List af) (Ac:List Bool):St:=⟨[(0,.c (.one (.pt 0 0))),(3,.c (.one (.pt 3 0))),(4,.c (.one (.pt 4 0))),(5,.c (.one (.pt 5 0))),(6,.c (.one (.v (.int .i64 y0))))],[(0,⟨.cur,[.rk (.i .u8) y1,.v (.int .i64 y2),.v (.int .i64 y3)]⟩),(3,⟨.node,[.v (.int .i64 y4),.v (.int .i64 y5),.v (.string y6),.ro .str y7,.ro .node y8]⟩),(4,⟨.aq,[.v (.int .i64 (0:Int)),.nl,.nl,.nl,.v (.int .i64 (0:Int)),.v (.int .i64 (0:Int))]⟩),(5,⟨.aq,[.v (.int .i64 iN),.h 321 0 0 [],.h 322 0 0 [],.h 323 0 0 [],.v (.int .i64 (0:Int)),.v (.int .i64 (0:Int))]⟩)],[(321,.live ⟨.str,.deep,0,[],oq⟩),(322,.live ⟨.aq,.deep,0,[],qP⟩),(323,.live ⟨.bool,.deep,0,[],Ac⟩)]⟩
noncomputable def yC (y0:Int) (y1:Bool) (y2:List Int) (y3:Int) (y4:Int) (y5:Int) (y6:Int) (y7:BA) (y8:List BA) (y9:List ae) (ml:Int) (qP:List BA) (Ac:List af) (Cd:List Bool):St:=⟨[(0,.c (.one (.pt 0 0))),(3,.c (.one (.pt 3 0))),(4,.c (.one (.pt 4 0))),(5,.c (.one (.pt 5 0))),(6,.c (.one (.v (.int .i64 y0)))),(64,.c (.one (.v (.bool y1))))],[(0,⟨.cur,[.rk (.i .u8) y2,.v (.int .i64 y3),.v (.int .i64 y4)]⟩),(3,⟨.node,[.v (.int .i64 y5),.v (.int .i64 y6),.v (.string y7),.ro .str y8,.ro .node y9]⟩),(4,⟨.aq,[.v (.int .i64 (0:Int)),.nl,.nl,.nl,.v (.int .i64 (0:Int)),.v (.int .i64 (0:Int))]⟩),(5,⟨.aq,[.v (.int .i64 ml),.h 321 0 0 [],.h 322 0 0 [],.h 323 0 0 [],.v (.int .i64 (0:Int)),.v (.int .i64 (0:Int))]⟩)],[(321,.live ⟨.str,.deep,0,[],qP⟩),(322,.live ⟨.aq,.deep,0,[],Ac⟩),(323,.live ⟨.bool,.deep,0,[],Cd⟩)]⟩
noncomputable def D6:Code:=(Tryd.f73.body).getD .skip
def HR:Nat→Kp:=fT [⟨[0,3,4],[],[],[]⟩,⟨[0,3,4,8],[],[],[]⟩,⟨[0,4],[],[],[]⟩,⟨[0,3,4,5],[],[],[]⟩,⟨[0,3,4,5,14],[],[],[]⟩,⟨[0,3,4,5,14,15],[],[],[]⟩,⟨[0,3,4,5],[],[],[]⟩,⟨[0,4,5],[],[],[]⟩,⟨[0,3,4,5,14,23],[],[],[]⟩,⟨[0,4,5],[],[],[]⟩,⟨[0,3,4,5,14,29],[],[],[]⟩,⟨[0,3,4,5],[],[],[]⟩,⟨[0,3,4,5],[],[],[]⟩,⟨[0,3,4,5,41],[],[],[]⟩,⟨[0,4,5],[],[],[]⟩,⟨[0,3,4,5,51],[],[],[]⟩,⟨[0,3,4,5,6],[⟨true,false,5,1,.str⟩,⟨true,false,5,2,.aq⟩,⟨true,false,5,3,.bool⟩],[],[]⟩,⟨[0,3,4,5,6,64],[],[],[]⟩,⟨[0,3,4,5,6],[],[],[]⟩,⟨[0,3,4,5,6],[],[],[]⟩,⟨[0,3,4,5,6],[],[],[]⟩,⟨[0,3,4,5,6],[],[],[]⟩,⟨[0,4],[],[],[]⟩]
noncomputable def xr (N:Nat):Env:=b9.env [(72,Ip),(73,aax N)]
noncomputable def sN {R:Type} (N:Nat) (n:Nat) (x0:Int→Bool→(List Int)→Int→Int→(List BA)→(List af)→(List Bool)→Option R) (x1:Int→(List Int)→Int→Int→(List BA)→(List af)→(List Bool)→Option R) (wE:Int) (wF:Int) (wG:BA) (wI:List BA) (wH:List ae) (wO:Int):Nat→Int→(List Int)→Int→Int→(List BA)→(List af)→(List Bool)→Option R
  | 0,_,_,_,_,_,_,_=>none
  | m+1,wD,wA,wB,wC,wQ,wR,wS=>
    (cond (decide (wD<(wH.length:Int)))
   (cond (decide (wD<(wI.length:Int)))
    (cond ((decide ((0:Int)≤wD))&&(decide (wD<(wI.length:Int))))
     (cond (Nat.ble (wQ.length+1) bT)
      (cond ((decide ((0:Int)≤wD))&&(decide (wD<(wH.length:Int))))
       (cond (((fun (c:ai) (t:ae)=>ay c&&ak t) (⟨wA,wB,wC⟩:ai) (eN (ar (t:= .node) wH (Int.toNat wD))))&&(Nat.blt ((fun (_:ai) (t:ae)=>ao t) (⟨wA,wB,wC⟩:ai) (eN (ar (t:= .node) wH (Int.toNat wD)))) N))
        (cond (Nat.ble (wR.length+1) bT)
         (cond ((fun c _=>ay c) ((aI aj (⟨wA,wB,wC⟩:ai) (eN (ar (t:= .node) wH (Int.toNat wD)))).2) (2:Int))
          (cond (Nat.ble (wS.length+1) bT)
           (sN N n x0 x1 wE wF wG wI wH wO m (IntKind.wrap .i64 (wD+(1:Int))) (ai.b ((aj ((aI aj (⟨wA,wB,wC⟩:ai) (eN (ar (t:= .node) wH (Int.toNat wD)))).2) (2:Int)).2)) (ai.i ((aj ((aI aj (⟨wA,wB,wC⟩:ai) (eN (ar (t:= .node) wH (Int.toNat wD)))).2) (2:Int)).2)) (ai.h ((aj ((aI aj (⟨wA,wB,wC⟩:ai) (eN (ar (t:= .node) wH (Int.toNat wD)))).2) (2:Int)).2)) (wQ++([(ar (t:= .str) wI (Int.toNat wD))]:List BA)) (wR++([(eR ((aI aj (⟨wA,wB,wC⟩:ai) (eN (ar (t:= .node) wH (Int.toNat wD)))).1))]:List af)) (wS++([((aj ((aI aj (⟨wA,wB,wC⟩:ai) (eN (ar (t:= .node) wH (Int.toNat wD)))).2) (2:Int)).1)]:List Bool)))
           none)
          none)
         none)
        none)
       none)
      none)
     none)
    (x0 wD (decide (wD<(wI.length:Int))) wA wB wC wQ wR wS))
   (x1 wD wA wB wC wQ wR wS))
theorem RY {R:Type} (N:Nat) (n:Nat) (k':Kx R) (wD:Int) (wA:List Int) (wB:Int) (wC:Int) (wE:Int) (wF:Int) (wG:BA) (wI:List BA) (wH:List ae) (wO:Int) (wQ:List BA) (wR:List af) (wS:List Bool):ev (xr N) HR n (bl [1,1,1,0,1,0,1,1,1,1,1,1,1,0,1,0,0] D6) (Gb wD wA wB wC wE wF wG wI wH wO wQ wR wS) k'=
 (cond (decide (wD<(wH.length:Int)))
 (cond (decide (wD<(wI.length:Int)))
 (cond ((decide ((0:Int)≤wD))&&(decide (wD<(wI.length:Int))))
 (cond (Nat.ble (wQ.length+1) bT)
 (cond ((decide ((0:Int)≤wD))&&(decide (wD<(wH.length:Int))))
 (cond (((fun (c:ai) (t:ae)=>ay c&&ak t) (⟨wA,wB,wC⟩:ai) (eN (ar (t:= .node) wH (Int.toNat wD))))&&(Nat.blt ((fun (_:ai) (t:ae)=>ao t) (⟨wA,wB,wC⟩:ai) (eN (ar (t:= .node) wH (Int.toNat wD)))) N))
 (cond (Nat.ble (wR.length+1) bT)
 (cond ((fun c _=>ay c) ((aI aj (⟨wA,wB,wC⟩:ai) (eN (ar (t:= .node) wH (Int.toNat wD)))).2) (2:Int))
 (cond (Nat.ble (wS.length+1) bT)
 (k' .normal (Gb (IntKind.wrap .i64 (wD+(1:Int))) (ai.b ((aj ((aI aj (⟨wA,wB,wC⟩:ai) (eN (ar (t:= .node) wH (Int.toNat wD)))).2) (2:Int)).2)) (ai.i ((aj ((aI aj (⟨wA,wB,wC⟩:ai) (eN (ar (t:= .node) wH (Int.toNat wD)))).2) (2:Int)).2)) (ai.h ((aj ((aI aj (⟨wA,wB,wC⟩:ai) (eN (ar (t:= .node) wH (Int.toNat wD)))).2) (2:Int)).2)) wE wF wG wI wH wO (wQ++([(ar (t:= .str) wI (Int.toNat wD))]:List BA)) (wR++([(eR ((aI aj (⟨wA,wB,wC⟩:ai) (eN (ar (t:= .node) wH (Int.toNat wD)))).1))]:List af)) (wS++([((aj ((aI aj (⟨wA,wB,wC⟩:ai) (eN (ar (t:= .node) wH (Int.toNat wD)))).2) (2:Int)).1)]:List Bool))))
 none)
 none)
 none)
 none)
 none)
 none)
 none)
 (k' (.exit 1) (yC wD (decide (wD<(wI.length:Int))) wA wB wC wE wF wG wI wH wO wQ wR wS)))
 (k' (.exit 1) (yC wD false wA wB wC wE wF wG wI wH wO wQ wR wS))):=by kernel_rfl
theorem MU {R:Type} (N:Nat) (n:Nat) (k':Kx R) (wE:Int) (wF:Int) (wG:BA) (wI:List BA) (wH:List ae) (wO:Int):∀(m:Nat) (wD:Int) (wA:List Int) (wB:Int) (wC:Int) (wQ:List BA) (wR:List af) (wS:List Bool),iter (fun st k=>ev (xr N) HR n (bl [1,1,1,0,1,0,1,1,1,1,1,1,1,0,1,0,0] D6) st k) m (Gb wD wA wB wC wE wF wG wI wH wO wQ wR wS) k'=sN N n (fun (wW:Int) (uE:Bool) (wL:List Int) (wM:Int) (wN:Int) (wT:List BA) (wU:List af) (wV:List Bool)=>k' (.exit 1) (yC wW uE wL wM wN wE wF wG wI wH wO wT wU wV)) (fun (wW:Int) (wL:List Int) (wM:Int) (wN:Int) (wT:List BA) (wU:List af) (wV:List Bool)=>k' (.exit 1) (yC wW false wL wM wN wE wF wG wI wH wO wT wU wV)) wE wF wG wI wH wO m wD wA wB wC wQ wR wS:=by
 intro m;induction m with
 | zero=>intros;rfl
 | succ m ih=>
  intro wD wA wB wC wQ wR wS
  simp only [iter]
  rw [RY]
  simp only [ih,sN]
noncomputable def MV {R:Type} (N:Nat) (n:Nat) (k':Kx R):Kx R:=(bZ 1 (bZ 0 (dS (xr N) HR n (bl [1,1,1,1] D6) k')))
theorem MW {R:Type} (N:Nat) (n:Nat) (k:Kt R) (a0:ai) (a1:ae) (wE:Int) (wF:Int) (wG:BA) (wI:List BA) (wH:List ae) (wO:Int) (wW:Int) (uE:Bool) (wL:List Int) (wM:Int) (wN:Int) (wT:List BA) (wU:List af) (wV:List Bool):MV N n (aC (xr N) [.bj,.ro] [false] true [.cell 4 39] [39] [.d .cur a0,.d .node a1] k) (.exit 1) (yC wW uE wL wM wN wE wF wG wI wH wO wT wU wV)=
 (k [.d .aq (⟨wO,wT,wU,wV,(0:Int),(0:Int)⟩:af),.d .cur (⟨wL,wM,wN⟩:ai)]):=by kernel_rfl
theorem MX {R:Type} (N:Nat) (n:Nat) (k:Kt R) (a0:ai) (a1:ae) (wE:Int) (wF:Int) (wG:BA) (wI:List BA) (wH:List ae) (wO:Int) (wW:Int) (wL:List Int) (wM:Int) (wN:Int) (wT:List BA) (wU:List af) (wV:List Bool):MV N n (aC (xr N) [.bj,.ro] [false] true [.cell 4 39] [39] [.d .cur a0,.d .node a1] k) (.exit 1) (yC wW false wL wM wN wE wF wG wI wH wO wT wU wV)=
 (k [.d .aq (⟨wO,wT,wU,wV,(0:Int),(0:Int)⟩:af),.d .cur (⟨wL,wM,wN⟩:ai)]):=by kernel_rfl
theorem RZ {R:Type} (N:Nat) (n:Nat) (k:Kt R) (a0:ai) (a1:ae):aM (xr N) HR n D6 [.bj,.ro] [false] true [.cell 4 39] [39] [.d .cur a0,.d .node a1] k=
 (cond ((fun c _=>ay c) a0 (6:Int))
 (cond ((aj a0 (6:Int)).1)
 (k [.d .aq (⟨(-1:Int),([]:List BA),([]:List af),([]:List Bool),(0:Int),(0:Int)⟩:af),.d .cur ((aj a0 (6:Int)).2)])
 (cond ((ae.kind a1)==(2:Int))
 (k [.d .aq (⟨(ae.kind a1),([]:List BA),([]:List af),([]:List Bool),(ae.n a1),(ae.n a1)⟩:af),.d .cur ((aj a0 (6:Int)).2)])
 (cond ((ae.kind a1)==(3:Int))
 (k [.d .aq (⟨(ae.kind a1),([]:List BA),([]:List af),([]:List Bool),(0:Int),(ByteArray.size (ae.s a1):Int)⟩:af),.d .cur ((aj a0 (6:Int)).2)])
 (cond ((ae.kind a1)==(4:Int))
 (cond (((ae.kids a1).length:Int)==(1:Int))
 (cond (decide ((0:Int)<((ae.kids a1).length:Int)))
 (cond (((fun (c:ai) (t:ae)=>ay c&&ak t) ((aj a0 (6:Int)).2) (eN (ar (t:= .node) (ae.kids a1) 0)))&&(Nat.blt ((fun (_:ai) (t:ae)=>ao t) ((aj a0 (6:Int)).2) (eN (ar (t:= .node) (ae.kids a1) 0))) N))
 (k [.d .aq (⟨(ae.kind a1),([]:List BA),[(eR ((aI aj ((aj a0 (6:Int)).2) (eN (ar (t:= .node) (ae.kids a1) 0))).1))],([]:List Bool),(0:Int),((ae.kids a1).length:Int)⟩:af),.d .cur ((aI aj ((aj a0 (6:Int)).2) (eN (ar (t:= .node) (ae.kids a1) 0))).2)])
 none)
 none)
 (k [.d .aq (⟨(ae.kind a1),([]:List BA),[(⟨(-1:Int),([]:List BA),([]:List af),([]:List Bool),(0:Int),(0:Int)⟩:af)],([]:List Bool),(0:Int),((ae.kids a1).length:Int)⟩:af),.d .cur ((aj a0 (6:Int)).2)]))
 (cond ((ae.kind a1)==(5:Int))
 (sN N n (fun (wW:Int) (uE:Bool) (wL:List Int) (wM:Int) (wN:Int) (wT:List BA) (wU:List af) (wV:List Bool)=>
 (k [.d .aq (⟨(ae.kind a1),wT,wU,wV,(0:Int),(0:Int)⟩:af),.d .cur (⟨wL,wM,wN⟩:ai)])) (fun (wW:Int) (wL:List Int) (wM:Int) (wN:Int) (wT:List BA) (wU:List af) (wV:List Bool)=>
 (k [.d .aq (⟨(ae.kind a1),wT,wU,wV,(0:Int),(0:Int)⟩:af),.d .cur (⟨wL,wM,wN⟩:ai)])) (ae.kind a1) (ae.n a1) (ae.s a1) (ae.keys a1) (ae.kids a1) (ae.kind a1) n (0:Int) (ai.b ((aj a0 (6:Int)).2)) (ai.i ((aj a0 (6:Int)).2)) (ai.h ((aj a0 (6:Int)).2)) ([]:List BA) ([]:List af) ([]:List Bool))
 (k [.d .aq (⟨(ae.kind a1),([]:List BA),([]:List af),([]:List Bool),(0:Int),(0:Int)⟩:af),.d .cur ((aj a0 (6:Int)).2)]))))))
 none):=by
  refine Eq.trans (b:=(cond ((fun c _=>ay c) a0 (6:Int))
  (cond ((aj a0 (6:Int)).1)
   (k [.d .aq (⟨(-1:Int),([]:List BA),([]:List af),([]:List Bool),(0:Int),(0:Int)⟩:af),.d .cur ((aj a0 (6:Int)).2)])
   (cond ((ae.kind a1)==(2:Int))
    (k [.d .aq (⟨(ae.kind a1),([]:List BA),([]:List af),([]:List Bool),(ae.n a1),(ae.n a1)⟩:af),.d .cur ((aj a0 (6:Int)).2)])
    (cond ((ae.kind a1)==(3:Int))
     (k [.d .aq (⟨(ae.kind a1),([]:List BA),([]:List af),([]:List Bool),(0:Int),(ByteArray.size (ae.s a1):Int)⟩:af),.d .cur ((aj a0 (6:Int)).2)])
     (cond ((ae.kind a1)==(4:Int))
      (cond (((ae.kids a1).length:Int)==(1:Int))
       (cond (decide ((0:Int)<((ae.kids a1).length:Int)))
        (cond (((fun (c:ai) (t:ae)=>ay c&&ak t) ((aj a0 (6:Int)).2) (eN (ar (t:= .node) (ae.kids a1) 0)))&&(Nat.blt ((fun (_:ai) (t:ae)=>ao t) ((aj a0 (6:Int)).2) (eN (ar (t:= .node) (ae.kids a1) 0))) N))
         (k [.d .aq (⟨(ae.kind a1),([]:List BA),[(eR ((aI aj ((aj a0 (6:Int)).2) (eN (ar (t:= .node) (ae.kids a1) 0))).1))],([]:List Bool),(0:Int),((ae.kids a1).length:Int)⟩:af),.d .cur ((aI aj ((aj a0 (6:Int)).2) (eN (ar (t:= .node) (ae.kids a1) 0))).2)])
         none)
        none)
       (k [.d .aq (⟨(ae.kind a1),([]:List BA),[(⟨(-1:Int),([]:List BA),([]:List af),([]:List Bool),(0:Int),(0:Int)⟩:af)],([]:List Bool),(0:Int),((ae.kids a1).length:Int)⟩:af),.d .cur ((aj a0 (6:Int)).2)]))
      (cond ((ae.kind a1)==(5:Int))
       (iter (fun st k=>ev (xr N) HR n (bl [1,1,1,0,1,0,1,1,1,1,1,1,1,0,1,0,0] D6) st k) n (Gb (0:Int) (ai.b ((aj a0 (6:Int)).2)) (ai.i ((aj a0 (6:Int)).2)) (ai.h ((aj a0 (6:Int)).2)) (ae.kind a1) (ae.n a1) (ae.s a1) (ae.keys a1) (ae.kids a1) (ae.kind a1) ([]:List BA) ([]:List af) ([]:List Bool)) (MV N n (aC (xr N) [.bj,.ro] [false] true [.cell 4 39] [39] [.d .cur a0,.d .node a1] k)))
       (k [.d .aq (⟨(ae.kind a1),([]:List BA),([]:List af),([]:List Bool),(0:Int),(0:Int)⟩:af),.d .cur ((aj a0 (6:Int)).2)]))))))
  none)) (by kernel_rfl) ?_
  simp only [MU,MW,MX]
theorem MY (N:Nat) (a0:ai) (a1:ae) (hg:(fun (c:ai) (t:ae)=>ay c&&ak t) a0 a1=true) (hm:WD [.d .cur a0,.d .node a1]=N):∃aJ rounds,∀ {R:Type} (k:Kt R),aM (xr N) aJ rounds D6 [.bj,.ro] [false] true [.cell 4 39] [39] [.d .cur a0,.d .node a1] k=k [.d .aq ((aI aj a0 a1).1),.d .cur ((aI aj a0 a1).2)]:=by
 have hm:ao a1=N:=hm
 subst hm
 obtain ⟨hc,hs⟩:=Bool.and_eq_true_iff.1 (show (ay a0&&ak a1)=true from hg)
 have CI:∀c n,ay c=true→ay (aj c n).2=true:=fun c n h=>fb c n h
 obtain ⟨_,_,_,ng,mL⟩:=dr hs
 have xm:=bp mL
 have vS:=bp ng
 have aay:(bT:Nat)=4294967296:=rfl
 have g6:=CI a0 6 hc
 refine ⟨HR,(a1.kids.length+a1.keys.length+1),fun {R} k=> ?_⟩
 rw [RZ]
 show _=k [.d .aq (dh aj a1 a0).1,.d .cur (dh aj a1 a0).2]
 rw [vL]
 simp only [hc,cond_true]
 cases (aj a0 6).1
 rotate_left
 ·rfl
 cases a1.kind==(2:Int)
 rotate_left
 ·rfl
 cases a1.kind==(3:Int)
 rotate_left
 ·rfl
 cases a1.kind==(4:Int)
 rotate_left
 ·cases h1l:((a1.kids.length:Int)==(1:Int))
  ·rfl
  ·have hle:0<a1.kids.length:=by have:=eq_of_beq h1l;omega
   have hm:ar (t:= .node) a1.kids 0∈a1.kids:=List.mem_of_getElem? (c9 (t:= .node) hle)
   have hb:Nat.blt (ao (ar (t:= .node) a1.kids 0)) (ao a1)=true:=by rw [Nat.blt_eq];exact bD hm
   simp only [vM aj _ hle,decide_eq_true (show (0:Int)<(a1.kids.length:Int) by omega),g6,iK hs hm,hb,bu,cM,aI,Bool.and_self,cond_true,cond_false]
 cases a1.kind==(5:Int)
 ·rfl
 simp only [cond_true,cond_false]
 refine Eq.trans (Hq aj (kids:=a1.kids) (keys:=a1.keys) (F:=fun m j c a b e=>sN (ao a1) (a1.kids.length+a1.keys.length+1) _ _ a1.kind a1.n a1.s a1.keys a1.kids a1.kind m (j:Int) c.b c.i c.h a b e) (good:=fun c a b e=>k [.d .aq ⟨a1.kind,a,b,e,0,0⟩,.d .cur c]) (fun c=>ay c=true)
  (fun m j c a b e x key hx hk hp h1 h2 h3=> ?_) (fun m j c a b e h1 h2 h3=> ?_) (min a1.kids.length a1.keys.length) 0 (a1.kids.length+a1.keys.length+1) (aj a0 6).2 [] [] [] (by omega) (by omega) g6 rfl rfl rfl) ?_
 ·obtain ⟨i1,i0,hw,ht⟩:=idx (aY hx) (by omega)
  obtain ⟨k1,_,_,_⟩:=idx (aY hk) (by omega)
  have nz:=List.mem_of_getElem? hx
  have hj:=aY hx
  have hb:Nat.blt (ao x) (ao a1)=true:=by rw [Nat.blt_eq];exact bD nz
  have hr:=(oR CI x c hp (iK hs nz)).1
  have l1:Nat.ble (a.length+1) bT=true:=Nat.ble_eq_true_of_le (by omega)
  have l2:Nat.ble (b.length+1) bT=true:=Nat.ble_eq_true_of_le (by omega)
  have l3:Nat.ble (e.length+1) bT=true:=Nat.ble_eq_true_of_le (by omega)
  refine ⟨CI _ _ hr,?_⟩
  simp only [sN,i1,i0,k1,hw,ht,l1,l2,l3,hp,hr,iK hs nz,hb,bz (t:= .str) hk,bz (t:= .node) hx,dQ,bu,cM,aI,Bool.and_self,cond_true]
 ·by_cases hj:j<a1.kids.length
  ·simp only [sN,decide_eq_true (show (j:Int)<(a1.kids.length:Int) by omega),decide_eq_false (show ¬((j:Int)<(a1.keys.length:Int)) by omega),dQ,cond_true,cond_false]
  ·simp only [sN,decide_eq_false (show ¬((j:Int)<(a1.kids.length:Int)) by omega),dQ,cond_false]
 ·simp only [List.drop_zero,List.nil_append]
noncomputable def s73:Gm.Spec:=Gm.Spec.of [.bj,.ro] [false] true q73
theorem MZ:Gm.Good Tryd.prog (73,s73):=by
 refine ⟨⟨fU WD fun N hr=> ?_,_,Tryd.func73,by kernel_rfl,of_decide_eq_true (by kernel_rfl)⟩,Gm.Spec.aB _ _ _ _⟩
 have hl:∀x∈[(72,Ip),(73,aax N)],Gm.Good Tryd.prog x:=bJ.2 ⟨rQ,bJ.2 ⟨⟨⟨hr,_,Tryd.func73,by kernel_rfl,of_decide_eq_true (by kernel_rfl)⟩,Gm.Spec.aB _ _ _ _⟩,im⟩⟩
 intro R
 refine aK (E:=xr N) (aV.env hl) (b9.cF hl) Tryd.func73 (by kernel_rfl:Tryd.f73.body=some D6) [39] (by kernel_rfl) ?_
 intro ds outs h
 obtain ⟨h,hm⟩:=cT h
 unfold q73 at h
 split at h
 ·simp only [Option.some.injEq,Prod.mk.injEq] at h;obtain ⟨hg,h⟩:=h;cases h;exact MY N _ _ hg hm
 ·cases h
noncomputable def M0:Code:=(Tryd.f59.body).getD .skip
def R0:Nat→Kp:=fT [⟨[0,2],[],[],[]⟩,⟨[0,2,3],[],[],[]⟩,⟨[0,2,3,9],[],[],[]⟩,⟨[0,2,3,9,10],[],[],[]⟩,⟨[0,2,3],[],[],[]⟩,⟨[0,2,3,9,16],[],[],[]⟩,⟨[0,2,3],[],[],[]⟩,⟨[0,2,3,9,22],[],[],[]⟩,⟨[0,2,3],[],[],[]⟩,⟨[0,2,3,29],[],[],[]⟩,⟨[0,2,3,34],[],[],[]⟩,⟨[0,2,3],[],[],[]⟩,⟨[0,2],[],[],[]⟩]
noncomputable def R1:Env:=b9.env [(71,s71),(73,s73),(86,Ay)]
theorem oS {R:Type} (n:Nat) (k:Kt R) (a0:ai):aM R1 R0 n M0 [.bj] [false] true [.cell 2 39] [39] [.d .cur a0] k=
 (cond (ay a0)
 (cond ((fun (c:ai) (t:ae)=>ay c&&ak t) ((aO a0).2) (eN ((aO a0).1)))
 (cond ((fun c _=>ay c) ((aI aj ((aO a0).2) (eN ((aO a0).1))).2) (8:Int))
 (cond (((ag ((aI aj ((aO a0).2) (eN ((aO a0).1))).2) (8:Int)).1)==(0:Int))
 (cond ((fun c _=>ay c) ((ag ((aI aj ((aO a0).2) (eN ((aO a0).1))).2) (8:Int)).2) (8:Int))
 (k [.d .aq (⟨(IntKind.wrap .i64 (((ag ((ag ((aI aj ((aO a0).2) (eN ((aO a0).1))).2) (8:Int)).2) (8:Int)).1)-(2:Int))),(af.keys ((aI aj ((aO a0).2) (eN ((aO a0).1))).1)),(af.kids ((aI aj ((aO a0).2) (eN ((aO a0).1))).1)),(af.need ((aI aj ((aO a0).2) (eN ((aO a0).1))).1)),(af.low ((aI aj ((aO a0).2) (eN ((aO a0).1))).1)),(af.high ((aI aj ((aO a0).2) (eN ((aO a0).1))).1))⟩:af),.d .cur ((ag ((ag ((aI aj ((aO a0).2) (eN ((aO a0).1))).2) (8:Int)).2) (8:Int)).2)])
 none)
 (cond (((ag ((aI aj ((aO a0).2) (eN ((aO a0).1))).2) (8:Int)).1)==(1:Int))
 (cond ((fun c _=>ay c) ((ag ((aI aj ((aO a0).2) (eN ((aO a0).1))).2) (8:Int)).2) (5:Int))
 (k [.d .aq (⟨(af.kind ((aI aj ((aO a0).2) (eN ((aO a0).1))).1)),(af.keys ((aI aj ((aO a0).2) (eN ((aO a0).1))).1)),(af.kids ((aI aj ((aO a0).2) (eN ((aO a0).1))).1)),(af.need ((aI aj ((aO a0).2) (eN ((aO a0).1))).1)),(IntKind.wrap .i64 (((ag ((ag ((aI aj ((aO a0).2) (eN ((aO a0).1))).2) (8:Int)).2) (5:Int)).1)-(1:Int))),(af.high ((aI aj ((aO a0).2) (eN ((aO a0).1))).1))⟩:af),.d .cur ((ag ((ag ((aI aj ((aO a0).2) (eN ((aO a0).1))).2) (8:Int)).2) (5:Int)).2)])
 none)
 (cond (((ag ((aI aj ((aO a0).2) (eN ((aO a0).1))).2) (8:Int)).1)==(2:Int))
 (cond (Nat.ble ((af.need ((aI aj ((aO a0).2) (eN ((aO a0).1))).1)).length+1) bT)
 (k [.d .aq (⟨(af.kind ((aI aj ((aO a0).2) (eN ((aO a0).1))).1)),(af.keys ((aI aj ((aO a0).2) (eN ((aO a0).1))).1)),(af.kids ((aI aj ((aO a0).2) (eN ((aO a0).1))).1)),((af.need ((aI aj ((aO a0).2) (eN ((aO a0).1))).1))++([true]:List Bool)),(af.low ((aI aj ((aO a0).2) (eN ((aO a0).1))).1)),(af.high ((aI aj ((aO a0).2) (eN ((aO a0).1))).1))⟩:af),.d .cur ((ag ((aI aj ((aO a0).2) (eN ((aO a0).1))).2) (8:Int)).2)])
 none)
 (cond (((ag ((aI aj ((aO a0).2) (eN ((aO a0).1))).2) (8:Int)).1)==(3:Int))
 (cond (decide (((af.keys ((aI aj ((aO a0).2) (eN ((aO a0).1))).1)).length:Int)>(0:Int)))
 (cond (decide ((0:Int)<((af.keys ((aI aj ((aO a0).2) (eN ((aO a0).1))).1)).length:Int)))
 (k [.d .aq (⟨(af.kind ((aI aj ((aO a0).2) (eN ((aO a0).1))).1)),((af.keys ((aI aj ((aO a0).2) (eN ((aO a0).1))).1)).set 0 (bs [122,122])),(af.kids ((aI aj ((aO a0).2) (eN ((aO a0).1))).1)),(af.need ((aI aj ((aO a0).2) (eN ((aO a0).1))).1)),(af.low ((aI aj ((aO a0).2) (eN ((aO a0).1))).1)),(af.high ((aI aj ((aO a0).2) (eN ((aO a0).1))).1))⟩:af),.d .cur ((ag ((aI aj ((aO a0).2) (eN ((aO a0).1))).2) (8:Int)).2)])
 none)
 (k [.d .aq (eR ((aI aj ((aO a0).2) (eN ((aO a0).1))).1)),.d .cur ((ag ((aI aj ((aO a0).2) (eN ((aO a0).1))).2) (8:Int)).2)]))
 (k [.d .aq (eR ((aI aj ((aO a0).2) (eN ((aO a0).1))).1)),.d .cur ((ag ((aI aj ((aO a0).2) (eN ((aO a0).1))).2) (8:Int)).2)])))))
 none)
 none)
 none):=by kernel_rfl
theorem gm {c:ai} {t:ae} (hc:ay c=true) (ht:ak t=true):ay (aI aj c t).2=true:=
 (oR (fun c n h=>fb c n h) t c hc ht).1
theorem eL {c:ai} {t:ae} (hc:ay c=true) (ht:nh 3 t=true):zR (aI aj c t).1=true:=by
 obtain ⟨h1,h2⟩:=ek.1 ht
 have:=oR (fun c n h=>fb c n h) t c hc h1
 exact kz.2 ⟨this.2.1,Nat.le_trans this.2.2 (by omega)⟩
theorem eM {c:ai} (hc:ay c=true):nh 3 (aO c).1=true:=(Al c hc).1
theorem gV {c:ai} (hc:ay c=true):ak (aO c).1=true:=(ek.1 (eM hc)).1
def Ur (a0:ai) (o:af×ai):Prop:=(fun _ o=>B3 o.1=true∧ay o.2=true) a0 o∧∃n:Nat,∀ {R:Type} (k:Kt R),aM R1 R0 n M0 [.bj] [false] true [.cell 2 39] [39] [.d .cur a0] k=k [.d .aq o.1,.d .cur o.2]
theorem WE (a0:ai) (hg:ay a0=true):∃o:af×ai,(fun _ o=>B3 o.1=true∧ay o.2=true) a0 o∧∃n:Nat,∀ {R:Type} (k:Kt R),aM R1 R0 n M0 [.bj] [false] true [.cell 2 39] [39] [.d .cur a0] k=k [.d .aq o.1,.d .cur o.2]:=by
 cases e0:(((ag ((aI aj ((aO a0).2) ((aO a0).1)).2) (8:Int)).1)==(0:Int))
 ·skip
  cases e1:(((ag ((aI aj ((aO a0).2) ((aO a0).1)).2) (8:Int)).1)==(1:Int))
  ·skip
   cases e2:(((ag ((aI aj ((aO a0).2) ((aO a0).1)).2) (8:Int)).1)==(2:Int))
   ·skip
    cases e3:(((ag ((aI aj ((aO a0).2) ((aO a0).1)).2) (8:Int)).1)==(3:Int))
    ·skip
     refine ⟨(?ahq,?ahr),?gx4,0,?rx4⟩
     case rx4=>
      intro R k
      rw [oS]
      simp (decide:=true) (maxDischargeDepth:=60) only [hg,fj,dX,bh,bw,cD,cp,jL,gT,gU,jM,jN,ca,cn,cond_true,cond_false,Bool.not_true,Bool.not_false,e0,e1,e2,e3,gm,eL,eM,gV,jg,fh,gQ,fi,gR,gS,bu,cM,bN,Bool.and_self]
      exact rfl
     case gx4=>
      simp (decide:=true) (maxDischargeDepth:=60) only [hg,fj,dX,bh,bw,cD,cp,jL,gT,gU,jM,jN,ez,fp,gI,fq,Bool.and_eq_true,and_self,true_and,and_true,ca,cn,e0,e1,e2,e3,gm,eL,eM,gV,jg,fh,gQ,fi,gR,gS,bu,cM,bN,Bool.and_self]
    cases e5:(decide (((af.keys ((aI aj ((aO a0).2) ((aO a0).1)).1)).length:Int)>(0:Int)))
    ·skip
     refine ⟨(?ahu,?ahv),?gx6,0,?rx6⟩
     case rx6=>
      intro R k
      rw [oS]
      simp (decide:=true) (maxDischargeDepth:=60) only [hg,fj,dX,bh,bw,cD,cp,jL,gT,gU,jM,jN,ca,cn,cond_true,cond_false,Bool.not_true,Bool.not_false,e0,e1,e2,e3,e5,gm,eL,eM,gV,jg,fh,gQ,fi,gR,gS,bu,cM,bN,Bool.and_self]
      exact rfl
     case gx6=>
      simp (decide:=true) (maxDischargeDepth:=60) only [hg,fj,dX,bh,bw,cD,cp,jL,gT,gU,jM,jN,ez,fp,gI,fq,Bool.and_eq_true,and_self,true_and,and_true,ca,cn,e0,e1,e2,e3,e5,gm,eL,eM,gV,jg,fh,gQ,fi,gR,gS,bu,cM,bN,Bool.and_self]
    refine ⟨(?ahy,?ahz),?gx7,0,?rx7⟩
    case rx7=>
     intro R k
     rw [oS]
     simp (decide:=true) (maxDischargeDepth:=60) only [hg,fj,dX,bh,bw,cD,cp,jL,gT,gU,jM,jN,ca,cn,cond_true,cond_false,Bool.not_true,Bool.not_false,e0,e1,e2,e3,e5,gm,eL,eM,gV,jg,fh,gQ,fi,gR,gS,bu,cM,bN,Bool.and_self]
     exact rfl
    case gx7=>
     simp (decide:=true) (maxDischargeDepth:=60) only [hg,fj,dX,bh,bw,cD,cp,jL,gT,gU,jM,jN,ez,fp,gI,fq,Bool.and_eq_true,and_self,true_and,and_true,ca,cn,e0,e1,e2,e3,e5,gm,eL,eM,gV,jg,fh,gQ,fi,gR,gS,bu,cM,bN,Bool.and_self]
   refine ⟨(?ahC,?ahD),?gx8,0,?rx8⟩
   case rx8=>
    intro R k
    rw [oS]
    simp (decide:=true) (maxDischargeDepth:=60) only [hg,fj,dX,bh,bw,cD,cp,jL,gT,gU,jM,jN,ca,cn,cond_true,cond_false,Bool.not_true,Bool.not_false,e0,e1,e2,gm,eL,eM,gV,jg,fh,gQ,fi,gR,gS,bu,cM,bN,Bool.and_self]
    exact rfl
   case gx8=>
    simp (decide:=true) (maxDischargeDepth:=60) only [hg,fj,dX,bh,bw,cD,cp,jL,gT,gU,jM,jN,ez,fp,gI,fq,Bool.and_eq_true,and_self,true_and,and_true,ca,cn,e0,e1,e2,gm,eL,eM,gV,jg,fh,gQ,fi,gR,gS,bu,cM,bN,Bool.and_self]
  refine ⟨(?ahG,?ahH),?gx9,0,?rx9⟩
  case rx9=>
   intro R k
   rw [oS]
   simp (decide:=true) (maxDischargeDepth:=60) only [hg,fj,dX,bh,bw,cD,cp,jL,gT,gU,jM,jN,ca,cn,cond_true,cond_false,Bool.not_true,Bool.not_false,e0,e1,gm,eL,eM,gV,jg,fh,gQ,fi,gR,gS,bu,cM,bN,Bool.and_self]
   exact rfl
  case gx9=>
   simp (decide:=true) (maxDischargeDepth:=60) only [hg,fj,dX,bh,bw,cD,cp,jL,gT,gU,jM,jN,ez,fp,gI,fq,Bool.and_eq_true,and_self,true_and,and_true,ca,cn,e0,e1,gm,eL,eM,gV,jg,fh,gQ,fi,gR,gS,bu,cM,bN,Bool.and_self]
 refine ⟨(?afC,?afD),?adS,0,?adT⟩
 case adT=>
  intro R k
  rw [oS]
  simp (decide:=true) (maxDischargeDepth:=60) only [hg,fj,dX,bh,bw,cD,cp,jL,gT,gU,jM,jN,ca,cn,cond_true,cond_false,Bool.not_true,Bool.not_false,e0,gm,eL,eM,gV,jg,fh,gQ,fi,gR,gS,bu,cM,bN,Bool.and_self]
  exact rfl
 case adS=>
  simp (decide:=true) (maxDischargeDepth:=60) only [hg,fj,dX,bh,bw,cD,cp,jL,gT,gU,jM,jN,ez,fp,gI,fq,Bool.and_eq_true,and_self,true_and,and_true,ca,cn,e0,gm,eL,eM,gV,jg,fh,gQ,fi,gR,gS,bu,cM,bN,Bool.and_self]
theorem M1 (a0:ai):Nonempty {o:af×ai // ay a0=true→Ur a0 o}:=by
 by_cases hg:ay a0=true
 ·obtain ⟨o,ho⟩:=WE a0 hg
  exact ⟨⟨o,fun _=>ho⟩⟩
 ·exact ⟨⟨((zero .aq),(zero .cur)),fun h=>absurd h hg⟩⟩
noncomputable def pz (a0:ai):af×ai:=(Classical.choice (M1 a0)).val
theorem M3 (a0:ai) (hg:ay a0=true):Ur a0 (pz a0):=(Classical.choice (M1 a0)).property hg
theorem M4 (a0:ai) (hg:ay a0=true):(fun _ o=>B3 o.1=true∧ay o.2=true) a0 (pz a0):=(M3 a0 hg).1
theorem M5 (a0:ai) (hg:ay a0=true):∃aJ rounds,∀ {R:Type} (k:Kt R),aM R1 aJ rounds M0 [.bj] [false] true [.cell 2 39] [39] [.d .cur a0] k=k [.d .aq ((pz a0).1),.d .cur ((pz a0).2)]:=by
 obtain ⟨n,hn⟩:=(M3 a0 hg).2
 exact ⟨R0,n,hn⟩
noncomputable def q59:Qt
 | [.d .cur a0]=>some ((ay a0),[.d .aq ((pz a0).1),.d .cur ((pz a0).2)])
 | _=>none
noncomputable def s59:Gm.Spec:=Gm.Spec.of [.bj] [false] true q59
theorem WG:Gm.Good Tryd.prog (59,s59):=by
 have hl:∀x∈[(71,s71),(73,s73),(86,Ay)],Gm.Good Tryd.prog x:=bJ.2 ⟨MT,bJ.2 ⟨MZ,bJ.2 ⟨mS,im⟩⟩⟩
 refine ⟨⟨aK (aV.env hl) (b9.cF hl) Tryd.func59 (by kernel_rfl:Tryd.f59.body=some M0) [39] (by kernel_rfl) ?_,_,Tryd.func59,by kernel_rfl,of_decide_eq_true (by kernel_rfl)⟩,Gm.Spec.aB _ _ _ _⟩
 intro ds outs h
 unfold q59 at h
 split at h
 ·simp only [Option.some.injEq,Prod.mk.injEq] at h;obtain ⟨hg,h⟩:=h;cases h;exact M5 _ hg
 ·cases h
noncomputable def M6:Code:=(Tryd.f48.body).getD .skip
def R4:Nat→Kp:=fT [⟨[0,2,3],[],[],[]⟩,⟨[0,2,3,4],[],[],[]⟩,⟨[0,2,3,4,9],[],[],[]⟩,⟨[0,2,3],[],[],[]⟩,⟨[0,2,3,4,5],[],[],[]⟩,⟨[0,2,3,4,5,17],[],[],[]⟩,⟨[0,2,3,4,5],[],[],[]⟩,⟨[0,2,3],[],[],[]⟩]
noncomputable def R5:Env:=b9.env [(59,s59),(71,s71),(72,Ip),(73,s73),(74,s74),(75,s75),(76,Wv)]
theorem An {R:Type} (n:Nat) (k:Kt R) (a0:ai):aM R5 R4 n M6 [.bj] [false,false] true [.cell 2 35,.cell 3 39] [35,39] [.d .cur a0] k=
 (cond (ay a0)
 (cond ((fun c _=>ay c) ((aO a0).2) (3:Int))
 (cond ((aj ((aO a0).2) (3:Int)).1)
 (cond (ay ((aj ((aO a0).2) (3:Int)).2))
 (k [.d .node (eN ((aO a0).1)),.d .aq (eR ((pz ((aj ((aO a0).2) (3:Int)).2)).1)),.d .cur ((pz ((aj ((aO a0).2) (3:Int)).2)).2)])
 none)
 (cond ((fun (c:ai) (t:ae)=>ay c&&ak t) ((aj ((aO a0).2) (3:Int)).2) (eN ((aO a0).1)))
 (cond ((fun c _=>ay c) ((aI aj ((aj ((aO a0).2) (3:Int)).2) (eN ((aO a0).1))).2) (2:Int))
 (cond ((aj ((aI aj ((aj ((aO a0).2) (3:Int)).2) (eN ((aO a0).1))).2) (2:Int)).1)
 (cond ((fun (c:ai) (t:ae)=>ay c&&nh 3 t) ((aj ((aI aj ((aj ((aO a0).2) (3:Int)).2) (eN ((aO a0).1))).2) (2:Int)).2) (eN ((aO a0).1)))
 (cond (HQ ((o5 ((aj ((aI aj ((aj ((aO a0).2) (3:Int)).2) (eN ((aO a0).1))).2) (2:Int)).2) (eN ((aO a0).1))).2) (1:Int))
 (cond (gP (eN ((aO a0).1)) ((o5 ((aj ((aI aj ((aj ((aO a0).2) (3:Int)).2) (eN ((aO a0).1))).2) (2:Int)).2) (eN ((aO a0).1))).1) (eN ((dT ((o5 ((aj ((aI aj ((aj ((aO a0).2) (3:Int)).2) (eN ((aO a0).1))).2) (2:Int)).2) (eN ((aO a0).1))).2) (1:Int)).1)))
 (k [.d .node (eN ((dC (eN ((aO a0).1)) ((o5 ((aj ((aI aj ((aj ((aO a0).2) (3:Int)).2) (eN ((aO a0).1))).2) (2:Int)).2) (eN ((aO a0).1))).1) (eN ((dT ((o5 ((aj ((aI aj ((aj ((aO a0).2) (3:Int)).2) (eN ((aO a0).1))).2) (2:Int)).2) (eN ((aO a0).1))).2) (1:Int)).1))).1)),.d .aq (eR ((aI aj ((aj ((aO a0).2) (3:Int)).2) (eN ((aO a0).1))).1)),.d .cur ((dT ((o5 ((aj ((aI aj ((aj ((aO a0).2) (3:Int)).2) (eN ((aO a0).1))).2) (2:Int)).2) (eN ((aO a0).1))).2) (1:Int)).2)])
 none)
 none)
 none)
 (k [.d .node (eN ((aO a0).1)),.d .aq (eR ((aI aj ((aj ((aO a0).2) (3:Int)).2) (eN ((aO a0).1))).1)),.d .cur ((aj ((aI aj ((aj ((aO a0).2) (3:Int)).2) (eN ((aO a0).1))).2) (2:Int)).2)]))
 none)
 none))
 none)
 none):=by kernel_rfl
def Us (a0:ai) (o:ae×af×ai):Prop:=(fun _ o=>okB o.1=true∧B3 o.2.1=true∧ay o.2.2=true) a0 o∧∃n:Nat,∀ {R:Type} (k:Kt R),aM R5 R4 n M6 [.bj] [false,false] true [.cell 2 35,.cell 3 39] [35,39] [.d .cur a0] k=k [.d .node o.1,.d .aq o.2.1,.d .cur o.2.2]
theorem WH (a0:ai) (hg:ay a0=true):∃o:ae×af×ai,(fun _ o=>okB o.1=true∧B3 o.2.1=true∧ay o.2.2=true) a0 o∧∃n:Nat,∀ {R:Type} (k:Kt R),aM R5 R4 n M6 [.bj] [false,false] true [.cell 2 35,.cell 3 39] [35,39] [.d .cur a0] k=k [.d .node o.1,.d .aq o.2.1,.d .cur o.2.2]:=by
 have hg:ay a0=true:=hg
 obtain ⟨m1,m2⟩:=Al a0 hg
 have m3:=(ek.1 m1).1
 have g1:ay (aj (aO a0).2 3).2=true:=fb _ 3 m2
 cases e0:(aj (aO a0).2 3).1
 rotate_left
 ·obtain ⟨r1,r2⟩:=M4 _ g1
  exact ⟨((aO a0).1,(pz (aj (aO a0).2 3).2).1,(pz (aj (aO a0).2 3).2).2),⟨Kk m1,r1,r2⟩,0,fun {R} k=>by
   rw [An]
   simp only [hg,m2,g1,e0,bu,cM,cond_true]⟩
 generalize hc:(aj (aO a0).2 3).2=c at g1
 have r1:=gm g1 m3
 have r2:=jg (eL g1 m1)
 have g2:ay (aj (aI aj c (aO a0).1).2 2).2=true:=fb _ 2 r1
 cases e1:(aj (aI aj c (aO a0).1).2 2).1
 ·exact ⟨((aO a0).1,(aI aj c (aO a0).1).1,(aj (aI aj c (aO a0).1).2 2).2),⟨Kk m1,r2,g2⟩,0,fun {R} k=>by
   rw [An]
   simp only [hg,m2,m3,hc,g1,r1,e0,e1,bu,cM,Bool.and_self,cond_true,cond_false]⟩
 ·have X3:(ay (aj (aI aj c (aO a0).1).2 2).2&&nh 3 (aO a0).1)=true:=by rw [g2,m1];rfl
  obtain ⟨w1,w2⟩:=F8 _ _ X3
  have d1:=D4 (d:=1) w2 rfl
  obtain ⟨t1,t2⟩:=FZ d1
  obtain ⟨p1,p2⟩:=QH m1 w1 t1
  exact ⟨((dC (aO a0).1 (o5 (aj (aI aj c (aO a0).1).2 2).2 (aO a0).1).1 (dT (o5 (aj (aI aj c (aO a0).1).2 2).2 (aO a0).1).2 1).1).1,(aI aj c (aO a0).1).1,(dT (o5 (aj (aI aj c (aO a0).1).2 2).2 (aO a0).1).2 1).2),⟨p1,r2,t2⟩,0,fun {R} k=>by
   rw [An]
   simp only [hg,m2,m3,hc,g1,r1,e0,e1,X3,d1,p2,bu,cM,Bool.and_self,cond_true,cond_false]⟩
theorem M7 (a0:ai):Nonempty {o:ae×af×ai // ay a0=true→Us a0 o}:=by
 by_cases hg:ay a0=true
 ·obtain ⟨o,ho⟩:=WH a0 hg
  exact ⟨⟨o,fun _=>ho⟩⟩
 ·exact ⟨⟨((zero .node),(zero .aq),(zero .cur)),fun h=>absurd h hg⟩⟩
noncomputable def nm (a0:ai):ae×af×ai:=(Classical.choice (M7 a0)).val
theorem M8 (a0:ai) (hg:ay a0=true):Us a0 (nm a0):=(Classical.choice (M7 a0)).property hg
theorem M9 (a0:ai) (hg:ay a0=true):(fun _ o=>okB o.1=true∧B3 o.2.1=true∧ay o.2.2=true) a0 (nm a0):=(M8 a0 hg).1
theorem M' (a0:ai) (hg:ay a0=true):∃aJ rounds,∀ {R:Type} (k:Kt R),aM R5 aJ rounds M6 [.bj] [false,false] true [.cell 2 35,.cell 3 39] [35,39] [.d .cur a0] k=k [.d .node ((nm a0).1),.d .aq ((nm a0).2.1),.d .cur ((nm a0).2.2)]:=by
 obtain ⟨n,hn⟩:=(M8 a0 hg).2
 exact ⟨R4,n,hn⟩
noncomputable def q48:Qt
 | [.d .cur a0]=>some ((ay a0),[.d .node ((nm a0).1),.d .aq ((nm a0).2.1),.d .cur ((nm a0).2.2)])
 | _=>none
noncomputable def s48:Gm.Spec:=Gm.Spec.of [.bj] [false,false] true q48
theorem WI:Gm.Good Tryd.prog (48,s48):=by
 have hl:∀x∈[(59,s59),(71,s71),(72,Ip),(73,s73),(74,s74),(75,s75),(76,Wv)],Gm.Good Tryd.prog x:=bJ.2 ⟨WG,bJ.2 ⟨MT,bJ.2 ⟨rQ,bJ.2 ⟨MZ,bJ.2 ⟨Wr,bJ.2 ⟨WB,bJ.2 ⟨D5,im⟩⟩⟩⟩⟩⟩⟩
 refine ⟨⟨aK (aV.env hl) (b9.cF hl) Tryd.func48 (by kernel_rfl:Tryd.f48.body=some M6) [35,39] (by kernel_rfl) ?_,_,Tryd.func48,by kernel_rfl,of_decide_eq_true (by kernel_rfl)⟩,Gm.Spec.aB _ _ _ _⟩
 intro ds outs h
 unfold q48 at h
 split at h
 ·simp only [Option.some.injEq,Prod.mk.injEq] at h;obtain ⟨hg,h⟩:=h;cases h;exact M' _ hg
 ·cases h
noncomputable def Na:Code:=(Tryd.f20.body).getD .skip
def R6:Nat→Kp:=fT [⟨[0,2,3],[],[],[]⟩,⟨[2,3,4,5],[],[],[]⟩,⟨[2,3],[],[],[]⟩]
noncomputable def R7:Env:=b9.env [(48,s48),(49,s49)]
theorem R8 {R:Type} (n:Nat) (k:Kt R) (a0:List Int):aM R7 R6 n Na [.kp] [false,false] true [.cell 2 35,.cell 3 39] [35,39] [.d (.sl (.i .u8)) a0] k=
 (cond (iJ a0)
 (cond (ay (lH a0))
 (k [.d .node (eN ((nm (lH a0)).1)),.d .aq (eR ((nm (lH a0)).2.1))])
 none)
 none):=by kernel_rfl
def Ut (a0:List Int) (o:ae×af):Prop:=(fun _ o=>okB o.1=true∧B3 o.2=true) a0 o∧∃n:Nat,∀ {R:Type} (k:Kt R),aM R7 R6 n Na [.kp] [false,false] true [.cell 2 35,.cell 3 39] [35,39] [.d (.sl (.i .u8)) a0] k=k [.d .node o.1,.d .aq o.2]
theorem WJ (a0:List Int) (hg:iJ a0=true):∃o:ae×af,(fun _ o=>okB o.1=true∧B3 o.2=true) a0 o∧∃n:Nat,∀ {R:Type} (k:Kt R),aM R7 R6 n Na [.kp] [false,false] true [.cell 2 35,.cell 3 39] [35,39] [.d (.sl (.i .u8)) a0] k=k [.d .node o.1,.d .aq o.2]:=by
 have g0:=yv a0 hg
 obtain ⟨h1,h2,_⟩:=M9 _ g0
 exact ⟨((nm (lH a0)).1,(nm (lH a0)).2.1),⟨h1,h2⟩,0,fun {R} k=>by
  rw [R8]
  simp only [hg,g0,bu,cM,cond_true]⟩
theorem Nb (a0:List Int):Nonempty {o:ae×af // iJ a0=true→Ut a0 o}:=by
 by_cases hg:iJ a0=true
 ·obtain ⟨o,ho⟩:=WJ a0 hg
  exact ⟨⟨o,fun _=>ho⟩⟩
 ·exact ⟨⟨((zero .node),(zero .aq)),fun h=>absurd h hg⟩⟩
noncomputable def al (a0:List Int):ae×af:=(Classical.choice (Nb a0)).val
theorem Nc (a0:List Int) (hg:iJ a0=true):Ut a0 (al a0):=(Classical.choice (Nb a0)).property hg
theorem HS (a0:List Int) (hg:iJ a0=true):(fun _ o=>okB o.1=true∧B3 o.2=true) a0 (al a0):=(Nc a0 hg).1
theorem Nd (a0:List Int) (hg:iJ a0=true):∃aJ rounds,∀ {R:Type} (k:Kt R),aM R7 aJ rounds Na [.kp] [false,false] true [.cell 2 35,.cell 3 39] [35,39] [.d (.sl (.i .u8)) a0] k=k [.d .node ((al a0).1),.d .aq ((al a0).2)]:=by
 obtain ⟨n,hn⟩:=(Nc a0 hg).2
 exact ⟨R6,n,hn⟩
noncomputable def q20:Qt
 | [.d (.sl (.i .u8)) a0]=>some ((iJ a0),[.d .node ((al a0).1),.d .aq ((al a0).2)])
 | _=>none
noncomputable def s20:Gm.Spec:=Gm.Spec.of [.kp] [false,false] true q20
theorem WK:Gm.Good Tryd.prog (20,s20):=by
 have hl:∀x∈[(48,s48),(49,s49)],Gm.Good Tryd.prog x:=bJ.2 ⟨WI,bJ.2 ⟨VZ,im⟩⟩
 refine ⟨⟨aK (aV.env hl) (b9.cF hl) Tryd.func20 (by kernel_rfl:Tryd.f20.body=some Na) [35,39] (by kernel_rfl) ?_,_,Tryd.func20,by kernel_rfl,of_decide_eq_true (by kernel_rfl)⟩,Gm.Spec.aB _ _ _ _⟩
 intro ds outs h
 unfold q20 at h
 split at h
 ·simp only [Option.some.injEq,Prod.mk.injEq] at h;obtain ⟨hg,h⟩:=h;cases h;exact Nd _ hg
 ·cases h
noncomputable def WL:Code:=(Tryd.f19.body).getD .skip
def aaA:Nat→Kp:=fT [⟨[0],[],[],[]⟩,⟨[2],[],[],[]⟩]
noncomputable def aaB:Env:=b9.env []
theorem R9 {R:Type} (n:Nat) (k:Kt R) (a0:List Int):aM aaB aaA n WL [.ro] [false] true [.tmp 2] [4] [.d (.sl (.i .u8)) a0] k=
 (k [.d .bool (decide ((a0.length:Int)>(1048576:Int)))]):=by kernel_rfl
theorem Nf (a0:List Int):∃aJ rounds,∀ {R:Type} (k:Kt R),aM aaB aJ rounds WL [.ro] [false] true [.tmp 2] [4] [.d (.sl (.i .u8)) a0] k=k [.d .bool (DB a0)]:=by
 exact ⟨aaA,0,fun k=>R9 0 k a0⟩
noncomputable def q19:Qt
 | [.d (.sl (.i .u8)) a0]=>some (true,[.d .bool (DB a0)])
 | _=>none
noncomputable def s19:Gm.Spec:=Gm.Spec.of [.ro] [false] true q19
theorem WM:Gm.Good Tryd.prog (19,s19):=by
 have hl:∀x∈([]:List (Nat×Gm.Spec)),Gm.Good Tryd.prog x:=fun _ h=>by cases h
 refine ⟨⟨aK (aV.env hl) (b9.cF hl) Tryd.func19 (by kernel_rfl:Tryd.f19.body=some WL) [4] (by kernel_rfl) ?_,_,Tryd.func19,by kernel_rfl,of_decide_eq_true (by kernel_rfl)⟩,Gm.Spec.aB _ _ _ _⟩
 intro ds outs h
 unfold q19 at h
 split at h
 ·cases h;exact Nf _
 ·cases h
noncomputable def Gc (y0:List BA) (y1:List BA) (y2:Int) (y3:Int):St:=⟨[(0,.c (.one (.ro .str y0))),(1,.c (.one (.ro .str y1))),(12,.c (.one (.v (.int .i64 y2)))),(13,.c (.one (.v (.int .i64 y3))))],[],[]⟩
noncomputable def Ng:St:=⟨[(4,.c (.one (.v (.bool false))))],[],[]⟩
noncomputable def Nh (y0:List BA) (y1:List BA) (y2:Int) (y3:Int) (y4:Bool):St:=⟨[(0,.c (.one (.ro .str y0))),(1,.c (.one (.ro .str y1))),(12,.c (.one (.v (.int .i64 y2)))),(13,.c (.one (.v (.int .i64 y3)))),(14,.c (.one (.v (.bool y4))))],[],[]⟩
noncomputable def D7:Code:=(Tryd.f55.body).getD .skip
def HT:Nat→Kp:=fT [⟨[0,1],[],[],[]⟩,⟨[0,1,10],[],[],[]⟩,⟨[4],[],[],[]⟩,⟨[0,1,12,13],[],[],[]⟩,⟨[0,1,12,13,14],[],[],[]⟩,⟨[0,1,5,12,13],[],[],[]⟩,⟨[0,1,12,13,24],[],[],[]⟩,⟨[4],[],[],[]⟩,⟨[0,1,12,13],[],[],[]⟩,⟨[4],[],[],[]⟩]
noncomputable def Ao:Env:=b9.env []
noncomputable def wg {R:Type} (n:Nat) (x0:Option R) (x1:Int→Bool→Option R) (wE:List BA) (wA:List BA) (wF:Int):Nat→Int→Option R
  | 0,_=>none
  | m+1,wC=>
    (cond (decide (wC<wF))
   (cond ((decide ((0:Int)≤wC))&&(decide (wC<(wE.length:Int))))
    (cond ((decide ((0:Int)≤wC))&&(decide (wC<(wA.length:Int))))
     (cond (!(eC (ar (t:= .str) wE (Int.toNat wC)) (ar (t:= .str) wA (Int.toNat wC))))
      (x0)
      (wg n x0 x1 wE wA wF m (IntKind.wrap .i64 (wC+(1:Int)))))
     none)
    none)
   (x1 wC (decide (wC<wF))))
theorem Sb {R:Type} (n:Nat) (k':Kx R) (wE:List BA) (wA:List BA) (wF:Int) (wC:Int):ev Ao HT n (bl [1,1,0,1,0,0] D7) (Gc wE wA wF wC) k'=
 (cond (decide (wC<wF))
 (cond ((decide ((0:Int)≤wC))&&(decide (wC<(wE.length:Int))))
 (cond ((decide ((0:Int)≤wC))&&(decide (wC<(wA.length:Int))))
 (cond (!(eC (ar (t:= .str) wE (Int.toNat wC)) (ar (t:= .str) wA (Int.toNat wC))))
 (k' .ret Ng)
 (k' .normal (Gc wE wA wF (IntKind.wrap .i64 (wC+(1:Int))))))
 none)
 none)
 (k' (.exit 0) (Nh wE wA wF wC (decide (wC<wF))))):=by kernel_rfl
theorem Ni {R:Type} (n:Nat) (k':Kx R) (wE:List BA) (wA:List BA) (wF:Int):∀(m:Nat) (wC:Int),iter (fun st k=>ev Ao HT n (bl [1,1,0,1,0,0] D7) st k) m (Gc wE wA wF wC) k'=wg n (k' .ret Ng) (fun (wH:Int) (wI:Bool)=>k' (.exit 0) (Nh wE wA wF wH wI)) wE wA wF m wC:=by
 intro m;induction m with
 | zero=>intros;rfl
 | succ m ih=>
  intro wC
  simp only [iter]
  rw [Sb]
  simp only [ih,wg]
noncomputable def Nj {R:Type} (n:Nat) (k':Kx R):Kx R:=(bZ 0 (dS Ao HT n (bl [1,1,1] D7) k'))
theorem Nk {R:Type} (n:Nat) (k:Kt R) (a0:List BA) (a1:List BA):Nj n (aC Ao [.ro,.ro] [false] true [.tmp 4] [4] [.d (.sl .str) a0,.d (.sl .str) a1] k) .ret Ng=
 (k [.d .bool false]):=by kernel_rfl
theorem Nl {R:Type} (n:Nat) (k:Kt R) (a0:List BA) (a1:List BA) (wE:List BA) (wA:List BA) (wF:Int) (wH:Int) (wI:Bool):Nj n (aC Ao [.ro,.ro] [false] true [.tmp 4] [4] [.d (.sl .str) a0,.d (.sl .str) a1] k) (.exit 0) (Nh wE wA wF wH wI)=
 (k [.d .bool true]):=by kernel_rfl
theorem Sd {R:Type} (n:Nat) (k:Kt R) (a0:List BA) (a1:List BA):aM Ao HT n D7 [.ro,.ro] [false] true [.tmp 4] [4] [.d (.sl .str) a0,.d (.sl .str) a1] k=
 (cond ((a0.length:Int) !=(a1.length:Int))
 (k [.d .bool false])
 (wg n (k [.d .bool false]) (fun (wH:Int) (wI:Bool)=>
 (k [.d .bool true])) a0 a1 (a0.length:Int) n (0:Int))):=by
 refine Eq.trans (b:=(cond ((a0.length:Int) !=(a1.length:Int))
 (k [.d .bool false])
 (iter (fun st k=>ev Ao HT n (bl [1,1,0,1,0,0] D7) st k) n (Gc a0 a1 (a0.length:Int) (0:Int)) (Nj n (aC Ao [.ro,.ro] [false] true [.tmp 4] [4] [.d (.sl .str) a0,.d (.sl .str) a1] k))))) (by kernel_rfl) ?_
 simp only [Ni,Nk,Nl]
theorem Nn (a0:List BA) (a1:List BA) (hg:fW a0=true):∃aJ rounds,∀ {R:Type} (k:Kt R),aM Ao aJ rounds D7 [.ro,.ro] [false] true [.tmp 4] [4] [.d (.sl .str) a0,.d (.sl .str) a1] k=k [.d .bool (pa a0 a1)]:=by
 have hl:=vh hg
 refine ⟨HT,a0.length+1,fun k=> ?_⟩
 rw [Sd]
 by_cases hc:a0.length=a1.length
 ·have r6:((a0.length:Int) !=(a1.length:Int))=false:=by simp [hc]
  simp only [r6,cond_false]
  refine Eq.trans (iG (n:=a0.length) (F:=fun m i=>wg (a0.length+1) _ _ a0 a1 (a0.length:Int) m i) (p:=fun j=>eC (ar (t:= .str) a0 j) (ar (t:= .str) a1 j)) (good:=k [.d .bool true]) (bad:=k [.d .bool false])
   (fun m j hj=> ?_) (fun m=>by simp only [wg,gG,cond_false]) a0.length 0 (a0.length+1) (by omega) (by omega)) ?_
  ·obtain ⟨h1,h0,hw,ht⟩:=idx hj (by omega)
   obtain ⟨h2,_,_,_⟩:=idx (show j<a1.length by omega) (by omega)
   simp only [wg,h1,h0,h2,hw,ht,Bool.and_self,cond_true]
   cases eC (ar (t:= .str) a0 j) (ar (t:= .str) a1 j)<;>rfl
  ·rw [Fa hc (fun j x y hx hy=>by rw [bz (t:= .str) hx,bz (t:= .str) hy,←Qp])]
   cases pa a0 a1<;>rfl
 ·simp only [JT hc,cond_true]
  rw [JR (fun e=>hc (by rw [e]))]
noncomputable def q55:Qt
 | [.d (.sl .str) a0,.d (.sl .str) a1]=>some (((fun (x y:List BA)=>fW x) a0 a1),[.d .bool (pa a0 a1)])
 | _=>none
noncomputable def s55:Gm.Spec:=Gm.Spec.of [.ro,.ro] [false] true q55
theorem WN:Gm.Good Tryd.prog (55,s55):=by
 have hl:∀x∈([]:List (Nat×Gm.Spec)),Gm.Good Tryd.prog x:=fun _ h=>by cases h
 refine ⟨⟨aK (aV.env hl) (b9.cF hl) Tryd.func55 (by kernel_rfl:Tryd.f55.body=some D7) [4] (by kernel_rfl) ?_,_,Tryd.func55,by kernel_rfl,of_decide_eq_true (by kernel_rfl)⟩,Gm.Spec.aB _ _ _ _⟩
 intro ds outs h
 unfold q55 at h
 split at h
 ·simp only [Option.some.injEq,Prod.mk.injEq] at h;obtain ⟨hg,h⟩:=h;cases h;exact Nn _ _ hg
 ·cases h
noncomputable def X7:Qt
 | [.d .node a0,.d .node a1]=>some ((Av ak a0 a1),[.d .bool (pa a0 a1)])
 | _=>none
noncomputable def No:List Dt→Nat
 | [.d .node a0,.d .node a1]=>kU a0 a1
 | _=>0
noncomputable def Se (N:Nat):Gm.Spec:=Gm.Spec.of [.ro,.ro] [false] true (nS No N X7)
noncomputable def s24:Gm.Spec:=Gm.Spec.of [.ro,.ro] [false] true X7
noncomputable def q56:Qt
 | [.d (.sl .node) a0,.d (.sl .node) a1,.fH 24 []]=>some ((Av (gh ak) a0 a1),[.d .bool (pa a0 a1)])
 | _=>none
noncomputable def Np:List Dt→Nat
 | [.d (.sl .node) a0,.d (.sl .node) a1,.fH 24 []]=>js a0 a1
 | _=>0
noncomputable def aaD (N:Nat):Gm.Spec:=Gm.Spec.of [.ro,.ro,.fn] [false] true (nS Np N q56)
noncomputable def WO:Code:=(Tryd.f24.body).getD .skip
def aaE:Nat→Kp:=fT [⟨[2,3],[],[],[]⟩,⟨[4],[],[],[]⟩]
noncomputable def WQ (N:Nat):Env:=b9.env [(24,Se N),(55,s55),(56,aaD N)]
theorem Sf {R:Type} (N:Nat) (n:Nat) (k:Kt R) (a0:ae) (a1:ae):aM (WQ N) aaE n WO [.ro,.ro] [false] true [.tmp 4] [4] [.d .node a0,.d .node a1] k=
 (cond ((ae.kind a0)==(ae.kind a1))
 (cond ((ae.n a0)==(ae.n a1))
 (cond (eC (ae.s a0) (ae.s a1))
 (cond ((fun (x y:List BA)=>fW x) (ae.keys a0) (ae.keys a1))
 (cond (pa (ae.keys a0) (ae.keys a1))
 (cond ((Av (gh ak) (ae.kids a0) (ae.kids a1))&&(Nat.blt (js (ae.kids a0) (ae.kids a1)) N))
 (k [.d .bool (pa (ae.kids a0) (ae.kids a1))])
 none)
 (k [.d .bool false]))
 none)
 (k [.d .bool false]))
 (k [.d .bool false]))
 (k [.d .bool false])):=by kernel_rfl
theorem Nq (N:Nat) (a0:ae) (a1:ae) (hg:Av ak a0 a1=true) (hm:No [.d .node a0,.d .node a1]=N):∃aJ rounds,∀ {R:Type} (k:Kt R),aM (WQ N) aJ rounds WO [.ro,.ro] [false] true [.tmp 4] [4] [.d .node a0,.d .node a1] k=k [.d .bool (pa a0 a1)]:=by
 have hm:kU a0 a1=N:=hm
 subst hm
 have m1:Nat.blt (js a0.kids a1.kids) (kU a0 a1)=true:=by rw [Nat.blt_eq];simp only [js,kU,dE];omega
 simp only [Av,bY,Bool.and_eq_true] at hg
 have gk:fW a0.keys=true:=vi hg.1.2.2.2.1
 refine ⟨aaE,0,fun {R} k=> ?_⟩
 rw [Sf,J3]
 simp only [Av,gk,hg,m1,Bool.and_self,Bool.true_and,cond_true]
 cases (a0.kind==a1.kind)<;>cases (a0.n==a1.n)<;>cases eC a0.s a1.s<;>cases pa a0.keys a1.keys<;>rfl
noncomputable def Gd (y0:List ae) (y1:List ae) (y2:Int) (y3:Int):St:=⟨[(1,.c (.one (.ro .node y0))),(2,.c (.one (.oT 24 []))),(15,.c (.one (.ro .node y1))),(16,.c (.one (.v (.int .i64 y2)))),(17,.c (.one (.v (.int .i64 y3))))],[],[]⟩
noncomputable def Nr:St:=⟨[(6,.c (.one (.v (.bool false))))],[],[]⟩
noncomputable def Ns (y0:List ae) (y1:List ae) (y2:Int) (y3:Int) (y4:Bool):St:=⟨[(1,.c (.one (.ro .node y0))),(2,.c (.one (.oT 24 []))),(15,.c (.one (.ro .node y1))),(16,.c (.one (.v (.int .i64 y2)))),(17,.c (.one (.v (.int .i64 y3)))),(18,.c (.one (.v (.bool y4))))],[],[]⟩
noncomputable def D8:Code:=(Tryd.f56.body).getD .skip
def HU:Nat→Kp:=fT [⟨[0,1,2],[],[],[]⟩,⟨[0,1,2,14],[],[],[]⟩,⟨[6],[],[],[]⟩,⟨[1,2,15,16,17],[],[],[]⟩,⟨[1,2,15,16,17,18],[],[],[]⟩,⟨[1,2,7,8,15,16,17],[],[],[]⟩,⟨[1,2,8,9,15,16,17],[],[],[]⟩,⟨[1,2,15,16,17,30],[],[],[]⟩,⟨[6],[],[],[]⟩,⟨[1,2,15,16,17],[],[],[]⟩,⟨[6],[],[],[]⟩]
noncomputable def xt (N:Nat):Env:=b9.env [(24,Se N)]
noncomputable def wh {R:Type} (N:Nat) (n:Nat) (x0:Option R) (x1:Int→Bool→Option R) (wA:List ae) (wD:List ae) (wG:Int):Nat→Int→Option R
  | 0,_=>none
  | m+1,wB=>
    (cond (decide (wB<wG))
   (cond ((decide ((0:Int)≤wB))&&(decide (wB<(wD.length:Int))))
    (cond ((decide ((0:Int)≤wB))&&(decide (wB<(wA.length:Int))))
     (cond ((Av ak (eN (ar (t:= .node) wD (Int.toNat wB))) (eN (ar (t:= .node) wA (Int.toNat wB))))&&(Nat.blt (kU (eN (ar (t:= .node) wD (Int.toNat wB))) (eN (ar (t:= .node) wA (Int.toNat wB)))) N))
      (cond (!(pa (eN (ar (t:= .node) wD (Int.toNat wB))) (eN (ar (t:= .node) wA (Int.toNat wB)))))
       (x0)
       (wh N n x0 x1 wA wD wG m (IntKind.wrap .i64 (wB+(1:Int)))))
      none)
     none)
    none)
   (x1 wB (decide (wB<wG))))
theorem Sg {R:Type} (N:Nat) (n:Nat) (k':Kx R) (wA:List ae) (wD:List ae) (wG:Int) (wB:Int):ev (xt N) HU n (bl [1,1,0,1,0,0] D8) (Gd wA wD wG wB) k'=
 (cond (decide (wB<wG))
 (cond ((decide ((0:Int)≤wB))&&(decide (wB<(wD.length:Int))))
 (cond ((decide ((0:Int)≤wB))&&(decide (wB<(wA.length:Int))))
 (cond ((Av ak (eN (ar (t:= .node) wD (Int.toNat wB))) (eN (ar (t:= .node) wA (Int.toNat wB))))&&(Nat.blt (kU (eN (ar (t:= .node) wD (Int.toNat wB))) (eN (ar (t:= .node) wA (Int.toNat wB)))) N))
 (cond (!(pa (eN (ar (t:= .node) wD (Int.toNat wB))) (eN (ar (t:= .node) wA (Int.toNat wB)))))
 (k' .ret Nr)
 (k' .normal (Gd wA wD wG (IntKind.wrap .i64 (wB+(1:Int))))))
 none)
 none)
 none)
 (k' (.exit 0) (Ns wA wD wG wB (decide (wB<wG))))):=by kernel_rfl
theorem Nt {R:Type} (N:Nat) (n:Nat) (k':Kx R) (wA:List ae) (wD:List ae) (wG:Int):∀(m:Nat) (wB:Int),iter (fun st k=>ev (xt N) HU n (bl [1,1,0,1,0,0] D8) st k) m (Gd wA wD wG wB) k'=wh N n (k' .ret Nr) (fun (wJ:Int) (wK:Bool)=>k' (.exit 0) (Ns wA wD wG wJ wK)) wA wD wG m wB:=by
 intro m;induction m with
 | zero=>intros;rfl
 | succ m ih=>
  intro wB
  simp only [iter]
  rw [Sg]
  simp only [ih,wh]
noncomputable def Nu {R:Type} (N:Nat) (n:Nat) (k':Kx R):Kx R:=(bZ 0 (dS (xt N) HU n (bl [1,1,1] D8) k'))
theorem Nv {R:Type} (N:Nat) (n:Nat) (k:Kt R) (a0:List ae) (a1:List ae):Nu N n (aC (xt N) [.ro,.ro,.fn] [false] true [.tmp 6] [4] [.d (.sl .node) a0,.d (.sl .node) a1,.fH 24 []] k) .ret Nr=
 (k [.d .bool false]):=by kernel_rfl
theorem Nw {R:Type} (N:Nat) (n:Nat) (k:Kt R) (a0:List ae) (a1:List ae) (wA:List ae) (wD:List ae) (wG:Int) (wJ:Int) (wK:Bool):Nu N n (aC (xt N) [.ro,.ro,.fn] [false] true [.tmp 6] [4] [.d (.sl .node) a0,.d (.sl .node) a1,.fH 24 []] k) (.exit 0) (Ns wA wD wG wJ wK)=
 (k [.d .bool true]):=by kernel_rfl
theorem Sh {R:Type} (N:Nat) (n:Nat) (k:Kt R) (a0:List ae) (a1:List ae):aM (xt N) HU n D8 [.ro,.ro,.fn] [false] true [.tmp 6] [4] [.d (.sl .node) a0,.d (.sl .node) a1,.fH 24 []] k=
 (cond ((a0.length:Int) !=(a1.length:Int))
 (k [.d .bool false])
 (wh N n (k [.d .bool false]) (fun (wJ:Int) (wK:Bool)=>
 (k [.d .bool true])) a1 a0 (a0.length:Int) n (0:Int))):=by
 refine Eq.trans (b:=(cond ((a0.length:Int) !=(a1.length:Int))
 (k [.d .bool false])
 (iter (fun st k=>ev (xt N) HU n (bl [1,1,0,1,0,0] D8) st k) n (Gd a1 a0 (a0.length:Int) (0:Int)) (Nu N n (aC (xt N) [.ro,.ro,.fn] [false] true [.tmp 6] [4] [.d (.sl .node) a0,.d (.sl .node) a1,.fH 24 []] k))))) (by kernel_rfl) ?_
 simp only [Nt,Nv,Nw]
theorem Nx (N:Nat) (a0:List ae) (a1:List ae) (hg:Av (gh ak) a0 a1=true) (hm:Np [.d (.sl .node) a0,.d (.sl .node) a1,.fH 24 []]=N):∃aJ rounds,∀ {R:Type} (k:Kt R),aM (xt N) aJ rounds D8 [.ro,.ro,.fn] [false] true [.tmp 6] [4] [.d (.sl .node) a0,.d (.sl .node) a1,.fH 24 []] k=k [.d .bool (pa a0 a1)]:=by
 have hm:js a0 a1=N:=hm
 subst hm
 simp only [Av,Bool.and_eq_true] at hg
 obtain ⟨pg,hg1⟩:=hg
 have hl:a0.length≤1048576:=bp pg
 refine ⟨HU,a0.length+1,fun {R} k=> ?_⟩
 rw [Sh]
 by_cases hc:a0.length=a1.length
 ·have r6:((a0.length:Int) !=(a1.length:Int))=false:=by simp [hc]
  simp only [r6,cond_false]
  refine Eq.trans (iG (n:=a0.length) (F:=fun m i=>wh (js a0 a1) (a0.length+1) _ _ a1 a0 (a0.length:Int) m i) (p:=fun j=>pa (ar (t:= .node) a0 j) (ar (t:= .node) a1 j)) (good:=k [.d .bool true]) (bad:=k [.d .bool false])
   (fun m j hj=> ?_) (fun m=>by simp only [wh,gG,cond_false]) a0.length 0 (a0.length+1) (by omega) (by omega)) ?_
  ·obtain ⟨h1,h0,hw,ht⟩:=idx hj (by omega)
   obtain ⟨h2,_,_,_⟩:=idx (show j<a1.length by omega) (by omega)
   have ha:=vd (t:= .node) pg hj
   have hb:=vd (t:= .node) hg1 (show j<a1.length by omega)
   have JN:Nat.blt (kU (ar (t:= .node) a0 j) (ar (t:= .node) a1 j)) (js a0 a1)=true:=by
    obtain ⟨x,hx,_⟩:=cL hj
    have:=oK (f:=ao) (List.mem_of_getElem? hx)
    rw [bz (t:= .node) hx,Nat.blt_eq];simp only [kU,js];omega
   simp only [wh,h1,h0,h2,hw,ht,Bool.and_self,cond_true,Av,aT,bu,ha,hb,JN]
   cases pa (ar (t:= .node) a0 j) (ar (t:= .node) a1 j)<;>rfl
  ·rw [Fa hc (fun j x y hx hy=>by rw [bz (t:= .node) hx,bz (t:= .node) hy])]
   cases pa a0 a1<;>rfl
 ·simp only [JT hc,cond_true]
  rw [JR (fun e=>hc (by rw [e]))]
theorem Si:∀x∈([⟨24,[.ro,.ro],[false],true,No,X7⟩,⟨56,[.ro,.ro,.fn],[false],true,Np,q56⟩]:List Rc),Gm.bV Tryd.prog x.f (Gm.Spec.of x.ms x.rs x.ow x.q):=by
 refine rD _ fun N hr=> ?_
 have Jb:Gm.bV Tryd.prog 24 (Gm.Spec.of [.ro,.ro] [false] true (nS No N X7)):=fun {R}=>hr _ (.head _)
 have Ny:Gm.bV Tryd.prog 56 (Gm.Spec.of [.ro,.ro,.fn] [false] true (nS Np N q56)):=fun {R}=>hr _ (.tail _ (.head _))
 refine bJ.2 ⟨?_,bJ.2 ⟨?_,im⟩⟩
 ·have hl:∀x∈([(24,Se N),(55,s55),(56,aaD N)]:List (Nat×Gm.Spec)),Gm.Good Tryd.prog x:=bJ.2 ⟨⟨⟨Jb,_,Tryd.func24,by kernel_rfl,of_decide_eq_true (by kernel_rfl)⟩,Gm.Spec.aB _ _ _ _⟩,bJ.2 ⟨WN,bJ.2 ⟨⟨⟨Ny,_,Tryd.func56,by kernel_rfl,of_decide_eq_true (by kernel_rfl)⟩,Gm.Spec.aB _ _ _ _⟩,im⟩⟩⟩
  show Gm.bV Tryd.prog 24 (Gm.Spec.of [.ro,.ro] [false] true (w8 No N X7))
  intro R
  refine aK (E:=WQ N) (aV.env hl) (b9.cF hl) Tryd.func24 (by kernel_rfl:Tryd.f24.body=some WO) [4] (by kernel_rfl) ?_
  intro ds outs h
  obtain ⟨h,hm⟩:=cT h
  unfold X7 at h
  split at h
  ·simp only [Option.some.injEq,Prod.mk.injEq] at h;obtain ⟨hg,h⟩:=h;cases h;exact Nq N _ _ hg hm
  ·cases h
 ·have hl:∀x∈([(24,Se N)]:List (Nat×Gm.Spec)),Gm.Good Tryd.prog x:=bJ.2 ⟨⟨⟨Jb,_,Tryd.func24,by kernel_rfl,of_decide_eq_true (by kernel_rfl)⟩,Gm.Spec.aB _ _ _ _⟩,im⟩
  show Gm.bV Tryd.prog 56 (Gm.Spec.of [.ro,.ro,.fn] [false] true (w8 Np N q56))
  intro R
  refine aK (E:=xt N) (aV.env hl) (b9.cF hl) Tryd.func56 (by kernel_rfl:Tryd.f56.body=some D8) [4] (by kernel_rfl) ?_
  intro ds outs h
  obtain ⟨h,hm⟩:=cT h
  unfold q56 at h
  split at h
  ·simp only [Option.some.injEq,Prod.mk.injEq] at h;obtain ⟨hg,h⟩:=h;cases h;exact Nx N _ _ hg hm
  ·cases h
theorem WR:Gm.Good Tryd.prog (24,s24):=⟨⟨fun {R}=>Si _ (.head _),_,Tryd.func24,by kernel_rfl,of_decide_eq_true (by kernel_rfl)⟩,Gm.Spec.aB _ _ _ _⟩
noncomputable def WS:Code:=(Tryd.f77.body).getD .skip
def aaF:Nat→Kp:=fT [⟨[1],[],[],[]⟩,⟨[2],[],[],[]⟩]
noncomputable def aaG:Env:=b9.env []
theorem Sj {R:Type} (n:Nat) (k:Kt R) (a0:ae):aM aaG aaF n WS [.ro] [false] true [.tmp 2] [4] [.d .node a0] k=
 (cond ((ae.kind a0)==(5:Int))
 (k [.d .bool (((ae.keys a0).length:Int)==((ae.kids a0).length:Int))])
 (k [.d .bool false])):=by kernel_rfl
theorem Nz (a0:ae):∃aJ rounds,∀ {R:Type} (k:Kt R),aM aaG aJ rounds WS [.ro] [false] true [.tmp 2] [4] [.d .node a0] k=k [.d .bool (bM a0)]:=by
 refine ⟨aaF,0,fun k=> ?_⟩
 rw [Sj];unfold bM
 cases a0.kind==(5:Int)<;>rfl
noncomputable def q77:Qt
 | [.d .node a0]=>some (true,[.d .bool (bM a0)])
 | _=>none
noncomputable def s77:Gm.Spec:=Gm.Spec.of [.ro] [false] true q77
theorem WT:Gm.Good Tryd.prog (77,s77):=by
 have hl:∀x∈([]:List (Nat×Gm.Spec)),Gm.Good Tryd.prog x:=fun _ h=>by cases h
 refine ⟨⟨aK (aV.env hl) (b9.cF hl) Tryd.func77 (by kernel_rfl:Tryd.f77.body=some WS) [4] (by kernel_rfl) ?_,_,Tryd.func77,by kernel_rfl,of_decide_eq_true (by kernel_rfl)⟩,Gm.Spec.aB _ _ _ _⟩
 intro ds outs h
 unfold q77 at h
 split at h
 ·cases h;exact Nz _
 ·cases h
noncomputable def WU:Code:=(Tryd.f84.body).getD .skip
def aaH:Nat→Kp:=fT [⟨[1],[],[],[]⟩,⟨[2],[],[],[]⟩]
noncomputable def aaI:Env:=b9.env []
theorem Sk {R:Type} (n:Nat) (k:Kt R) (a0:ae):aM aaI aaH n WU [.ro] [false] true [.tmp 2] [4] [.d .node a0] k=
 (cond ((ae.kind a0)==(5:Int))
 (k [.d .bool (((ae.keys a0).length:Int)==((ae.kids a0).length:Int))])
 (k [.d .bool false])):=by kernel_rfl
theorem NA (a0:ae):∃aJ rounds,∀ {R:Type} (k:Kt R),aM aaI aJ rounds WU [.ro] [false] true [.tmp 2] [4] [.d .node a0] k=k [.d .bool (bM a0)]:=by
 refine ⟨aaH,0,fun k=> ?_⟩
 rw [Sk];unfold bM
 cases a0.kind==(5:Int)<;>rfl
noncomputable def q84:Qt
 | [.d .node a0]=>some (true,[.d .bool (bM a0)])
 | _=>none
noncomputable def s84:Gm.Spec:=Gm.Spec.of [.ro] [false] true q84
theorem WV:Gm.Good Tryd.prog (84,s84):=by
 have hl:∀x∈([]:List (Nat×Gm.Spec)),Gm.Good Tryd.prog x:=fun _ h=>by cases h
 refine ⟨⟨aK (aV.env hl) (b9.cF hl) Tryd.func84 (by kernel_rfl:Tryd.f84.body=some WU) [4] (by kernel_rfl) ?_,_,Tryd.func84,by kernel_rfl,of_decide_eq_true (by kernel_rfl)⟩,Gm.Spec.aB _ _ _ _⟩
 intro ds outs h
 unfold q84 at h
 split at h
 ·cases h;exact NA _
 ·cases h
noncomputable def WW:Code:=(Tryd.f69.body).getD .skip
def aaJ:Nat→Kp:=fT [⟨[1,2,4],[],[],[]⟩,⟨[2,4,6],[],[],[]⟩,⟨[2,4,6,12],[],[],[]⟩,⟨[4,5],[],[],[]⟩,⟨[4,5],[],[],[]⟩]
noncomputable def aaK:Env:=b9.env [(91,Z7)]
theorem Sm {R:Type} (n:Nat) (k:Kt R) (a0:af) (a1:BA):aM aaK aaJ n WW [.ro,.ro] [false,false] false [.cell 4 39,.tmp 5] [39,4] [.d .aq a0,.d .str a1] k=
 (cond ((fun (x:List BA) (_:BA)=>fW x) (af.keys a0) a1)
 (cond (decide ((s5 (af.keys a0) a1)<(0:Int)))
 (k [.d .aq (⟨(0:Int),([]:List BA),([]:List af),([]:List Bool),(0:Int),(0:Int)⟩:af),.d .bool false])
 (cond ((decide ((0:Int)≤(s5 (af.keys a0) a1)))&&(decide ((s5 (af.keys a0) a1)<((af.kids a0).length:Int))))
 (k [.d .aq (eR (ar (t:= .aq) (af.kids a0) (Int.toNat (s5 (af.keys a0) a1)))),.d .bool true])
 none))
 none):=by kernel_rfl
theorem NB (a0:af) (a1:BA) (hg:BV a0 a1=true):∃aJ rounds,∀ {R:Type} (k:Kt R),aM aaK aJ rounds WW [.ro,.ro] [false,false] false [.cell 4 39,.tmp 5] [39,4] [.d .aq a0,.d .str a1] k=k [.d .aq ((bI a0 a1).1),.d .bool ((bI a0 a1).2)]:=by
 simp only [BV,Bool.and_eq_true,decide_eq_true_eq] at hg
 obtain ⟨hr,hle⟩:=hg
 have xR:=hr
 rw [bL] at hr
 simp only [Bool.and_eq_true] at hr
 obtain ⟨_,Uu,D9,_⟩:=hr
 have nrk:=bp Uu
 have WX:=bp D9
 refine ⟨aaJ,0,fun k=> ?_⟩
 rw [Sm]
 show _=k [.d .aq (bI a0 a1).1,.d .bool (bI a0 a1).2]
 simp only [vi Uu,cond_true,bN,cM]
 rw [show s5 a0.keys a1=bg a0 a1 from rfl]
 unfold bI
 by_cases hk:bg a0 a1<0
 ·rw [decide_eq_true hk];rfl
 ·obtain ⟨i,e,hi⟩:=je hk
  rw [decide_eq_false hk,decide_eq_true (show (0:Int)≤bg a0 a1 by omega),decide_eq_true (show bg a0 a1<(a0.kids.length:Int) by omega)]
  rfl
noncomputable def q69:Qt
 | [.d .aq a0,.d .str a1]=>some ((BV a0 a1),[.d .aq ((bI a0 a1).1),.d .bool ((bI a0 a1).2)])
 | _=>none
noncomputable def s69:Gm.Spec:=Gm.Spec.of [.ro,.ro] [false,false] false q69
theorem NC:Gm.Good Tryd.prog (69,s69):=by
 have hl:∀x∈[(91,Z7)],Gm.Good Tryd.prog x:=bJ.2 ⟨Lc,im⟩
 refine ⟨⟨aK (aV.env hl) (b9.cF hl) Tryd.func69 (by kernel_rfl:Tryd.f69.body=some WW) [39,4] (by kernel_rfl) ?_,_,Tryd.func69,by kernel_rfl,of_decide_eq_true (by kernel_rfl)⟩,Gm.Spec.aB _ _ _ _⟩
 intro ds outs h
 unfold q69 at h
 split at h
 ·simp only [Option.some.injEq,Prod.mk.injEq] at h;obtain ⟨hg,h⟩:=h;cases h;exact NB _ _ hg
 ·cases h
noncomputable def Ge (y0:BA) (y1:Int) (y2:Int) (y3:List BA) (y4:List af) (y5:List Bool) (y6:Int) (y7:Int):St:=⟨[(1,.c (.one (.v (.string y0)))),(2,.c (.one (.pt 2 0))),(5,.c (.one (.v (.int .i64 y1))))],[(2,⟨.aq,[.v (.int .i64 y2),.ro .str y3,.ro .aq y4,.ro .bool y5,.v (.int .i64 y6),.v (.int .i64 y7)]⟩)],[]⟩
noncomputable def ND (y0:Int):St:=⟨[(4,.c (.one (.v (.int .i64 y0))))],[],[]⟩
noncomputable def NF (y0:BA) (y1:Int) (y2:Bool) (y3:Int) (y4:List BA) (y5:List af) (y6:List Bool) (y7:Int) (y8:Int):St:=⟨[(1,.c (.one (.v (.string y0)))),(2,.c (.one (.pt 2 0))),(5,.c (.one (.v (.int .i64 y1)))),(10,.c (.one (.v (.bool y2))))],[(2,⟨.aq,[.v (.int .i64 y3),.ro .str y4,.ro .aq y5,.ro .bool y6,.v (.int .i64 y7),.v (.int .i64 y8)]⟩)],[]⟩
noncomputable def D':Code:=(Tryd.f85.body).getD .skip
def HV:Nat→Kp:=fT [⟨[1,2],[],[],[]⟩,⟨[1,2,5],[],[],[]⟩,⟨[1,2,5,10],[],[],[]⟩,⟨[1,2,5],[],[],[]⟩,⟨[1,2,5,19],[],[],[]⟩,⟨[4],[],[],[]⟩,⟨[4],[],[],[]⟩]
noncomputable def Ap:Env:=b9.env []
noncomputable def wi {R:Type} (n:Nat) (x0:Int→Option R) (x1:Int→Bool→Option R) (uD:BA) (wH:Int) (wG:List BA) (wI:List af) (wJ:List Bool) (wK:Int) (uH:Int):Nat→Int→Option R
  | 0,_=>none
  | m+1,wW=>
    (cond (decide (wW<(wG.length:Int)))
   (cond ((decide ((0:Int)≤wW))&&(decide (wW<(wG.length:Int))))
    (cond (eC (ar (t:= .str) wG (Int.toNat wW)) uD)
     (x0 wW)
     (wi n x0 x1 uD wH wG wI wJ wK uH m (IntKind.wrap .i64 (wW+(1:Int)))))
    none)
   (x1 wW (decide (wW<(wG.length:Int)))))
theorem Sn {R:Type} (n:Nat) (k':Kx R) (uD:BA) (wW:Int) (wH:Int) (wG:List BA) (wI:List af) (wJ:List Bool) (wK:Int) (uH:Int):ev Ap HV n (bl [1,0,1,0,0] D') (Ge uD wW wH wG wI wJ wK uH) k'=
 (cond (decide (wW<(wG.length:Int)))
 (cond ((decide ((0:Int)≤wW))&&(decide (wW<(wG.length:Int))))
 (cond (eC (ar (t:= .str) wG (Int.toNat wW)) uD)
 (k' .ret (ND wW))
 (k' .normal (Ge uD (IntKind.wrap .i64 (wW+(1:Int))) wH wG wI wJ wK uH)))
 none)
 (k' (.exit 0) (NF uD wW (decide (wW<(wG.length:Int))) wH wG wI wJ wK uH))):=by kernel_rfl
theorem NG {R:Type} (n:Nat) (k':Kx R) (uD:BA) (wH:Int) (wG:List BA) (wI:List af) (wJ:List Bool) (wK:Int) (uH:Int):∀(m:Nat) (wW:Int),iter (fun st k=>ev Ap HV n (bl [1,0,1,0,0] D') st k) m (Ge uD wW wH wG wI wJ wK uH) k'=wi n (fun (uL:Int)=>k' .ret (ND uL)) (fun (uQ:Int) (uR:Bool)=>k' (.exit 0) (NF uD uQ uR wH wG wI wJ wK uH)) uD wH wG wI wJ wK uH m wW:=by
 intro m;induction m with
 | zero=>intros;rfl
 | succ m ih=>
  intro wW
  simp only [iter]
  rw [Sn]
  simp only [ih,wi]
noncomputable def NH {R:Type} (n:Nat) (k':Kx R):Kx R:=(bZ 0 (dS Ap HV n (bl [1,1] D') k'))
theorem NI {R:Type} (n:Nat) (k:Kt R) (a0:af) (a1:BA) (uL:Int):NH n (aC Ap [.ro,.ro] [false] true [.tmp 4] [3] [.d .aq a0,.d .str a1] k) .ret (ND uL)=
 (k [.d (.i .i64) uL]):=by kernel_rfl
theorem NJ {R:Type} (n:Nat) (k:Kt R) (a0:af) (a1:BA) (uD:BA) (wH:Int) (wG:List BA) (wI:List af) (wJ:List Bool) (wK:Int) (uH:Int) (uQ:Int) (uR:Bool):NH n (aC Ap [.ro,.ro] [false] true [.tmp 4] [3] [.d .aq a0,.d .str a1] k) (.exit 0) (NF uD uQ uR wH wG wI wJ wK uH)=
 (k [.d (.i .i64) (-1:Int)]):=by kernel_rfl
theorem So {R:Type} (n:Nat) (k:Kt R) (a0:af) (a1:BA):aM Ap HV n D' [.ro,.ro] [false] true [.tmp 4] [3] [.d .aq a0,.d .str a1] k=
 (wi n (fun (uL:Int)=>
 (k [.d (.i .i64) uL])) (fun (uQ:Int) (uR:Bool)=>
 (k [.d (.i .i64) (-1:Int)])) a1 (af.kind a0) (af.keys a0) (af.kids a0) (af.need a0) (af.low a0) (af.high a0) n (0:Int)):=by
 refine Eq.trans (b:=(iter (fun st k=>ev Ap HV n (bl [1,0,1,0,0] D') st k) n (Ge a1 (0:Int) (af.kind a0) (af.keys a0) (af.kids a0) (af.need a0) (af.low a0) (af.high a0)) (NH n (aC Ap [.ro,.ro] [false] true [.tmp 4] [3] [.d .aq a0,.d .str a1] k)))) (by kernel_rfl) ?_
 simp only [NG,NI,NJ]
theorem NK (a0:af) (a1:BA) (hr:bm a0=true):∃aJ rounds,∀ {R:Type} (k:Kt R),aM Ap aJ rounds D' [.ro,.ro] [false] true [.tmp 4] [3] [.d .aq a0,.d .str a1] k=k [.d (.i .i64) (bg a0 a1)]:=by
 have xR:=hr
 rw [bL] at hr
 simp only [Bool.and_eq_true] at hr
 obtain ⟨_,Uu,D9,_⟩:=hr
 have nrk:=bp Uu
 have WX:=bp D9
 refine ⟨HV,a0.keys.length+1,fun {R} k=> ?_⟩
 rw [So,mP]
 refine Eq.trans (gi (n:=a0.keys.length) (F:=fun m i=>wi (a0.keys.length+1) _ _ a1 a0.kind a0.keys a0.kids a0.need a0.low a0.high m i) (p:=fun j=>eC (ar (t:= .str) a0.keys j) a1) (hit:=fun i=>k [.d (.i .i64) i]) (miss:=k [.d (.i .i64) (-1:Int)])
  (fun m j hj=> ?_) (fun m=>by simp only [wi,gG,cond_false]) a0.keys.length 0 (a0.keys.length+1) (by omega) (by omega)) ?_
 ·obtain ⟨h1,h0,hw,ht⟩:=idx hj (by omega)
  simp only [wi,h1,h0,hw,ht,Bool.and_self,cond_true]
 ·cases cC (fun j=>eC (ar (t:= .str) a0.keys j) a1) 0 a0.keys.length<;>rfl
noncomputable def q85:Qt
 | [.d .aq a0,.d .str a1]=>some (((fun (r:af) (_:BA)=>bm r) a0 a1),[.d (.i .i64) (bg a0 a1)])
 | _=>none
noncomputable def s85:Gm.Spec:=Gm.Spec.of [.ro,.ro] [false] true q85
theorem WY:Gm.Good Tryd.prog (85,s85):=by
 have hl:∀x∈([]:List (Nat×Gm.Spec)),Gm.Good Tryd.prog x:=fun _ h=>by cases h
 refine ⟨⟨aK (aV.env hl) (b9.cF hl) Tryd.func85 (by kernel_rfl:Tryd.f85.body=some D') [3] (by kernel_rfl) ?_,_,Tryd.func85,by kernel_rfl,of_decide_eq_true (by kernel_rfl)⟩,Gm.Spec.aB _ _ _ _⟩
 intro ds outs h
 unfold q85 at h
 split at h
 ·simp only [Option.some.injEq,Prod.mk.injEq] at h;obtain ⟨hg,h⟩:=h;cases h;exact NK _ _ hg
 ·cases h
noncomputable def q51:Qt
 | [.d .node a0,.d .aq a1]=>some ((tp a0 a1),[.d .node (prune a0 a1)])
 | _=>none
noncomputable def WZ:List Dt→Nat
 | [.d .node a0,.d .aq a1]=>(fun (t:ae) (_:af)=>ao t) a0 a1
 | _=>0
noncomputable def aaM (N:Nat):Gm.Spec:=Gm.Spec.of [.ro,.ro] [false] true (nS WZ N q51)
noncomputable def Cl (y0:Int) (y1:Int) (y2:Int) (y3:Int) (y4:BA) (y5:Int) (y6:List BA) (y7:List af) (y8:List Bool) (y9:Int) (fc:Int) (o4:Int) (oq:Int) (qP:BA) (Ac:List BA) (Cd:List ae) (D1:List BA) (LL:List ae):St:=⟨[(2,.c (.one (.pt 2 0))),(3,.c (.one (.pt 3 0))),(4,.c (.one (.pt 4 0))),(5,.c (.one (.pt 5 0))),(30,.c (.one (.h 832 0 0 []))),(31,.c (.one (.v (.int .i64 y0)))),(32,.c (.one (.v (.int .i64 y1))))],[(2,⟨.node,[.v (.int .i64 y2),.v (.int .i64 y3),.v (.string y4),.h 832 0 0 [],.h 833 0 0 []]⟩),(3,⟨.aq,[.v (.int .i64 y5),.ro .str y6,.ro .aq y7,.ro .bool y8,.v (.int .i64 y9),.v (.int .i64 fc)]⟩),(4,⟨.node,[.v (.int .i64 (0:Int)),.v (.int .i64 (0:Int)),.v (.string ByteArray.empty),.nl,.nl]⟩),(5,⟨.node,[.v (.int .i64 o4),.v (.int .i64 oq),.v (.string qP),.h 323 0 0 [],.h 324 0 0 []]⟩)],[(323,.live ⟨.str,.deep,0,[],Ac⟩),(324,.live ⟨.node,.deep,0,[],Cd⟩),(832,.live ⟨.str,.deep,0,[],D1⟩),(833,.live ⟨.node,.deep,0,[],LL⟩)]⟩
noncomputable def NL (y0:Int) (y1:Int) (y2:Bool) (y3:Int) (y4:Int) (y5:BA) (y6:Int) (y7:List BA) (y8:List af) (y9:List Bool) (fc:Int) (fE:Int) (oq:Int) (qP:Int) (Ac:BA) (Cd:List BA) (D1:List ae) (LL:List BA) (y21:List ae):St:=⟨[(2,.c (.one (.pt 2 0))),(3,.c (.one (.pt 3 0))),(4,.c (.one (.pt 4 0))),(5,.c (.one (.pt 5 0))),(30,.c (.one (.h 832 0 0 []))),(31,.c (.one (.v (.int .i64 y0)))),(32,.c (.one (.v (.int .i64 y1)))),(33,.c (.one (.v (.bool y2))))],[(2,⟨.node,[.v (.int .i64 y3),.v (.int .i64 y4),.v (.string y5),.h 832 0 0 [],.h 833 0 0 []]⟩),(3,⟨.aq,[.v (.int .i64 y6),.ro .str y7,.ro .aq y8,.ro .bool y9,.v (.int .i64 fc),.v (.int .i64 fE)]⟩),(4,⟨.node,[.v (.int .i64 (0:Int)),.v (.int .i64 (0:Int)),.v (.string ByteArray.empty),.nl,.nl]⟩),(5,⟨.node,[.v (.int .i64 oq),.v (.int .i64 qP),.v (.string Ac),.h 323 0 0 [],.h 324 0 0 []]⟩)],[(323,.live ⟨.str,.deep,0,[],Cd⟩),(324,.live ⟨.node,.deep,0,[],D1⟩),(832,.live ⟨.str,.deep,0,[],LL⟩),(833,.live ⟨.node,.deep,0,[],y21⟩)]⟩
noncomputable def Cn (y0:Int) (y1:Int) (y2:Int) (y3:Int) (y4:BA) (y5:Int) (y6:List BA) (y7:List af) (y8:List Bool) (y9:Int) (fc:Int) (o4:List BA) (oq:List ae):St:=⟨[(2,.c (.one (.pt 2 0))),(3,.c (.one (.pt 3 0))),(4,.c (.one (.pt 4 0))),(74,.c (.one (.h 833 0 0 []))),(75,.c (.one (.v (.int .i64 y0)))),(76,.c (.one (.v (.int .i64 y1))))],[(2,⟨.node,[.v (.int .i64 y2),.v (.int .i64 y3),.v (.string y4),.h 832 0 0 [],.h 833 0 0 []]⟩),(3,⟨.aq,[.v (.int .i64 y5),.ro .str y6,.ro .aq y7,.ro .bool y8,.v (.int .i64 y9),.v (.int .i64 fc)]⟩),(4,⟨.node,[.v (.int .i64 (0:Int)),.v (.int .i64 (0:Int)),.v (.string ByteArray.empty),.nl,.nl]⟩)],[(832,.live ⟨.str,.deep,0,[],o4⟩),(833,.live ⟨.node,.deep,0,[],oq⟩)]⟩
noncomputable def NM (y0:Int) (y1:Int) (y2:Bool) (y3:Int) (y4:Int) (y5:BA) (y6:Int) (y7:List BA) (y8:List af) (y9:List Bool) (fc:Int) (fE:Int) (oq:List BA) (qP:List ae):St:=⟨[(2,.c (.one (.pt 2 0))),(3,.c (.one (.pt 3 0))),(4,.c (.one (.pt 4 0))),(74,.c (.one (.h 833 0 0 []))),(75,.c (.one (.v (.int .i64 y0)))),(76,.c (.one (.v (.int .i64 y1)))),(77,.c (.one (.v (.bool y2))))],[(2,⟨.node,[.v (.int .i64 y3),.v (.int .i64 y4),.v (.string y5),.h 832 0 0 [],.h 833 0 0 []]⟩),(3,⟨.aq,[.v (.int .i64 y6),.ro .str y7,.ro .aq y8,.ro .bool y9,.v (.int .i64 fc),.v (.int .i64 fE)]⟩),(4,⟨.node,[.v (.int .i64 (0:Int)),.v (.int .i64 (0:Int)),.v (.string ByteArray.empty),.nl,.nl]⟩)],[(832,.live ⟨.str,.deep,0,[],oq⟩),(833,.live ⟨.node,.deep,0,[],qP⟩)]⟩
noncomputable def rV:Code:=(Tryd.f51.body).getD .skip
def s9:Nat→Kp:=fT [⟨[2,3,4],[],[],[]⟩,⟨[2,3,4],[],[],[]⟩,⟨[2,3,4,14],[],[],[]⟩,⟨[2,3,4,5],[],[],[]⟩,⟨[2,3,4,5,30,31,32],[⟨true,false,5,3,.str⟩,⟨true,false,5,4,.node⟩],[],[]⟩,⟨[2,3,4,5,30,31,32,33],[],[],[]⟩,⟨[2,3,4,5,6,7,30,31,32],[],[],[]⟩,⟨[2,3,4,5,6,7,8,9,30,31,32],[],[],[]⟩,⟨[2,3,4,5,6,7,8,30,31,32,43],[],[],[]⟩,⟨[2,3,4,5,6,8,30,31,32],[],[],[]⟩,⟨[2,3,4,5,30,31,32],[],[],[]⟩,⟨[2,3,4,5,30,31,32],[],[],[]⟩,⟨[4],[],[],[]⟩,⟨[2,3,4,64],[],[],[]⟩,⟨[2,3,4,74,75,76],[],[],[]⟩,⟨[2,3,4,74,75,76,77],[],[],[]⟩,⟨[2,3,4,10,11,74,75,76],[],[],[]⟩,⟨[2,3,4,74,75,76],[],[],[]⟩,⟨[2,3,4,74,75,76],[],[],[]⟩,⟨[4],[],[],[]⟩]
noncomputable def nx (N:Nat):Env:=b9.env [(50,s50),(51,aaM N),(69,s69),(77,s77)]
noncomputable def pA {R:Type} (N:Nat) (n:Nat) (x0:Int→Bool→(List BA)→(List ae)→Option R) (wX:Int) (wH:Int) (wG:Int) (wI:BA) (wB:Int) (wC:List BA) (wA:List af) (wD:List Bool) (wE:Int) (wF:Int) (wM:Int) (wN:Int) (wO:BA) (wR:List BA) (wP:List ae):Nat→Int→(List BA)→(List ae)→Option R
  | 0,_,_,_=>none
  | m+1,wQ,wZ,uA=>
    (cond (decide (wQ<wX))
   (cond ((decide ((0:Int)≤wQ))&&(decide (wQ<(wR.length:Int))))
    (cond (BV (⟨wB,wC,wA,wD,wE,wF⟩:af) (ar (t:= .str) wR (Int.toNat wQ)))
     (cond ((bI (⟨wB,wC,wA,wD,wE,wF⟩:af) (ar (t:= .str) wR (Int.toNat wQ))).2)
      (cond (Nat.ble (wZ.length+1) bT)
       (cond ((decide ((0:Int)≤wQ))&&(decide (wQ<(wP.length:Int))))
        (cond ((tp (eN (ar (t:= .node) wP (Int.toNat wQ))) (eR ((bI (⟨wB,wC,wA,wD,wE,wF⟩:af) (ar (t:= .str) wR (Int.toNat wQ))).1)))&&(Nat.blt ((fun (t:ae) (_:af)=>ao t) (eN (ar (t:= .node) wP (Int.toNat wQ))) (eR ((bI (⟨wB,wC,wA,wD,wE,wF⟩:af) (ar (t:= .str) wR (Int.toNat wQ))).1))) N))
         (cond (Nat.ble (uA.length+1) bT)
          (pA N n x0 wX wH wG wI wB wC wA wD wE wF wM wN wO wR wP m (IntKind.wrap .i64 (wQ+(1:Int))) (wZ++([(ar (t:= .str) wR (Int.toNat wQ))]:List BA)) (uA++([(eN (prune (eN (ar (t:= .node) wP (Int.toNat wQ))) (eR ((bI (⟨wB,wC,wA,wD,wE,wF⟩:af) (ar (t:= .str) wR (Int.toNat wQ))).1))))]:List ae)))
          none)
         none)
        none)
       none)
      (pA N n x0 wX wH wG wI wB wC wA wD wE wF wM wN wO wR wP m (IntKind.wrap .i64 (wQ+(1:Int))) wZ uA))
     none)
    none)
   (x0 wQ (decide (wQ<wX)) wZ uA))
theorem Sp {R:Type} (N:Nat) (n:Nat) (k':Kx R) (wX:Int) (wQ:Int) (wH:Int) (wG:Int) (wI:BA) (wB:Int) (wC:List BA) (wA:List af) (wD:List Bool) (wE:Int) (wF:Int) (wM:Int) (wN:Int) (wO:BA) (wZ:List BA) (uA:List ae) (wR:List BA) (wP:List ae):ev (nx N) s9 n (bl [1,1,0,0,1,0,1,0,1,0,0] rV) (Cl wX wQ wH wG wI wB wC wA wD wE wF wM wN wO wZ uA wR wP) k'=
 (cond (decide (wQ<wX))
 (cond ((decide ((0:Int)≤wQ))&&(decide (wQ<(wR.length:Int))))
 (cond (BV (⟨wB,wC,wA,wD,wE,wF⟩:af) (ar (t:= .str) wR (Int.toNat wQ)))
 (cond ((bI (⟨wB,wC,wA,wD,wE,wF⟩:af) (ar (t:= .str) wR (Int.toNat wQ))).2)
 (cond (Nat.ble (wZ.length+1) bT)
 (cond ((decide ((0:Int)≤wQ))&&(decide (wQ<(wP.length:Int))))
 (cond ((tp (eN (ar (t:= .node) wP (Int.toNat wQ))) (eR ((bI (⟨wB,wC,wA,wD,wE,wF⟩:af) (ar (t:= .str) wR (Int.toNat wQ))).1)))&&(Nat.blt ((fun (t:ae) (_:af)=>ao t) (eN (ar (t:= .node) wP (Int.toNat wQ))) (eR ((bI (⟨wB,wC,wA,wD,wE,wF⟩:af) (ar (t:= .str) wR (Int.toNat wQ))).1))) N))
 (cond (Nat.ble (uA.length+1) bT)
 (k' .normal (Cl wX (IntKind.wrap .i64 (wQ+(1:Int))) wH wG wI wB wC wA wD wE wF wM wN wO (wZ++([(ar (t:= .str) wR (Int.toNat wQ))]:List BA)) (uA++([(eN (prune (eN (ar (t:= .node) wP (Int.toNat wQ))) (eR ((bI (⟨wB,wC,wA,wD,wE,wF⟩:af) (ar (t:= .str) wR (Int.toNat wQ))).1))))]:List ae)) wR wP))
 none)
 none)
 none)
 none)
 (k' .normal (Cl wX (IntKind.wrap .i64 (wQ+(1:Int))) wH wG wI wB wC wA wD wE wF wM wN wO wZ uA wR wP)))
 none)
 none)
 (k' (.exit 1) (NL wX wQ (decide (wQ<wX)) wH wG wI wB wC wA wD wE wF wM wN wO wZ uA wR wP))):=by kernel_rfl
theorem NN {R:Type} (N:Nat) (n:Nat) (k':Kx R) (wX:Int) (wH:Int) (wG:Int) (wI:BA) (wB:Int) (wC:List BA) (wA:List af) (wD:List Bool) (wE:Int) (wF:Int) (wM:Int) (wN:Int) (wO:BA) (wR:List BA) (wP:List ae):∀(m:Nat) (wQ:Int) (wZ:List BA) (uA:List ae),iter (fun st k=>ev (nx N) s9 n (bl [1,1,0,0,1,0,1,0,1,0,0] rV) st k) m (Cl wX wQ wH wG wI wB wC wA wD wE wF wM wN wO wZ uA wR wP) k'=pA N n (fun (uS:Int) (uT:Bool) (uM:List BA) (uN:List ae)=>k' (.exit 1) (NL wX uS uT wH wG wI wB wC wA wD wE wF wM wN wO uM uN wR wP)) wX wH wG wI wB wC wA wD wE wF wM wN wO wR wP m wQ wZ uA:=by
 intro m;induction m with
 | zero=>intros;rfl
 | succ m ih=>
  intro wQ wZ uA
  simp only [iter]
  rw [Sp]
  simp only [ih,pA]
noncomputable def Uv {R:Type} (N:Nat) (n:Nat) (k':Kx R):Kx R:=(bZ 1 (dS (nx N) s9 n (bl [1,1,0,0,1,0,1,1] rV) (bZ 0 (dS (nx N) s9 n (bl [1,1,1] rV) k'))))
theorem NO {R:Type} (N:Nat) (n:Nat) (k:Kt R) (a0:ae) (a1:af) (wX:Int) (wH:Int) (wG:Int) (wI:BA) (wB:Int) (wC:List BA) (wA:List af) (wD:List Bool) (wE:Int) (wF:Int) (wM:Int) (wN:Int) (wO:BA) (wR:List BA) (wP:List ae) (uS:Int) (uT:Bool) (uM:List BA) (uN:List ae):Uv N n (aC (nx N) [.ro,.ro] [false] true [.cell 4 35] [35] [.d .node a0,.d .aq a1] k) (.exit 1) (NL wX uS uT wH wG wI wB wC wA wD wE wF wM wN wO uM uN wR wP)=
 (k [.d .node (⟨wM,wN,wO,uM,uN⟩:ae)]):=by kernel_rfl
noncomputable def qX {R:Type} (N:Nat) (n:Nat) (x0:Int→Bool→(List ae)→Option R) (wY:Int) (wH:Int) (wG:Int) (wI:BA) (wB:Int) (wC:List BA) (wA:List af) (wD:List Bool) (wE:Int) (wF:Int) (wR:List BA):Nat→Int→(List ae)→Option R
  | 0,_,_=>none
  | m+1,wT,wP=>
    (cond (decide (wT<wY))
   (cond ((decide ((0:Int)≤wT))&&(decide (wT<(wP.length:Int))))
    (cond (decide ((0:Int)<(wA.length:Int)))
     (cond ((tp (eN (ar (t:= .node) wP (Int.toNat wT))) (eR (ar (t:= .aq) wA 0)))&&(Nat.blt ((fun (t:ae) (_:af)=>ao t) (eN (ar (t:= .node) wP (Int.toNat wT))) (eR (ar (t:= .aq) wA 0))) N))
      (cond ((decide ((0:Int)≤wT))&&(decide (wT<(wP.length:Int))))
       (qX N n x0 wY wH wG wI wB wC wA wD wE wF wR m (IntKind.wrap .i64 (wT+(1:Int))) (wP.set (Int.toNat wT) (eN (prune (eN (ar (t:= .node) wP (Int.toNat wT))) (eR (ar (t:= .aq) wA 0))))))
       none)
      none)
     none)
    none)
   (x0 wT (decide (wT<wY)) wP))
theorem Sq {R:Type} (N:Nat) (n:Nat) (k':Kx R) (wY:Int) (wT:Int) (wH:Int) (wG:Int) (wI:BA) (wB:Int) (wC:List BA) (wA:List af) (wD:List Bool) (wE:Int) (wF:Int) (wR:List BA) (wP:List ae):ev (nx N) s9 n (bl [1,1,0,0,1,1,1,0,1,0,0] rV) (Cn wY wT wH wG wI wB wC wA wD wE wF wR wP) k'=
 (cond (decide (wT<wY))
 (cond ((decide ((0:Int)≤wT))&&(decide (wT<(wP.length:Int))))
 (cond (decide ((0:Int)<(wA.length:Int)))
 (cond ((tp (eN (ar (t:= .node) wP (Int.toNat wT))) (eR (ar (t:= .aq) wA 0)))&&(Nat.blt ((fun (t:ae) (_:af)=>ao t) (eN (ar (t:= .node) wP (Int.toNat wT))) (eR (ar (t:= .aq) wA 0))) N))
 (cond ((decide ((0:Int)≤wT))&&(decide (wT<(wP.length:Int))))
 (k' .normal (Cn wY (IntKind.wrap .i64 (wT+(1:Int))) wH wG wI wB wC wA wD wE wF wR (wP.set (Int.toNat wT) (eN (prune (eN (ar (t:= .node) wP (Int.toNat wT))) (eR (ar (t:= .aq) wA 0)))))))
 none)
 none)
 none)
 none)
 (k' (.exit 3) (NM wY wT (decide (wT<wY)) wH wG wI wB wC wA wD wE wF wR wP))):=by kernel_rfl
theorem NP {R:Type} (N:Nat) (n:Nat) (k':Kx R) (wY:Int) (wH:Int) (wG:Int) (wI:BA) (wB:Int) (wC:List BA) (wA:List af) (wD:List Bool) (wE:Int) (wF:Int) (wR:List BA):∀(m:Nat) (wT:Int) (wP:List ae),iter (fun st k=>ev (nx N) s9 n (bl [1,1,0,0,1,1,1,0,1,0,0] rV) st k) m (Cn wY wT wH wG wI wB wC wA wD wE wF wR wP) k'=qX N n (fun (uO:Int) (uP:Bool) (uI:List ae)=>k' (.exit 3) (NM wY uO uP wH wG wI wB wC wA wD wE wF wR uI)) wY wH wG wI wB wC wA wD wE wF wR m wT wP:=by
 intro m;induction m with
 | zero=>intros;rfl
 | succ m ih=>
  intro wT wP
  simp only [iter]
  rw [Sq]
  simp only [ih,qX]
noncomputable def NQ {R:Type} (N:Nat) (n:Nat) (k':Kx R):Kx R:=(bZ 3 (bZ 0 (dS (nx N) s9 n (bl [1,1,1] rV) k')))
theorem NR {R:Type} (N:Nat) (n:Nat) (k:Kt R) (a0:ae) (a1:af) (wY:Int) (wH:Int) (wG:Int) (wI:BA) (wB:Int) (wC:List BA) (wA:List af) (wD:List Bool) (wE:Int) (wF:Int) (wR:List BA) (uO:Int) (uP:Bool) (uI:List ae):NQ N n (aC (nx N) [.ro,.ro] [false] true [.cell 4 35] [35] [.d .node a0,.d .aq a1] k) (.exit 3) (NM wY uO uP wH wG wI wB wC wA wD wE wF wR uI)=
 (k [.d .node (⟨wH,wG,wI,wR,uI⟩:ae)]):=by kernel_rfl
theorem Sr {R:Type} (N:Nat) (n:Nat) (k:Kt R) (a0:ae) (a1:af):aM (nx N) s9 n rV [.ro,.ro] [false] true [.cell 4 35] [35] [.d .node a0,.d .aq a1] k=
 (cond (ak (eN a0))
 (cond (bM (eN a0))
 (cond ((af.kind a1)==(5:Int))
 (pA N n (fun (uS:Int) (uT:Bool) (uM:List BA) (uN:List ae)=>
 (k [.d .node (⟨(ae.kind a0),(ae.n a0),(ae.s a0),uM,uN⟩:ae)])) ((ae.keys a0).length:Int) (ae.kind a0) (ae.n a0) (ae.s a0) (af.kind a1) (af.keys a1) (af.kids a1) (af.need a1) (af.low a1) (af.high a1) (ae.kind a0) (ae.n a0) (ae.s a0) (ae.keys a0) (ae.kids a0) n (0:Int) ([]:List BA) ([]:List ae))
 (cond ((ae.kind a0)==(4:Int))
 (cond ((af.kind a1)==(4:Int))
 (qX N n (fun (uO:Int) (uP:Bool) (uI:List ae)=>
 (k [.d .node (⟨(ae.kind a0),(ae.n a0),(ae.s a0),(ae.keys a0),uI⟩:ae)])) ((ae.kids a0).length:Int) (ae.kind a0) (ae.n a0) (ae.s a0) (af.kind a1) (af.keys a1) (af.kids a1) (af.need a1) (af.low a1) (af.high a1) (ae.keys a0) n (0:Int) (ae.kids a0))
 (k [.d .node (eN a0)]))
 (k [.d .node (eN a0)])))
 (cond ((ae.kind a0)==(4:Int))
 (cond ((af.kind a1)==(4:Int))
 (qX N n (fun (uO:Int) (uP:Bool) (uI:List ae)=>
 (k [.d .node (⟨(ae.kind a0),(ae.n a0),(ae.s a0),(ae.keys a0),uI⟩:ae)])) ((ae.kids a0).length:Int) (ae.kind a0) (ae.n a0) (ae.s a0) (af.kind a1) (af.keys a1) (af.kids a1) (af.need a1) (af.low a1) (af.high a1) (ae.keys a0) n (0:Int) (ae.kids a0))
 (k [.d .node (eN a0)]))
 (k [.d .node (eN a0)])))
 none):=by
  refine Eq.trans (b:=(cond (ak (eN a0))
  (cond (bM (eN a0))
   (cond ((af.kind a1)==(5:Int))
    (iter (fun st k=>ev (nx N) s9 n (bl [1,1,0,0,1,0,1,0,1,0,0] rV) st k) n (Cl ((ae.keys a0).length:Int) (0:Int) (ae.kind a0) (ae.n a0) (ae.s a0) (af.kind a1) (af.keys a1) (af.kids a1) (af.need a1) (af.low a1) (af.high a1) (ae.kind a0) (ae.n a0) (ae.s a0) ([]:List BA) ([]:List ae) (ae.keys a0) (ae.kids a0)) (Uv N n (aC (nx N) [.ro,.ro] [false] true [.cell 4 35] [35] [.d .node a0,.d .aq a1] k)))
    (cond ((ae.kind a0)==(4:Int))
     (cond ((af.kind a1)==(4:Int))
      (iter (fun st k=>ev (nx N) s9 n (bl [1,1,0,0,1,1,1,0,1,0,0] rV) st k) n (Cn ((ae.kids a0).length:Int) (0:Int) (ae.kind a0) (ae.n a0) (ae.s a0) (af.kind a1) (af.keys a1) (af.kids a1) (af.need a1) (af.low a1) (af.high a1) (ae.keys a0) (ae.kids a0)) (NQ N n (aC (nx N) [.ro,.ro] [false] true [.cell 4 35] [35] [.d .node a0,.d .aq a1] k)))
      (k [.d .node (eN a0)]))
     (k [.d .node (eN a0)])))
   (cond ((ae.kind a0)==(4:Int))
    (cond ((af.kind a1)==(4:Int))
     (iter (fun st k=>ev (nx N) s9 n (bl [1,1,0,0,1,1,1,0,1,0,0] rV) st k) n (Cn ((ae.kids a0).length:Int) (0:Int) (ae.kind a0) (ae.n a0) (ae.s a0) (af.kind a1) (af.keys a1) (af.kids a1) (af.need a1) (af.low a1) (af.high a1) (ae.keys a0) (ae.kids a0)) (NQ N n (aC (nx N) [.ro,.ro] [false] true [.cell 4 35] [35] [.d .node a0,.d .aq a1] k)))
     (k [.d .node (eN a0)]))
    (k [.d .node (eN a0)])))
  none)) (by kernel_rfl) ?_
  simp only [NN,NO,NP,NR]
theorem NS (N:Nat) (a0:ae) (a1:af) (hg:tp a0 a1=true) (hm:WZ [.d .node a0,.d .aq a1]=N):∃aJ rounds,∀ {R:Type} (k:Kt R),aM (nx N) aJ rounds rV [.ro,.ro] [false] true [.cell 4 35] [35] [.d .node a0,.d .aq a1] k=k [.d .node (prune a0 a1)]:=by
 have hm:ao a0=N:=hm
 subst hm
 simp only [tp,Bool.and_eq_true] at hg
 obtain ⟨hg,hr,eY⟩:=hg
 have pg:=hg
 rw [bY] at hg
 simp only [Bool.and_eq_true] at hg
 obtain ⟨_,_,_,ng,mL⟩:=hg
 have vS:=bp ng
 have xm:=bp mL
 have xR:=hr
 rw [bL] at hr
 simp only [Bool.and_eq_true] at hr
 obtain ⟨_,Uu,D9,_⟩:=hr
 have nrk:=bp Uu
 have WX:=bp D9
 have NT:=eY
 rw [kx,Bool.and_eq_true] at eY
 have eT:=eY.1
 unfold jB at eT
 have eW:∀x∈a0.kids,Nat.blt (ao x) (ao a0)=true:=fun x hx=>by
  have:=bD (x:=a0) hx
  rw [Nat.blt_eq];exact this
 have gp:∀x∈a0.kids,∀q∈a1.kids,tp x q=true:=fun x hx q hq=>by
  simp only [tp,Bool.and_eq_true]
  exact ⟨iK pg hx,zM xR hq,qD NT hq⟩
 have NU:∀ {α:Type} {l:List α},l.length≤1048576→Nat.ble (l.length+1) bT=true:=fun h=>J4 h
 refine ⟨s9,a0.keys.length+a0.kids.length+1,fun {R} k=> ?_⟩
 rw [Sr]
 simp only [aT,bu,bN,cM,pg,cond_true]
 show _=k [.d .node (prune a0 a1)]
 have hL:(a1.kind==(4:Int))=true→∀(fin:Int→Bool→List ae→Option R),qX (ao a0) (a0.keys.length+a0.kids.length+1) fin (a0.kids.length:Int) a0.kind a0.n a0.s a1.kind a1.keys a1.kids a1.need a1.low a1.high a0.keys (a0.keys.length+a0.kids.length+1) (0:Int) a0.kids=fin (a0.kids.length:Int) false (gA (ar (t:= .aq) a1.kids 0) a0.kids):=by
  intro r4 fin
  have r5:(a1.kind==(5:Int))=false:=by rw [eq_of_beq r4];rfl
  rw [r5,r4] at eT
  have Ij:(1:Int)≤(a1.kids.length:Int):=of_decide_eq_true eT
  have W0:decide ((0:Int)<(a1.kids.length:Int))=true:=decide_eq_true (by omega)
  have hq:=List.mem_of_getElem? (c9 (t:= .aq) (xs:=a1.kids) (i:=0) (by omega))
  refine Eq.trans (sD (xs:=a0.kids) (f:=fun x=>prune x (ar (t:= .aq) a1.kids 0)) (F:=fun m j vr=>qX (ao a0) (a0.keys.length+a0.kids.length+1) fin (a0.kids.length:Int) a0.kind a0.n a0.s a1.kind a1.keys a1.kids a1.need a1.low a1.high a0.keys m (j:Int) vr) (good:=fun vr=>fin (a0.kids.length:Int) false vr)
   (fun m j vr x hx hvl w4=> ?_) (fun m vr hvl=>by simp only [qX,gG,cond_false]) a0.kids.length 0 (a0.keys.length+a0.kids.length+1) (by omega) (by omega)) (by rw [ic])
  obtain ⟨h1,h0,hw,ht⟩:=idx (aY hx) (by omega)
  have nz:=List.mem_of_getElem? hx
  simp only [qX,h1,h0,hw,ht,hvl,bz (t:= .node) w4,aT,bu,bN,cM,W0,gp x nz _ hq,eW x nz,Bool.and_self,cond_true]
 have hM:(a1.kind==(5:Int))=true→a0.keys.length=a0.kids.length→∀(fin:Int→Bool→List BA→List ae→Option R),pA (ao a0) (a0.keys.length+a0.kids.length+1) fin (a0.keys.length:Int) a0.kind a0.n a0.s a1.kind a1.keys a1.kids a1.need a1.low a1.high a0.kind a0.n a0.s a0.keys a0.kids (a0.keys.length+a0.kids.length+1) (0:Int) [] []=fin (a0.keys.length:Int) false (bn a1 a0.keys a0.kids).1 (bn a1 a0.keys a0.kids).2:=by
  intro r5 hlen fin
  rw [r5] at eT
  have Tq:=eq_of_beq (show ((a1.keys.length:Int)==(a1.kids.length:Int))=true from eT)
  refine Eq.trans (vz (r:=a1) (keys:=a0.keys) (kids:=a0.kids) hlen (F:=fun m j a b=>pA (ao a0) (a0.keys.length+a0.kids.length+1) fin (a0.keys.length:Int) a0.kind a0.n a0.s a1.kind a1.keys a1.kids a1.need a1.low a1.high a0.kind a0.n a0.s a0.keys a0.kids m (j:Int) a b) (good:=fun a b=>fin (a0.keys.length:Int) false a b)
   (fun m j a b key x hk hx ha hb=> ?_) (fun m a b=>by simp only [pA,gG,cond_false]) a0.keys.length 0 (a0.keys.length+a0.kids.length+1) [] [] (by omega) (by omega) (Nat.le_refl _) (Nat.le_refl _)) rfl
  obtain ⟨h1,h0,hw,ht⟩:=idx (aY hk) (by omega)
  obtain ⟨Au,_,_,_⟩:=idx (aY hx) (by omega)
  have hj:=aY hk
  have nz:=List.mem_of_getElem? hx
  have HL:BV a1 key=true:=by simp only [BV,Bool.and_eq_true,decide_eq_true_eq];exact ⟨xR,by omega⟩
  have la:=NU (l:=a) (by omega)
  have lb:=NU (l:=b) (by omega)
  by_cases pH:bg a1 key<0
  ·have Ey:decide (bg a1 key≥(0:Int))=false:=decide_eq_false (by omega)
   simp only [pA,h1,h0,hw,ht,bz (t:= .str) hk,bN,cM,HL,xR,bI,Ey,decide_eq_true pH,Bool.and_self,cond_true,cond_false]
  ·obtain ⟨i,e,hi⟩:=je pH
   have hq:=List.mem_of_getElem? (c9 (t:= .aq) (xs:=a1.kids) (i:=i) (by omega))
   have Ey:decide (bg a1 key≥(0:Int))=true:=decide_eq_true (by omega)
   have W1:decide ((0:Int)≤bg a1 key)=true:=Ey
   have ct:decide (bg a1 key<(a1.kids.length:Int))=true:=decide_eq_true (by omega)
   have ei:Int.toNat (bg a1 key)=i:=by omega
   simp only [pA,h1,Au,h0,hw,ht,bz (t:= .str) hk,bz (t:= .node) hx,aT,bu,bN,cM,HL,xR,bI,Ey,W1,ct,ei,gp x nz _ hq,eW x nz,la,lb,decide_eq_false pH,Bool.and_self,cond_true,cond_false]
 rw [fm]
 cases oW:bM a0
 ·cases h4:a0.kind==(4:Int)<;>cases r4:a1.kind==(4:Int)
  ·rfl
  ·rfl
  ·rfl
  ·exact hL r4 _
 ·have h4:=BT oW
  cases r5:a1.kind==(5:Int)
  ·rw [h4];rfl
  ·exact hM r5 (gj oW).2 _
noncomputable def s51:Gm.Spec:=Gm.Spec.of [.ro,.ro] [false] true q51
theorem W2:Gm.Good Tryd.prog (51,s51):=by
 refine ⟨⟨fU WZ fun N hr=> ?_,_,Tryd.func51,by kernel_rfl,of_decide_eq_true (by kernel_rfl)⟩,Gm.Spec.aB _ _ _ _⟩
 have hl:∀x∈[(50,s50),(51,aaM N),(69,s69),(77,s77)],Gm.Good Tryd.prog x:=bJ.2 ⟨LG,bJ.2 ⟨⟨⟨hr,_,Tryd.func51,by kernel_rfl,of_decide_eq_true (by kernel_rfl)⟩,Gm.Spec.aB _ _ _ _⟩,bJ.2 ⟨NC,bJ.2 ⟨WT,im⟩⟩⟩⟩
 intro R
 refine aK (E:=nx N) (aV.env hl) (b9.cF hl) Tryd.func51 (by kernel_rfl:Tryd.f51.body=some rV) [35] (by kernel_rfl) ?_
 intro ds outs h
 obtain ⟨h,hm⟩:=cT h
 unfold q51 at h
 split at h
 ·simp only [Option.some.injEq,Prod.mk.injEq] at h;obtain ⟨hg,h⟩:=h;cases h;exact NS N _ _ hg hm
 ·cases h
noncomputable def q58:Qt
 | [.d .node a0,.d .aq a1]=>some ((tp a0 a1),[.d .node (prune a0 a1)])
 | _=>none
noncomputable def W3:List Dt→Nat
 | [.d .node a0,.d .aq a1]=>(fun (t:ae) (_:af)=>ao t) a0 a1
 | _=>0
noncomputable def aaP (N:Nat):Gm.Spec:=Gm.Spec.of [.ro,.ro] [false] true (nS W3 N q58)
noncomputable def Gf (y0:Int) (y1:Int) (y2:Int) (y3:BA) (y4:List BA) (y5:List ae) (y6:Int) (y7:List BA) (y8:List af) (y9:List Bool) (fc:Int) (fE:Int) (oq:Int) (qP:Int) (Ac:BA) (Cd:List BA) (D1:List ae):St:=⟨[(2,.c (.one (.pt 2 0))),(3,.c (.one (.pt 3 0))),(4,.c (.one (.pt 4 0))),(5,.c (.one (.pt 5 0))),(6,.c (.one (.v (.int .i64 y0))))],[(2,⟨.node,[.v (.int .i64 y1),.v (.int .i64 y2),.v (.string y3),.ro .str y4,.ro .node y5]⟩),(3,⟨.aq,[.v (.int .i64 y6),.ro .str y7,.ro .aq y8,.ro .bool y9,.v (.int .i64 fc),.v (.int .i64 fE)]⟩),(4,⟨.node,[.v (.int .i64 (0:Int)),.v (.int .i64 (0:Int)),.v (.string ByteArray.empty),.nl,.nl]⟩),(5,⟨.node,[.v (.int .i64 oq),.v (.int .i64 qP),.v (.string Ac),.h 768 0 0 [],.h 769 0 0 []]⟩)],[(768,.live ⟨.str,.deep,0,[],Cd⟩),(769,.live ⟨.node,.deep,0,[],D1⟩)]⟩
noncomputable def NV (y0:Int) (y1:Bool) (y2:Int) (y3:Int) (y4:BA) (y5:List BA) (y6:List ae) (y7:Int) (y8:List BA) (y9:List af) (fc:List Bool) (fE:Int) (iN:Int) (qP:Int) (Ac:Int) (Cd:BA) (D1:List BA) (LL:List ae):St:=⟨[(2,.c (.one (.pt 2 0))),(3,.c (.one (.pt 3 0))),(4,.c (.one (.pt 4 0))),(5,.c (.one (.pt 5 0))),(6,.c (.one (.v (.int .i64 y0)))),(25,.c (.one (.v (.bool y1))))],[(2,⟨.node,[.v (.int .i64 y2),.v (.int .i64 y3),.v (.string y4),.ro .str y5,.ro .node y6]⟩),(3,⟨.aq,[.v (.int .i64 y7),.ro .str y8,.ro .aq y9,.ro .bool fc,.v (.int .i64 fE),.v (.int .i64 iN)]⟩),(4,⟨.node,[.v (.int .i64 (0:Int)),.v (.int .i64 (0:Int)),.v (.string ByteArray.empty),.nl,.nl]⟩),(5,⟨.node,[.v (.int .i64 qP),.v (.int .i64 Ac),.v (.string Cd),.h 768 0 0 [],.h 769 0 0 []]⟩)],[(768,.live ⟨.str,.deep,0,[],D1⟩),(769,.live ⟨.node,.deep,0,[],LL⟩)]⟩
noncomputable def wj (y0:Int) (y1:Int) (y2:Int) (y3:BA) (y4:List BA) (y5:List ae) (y6:Int) (y7:List BA) (y8:List af) (y9:List Bool) (fc:Int) (fE:Int) (oq:Int) (qP:Int) (Ac:BA) (Cd:List BA) (D1:List ae) (LL:List BA) (y21:List ae):St:=⟨[(2,.c (.one (.pt 2 0))),(3,.c (.one (.pt 3 0))),(4,.c (.one (.pt 4 0))),(5,.c (.one (.pt 5 0))),(7,.c (.one (.h 3264 0 0 []))),(8,.c (.one (.h 3328 0 0 []))),(9,.c (.one (.v (.int .i64 y0))))],[(2,⟨.node,[.v (.int .i64 y1),.v (.int .i64 y2),.v (.string y3),.ro .str y4,.ro .node y5]⟩),(3,⟨.aq,[.v (.int .i64 y6),.ro .str y7,.ro .aq y8,.ro .bool y9,.v (.int .i64 fc),.v (.int .i64 fE)]⟩),(4,⟨.node,[.v (.int .i64 (0:Int)),.v (.int .i64 (0:Int)),.v (.string ByteArray.empty),.nl,.nl]⟩),(5,⟨.node,[.v (.int .i64 oq),.v (.int .i64 qP),.v (.string Ac),.h 768 0 0 [],.h 769 0 0 []]⟩)],[(768,.live ⟨.str,.deep,0,[],Cd⟩),(769,.live ⟨.node,.deep,0,[],D1⟩),(3264,.live ⟨.str,.deep,0,[],LL⟩),(3328,.live ⟨.node,.deep,0,[],y21⟩)]⟩
noncomputable def NW (y0:Int) (y1:Bool) (y2:Int) (y3:Int) (y4:BA) (y5:List BA) (y6:List ae) (y7:Int) (y8:List BA) (y9:List af) (fc:List Bool) (fE:Int) (iN:Int) (qP:Int) (Ac:Int) (Cd:BA) (D1:List BA) (LL:List ae) (y21:List BA) (y22:List ae):St:=⟨[(2,.c (.one (.pt 2 0))),(3,.c (.one (.pt 3 0))),(4,.c (.one (.pt 4 0))),(5,.c (.one (.pt 5 0))),(7,.c (.one (.h 3264 0 0 []))),(8,.c (.one (.h 3328 0 0 []))),(9,.c (.one (.v (.int .i64 y0)))),(57,.c (.one (.v (.bool y1))))],[(2,⟨.node,[.v (.int .i64 y2),.v (.int .i64 y3),.v (.string y4),.ro .str y5,.ro .node y6]⟩),(3,⟨.aq,[.v (.int .i64 y7),.ro .str y8,.ro .aq y9,.ro .bool fc,.v (.int .i64 fE),.v (.int .i64 iN)]⟩),(4,⟨.node,[.v (.int .i64 (0:Int)),.v (.int .i64 (0:Int)),.v (.string ByteArray.empty),.nl,.nl]⟩),(5,⟨.node,[.v (.int .i64 qP),.v (.int .i64 Ac),.v (.string Cd),.h 768 0 0 [],.h 769 0 0 []]⟩)],[(768,.live ⟨.str,.deep,0,[],D1⟩),(769,.live ⟨.node,.deep,0,[],LL⟩),(3264,.live ⟨.str,.deep,0,[],y21⟩),(3328,.live ⟨.node,.deep,0,[],y22⟩)]⟩
noncomputable def rW:Code:=(Tryd.f58.body).getD .skip
def ta:Nat→Kp:=fT [⟨[2,3,4],[],[],[]⟩,⟨[2,3,4,5],[],[],[]⟩,⟨[2,3,4,5,20],[],[],[]⟩,⟨[2,3,4,5,6],[],[],[]⟩,⟨[2,3,4,5,6,25],[],[],[]⟩,⟨[2,3,4,5,6],[],[],[]⟩,⟨[2,3,4,5,6],[],[],[]⟩,⟨[2,3,4,5,49],[],[],[]⟩,⟨[4],[],[],[]⟩,⟨[2,3,4,5,7],[],[],[]⟩,⟨[2,3,4,5,7,8],[],[],[]⟩,⟨[2,3,4,5,7,8,9],[],[],[]⟩,⟨[2,3,4,5,7,8,9,57],[],[],[]⟩,⟨[2,3,4,5,7,8,9],[],[],[]⟩,⟨[2,3,4,5,7,8,9,10],[],[],[]⟩,⟨[2,3,4,5,7,8,9,10,68],[],[],[]⟩,⟨[2,3,4,5,7,8,9,10],[],[],[]⟩,⟨[2,3,4,5,7,8,9],[],[],[]⟩,⟨[4,5,8],[],[],[]⟩,⟨[4,5],[],[],[]⟩,⟨[4],[],[],[]⟩]
noncomputable def mX (N:Nat):Env:=b9.env [(57,HI),(58,aaP N),(84,s84),(85,s85)]
noncomputable def sO {R:Type} (N:Nat) (n:Nat) (x0:Int→Bool→(List ae)→Option R) (wH:Int) (wG:Int) (wI:BA) (wJ:List BA) (wK:List ae) (wB:Int) (wC:List BA) (wA:List af) (wD:List Bool) (wE:Int) (wF:Int) (wM:Int) (wN:Int) (wO:BA) (wS:List BA):Nat→Int→(List ae)→Option R
  | 0,_,_=>none
  | m+1,wU,wV=>
    (cond (decide (wU<(wK.length:Int)))
   (cond ((decide ((0:Int)≤wU))&&(decide (wU<(wK.length:Int))))
    (cond (decide ((0:Int)<(wA.length:Int)))
     (cond ((tp (eN (ar (t:= .node) wK (Int.toNat wU))) (eR (ar (t:= .aq) wA 0)))&&(Nat.blt ((fun (t:ae) (_:af)=>ao t) (eN (ar (t:= .node) wK (Int.toNat wU))) (eR (ar (t:= .aq) wA 0))) N))
      (cond ((decide ((0:Int)≤wU))&&(decide (wU<(wV.length:Int))))
       (sO N n x0 wH wG wI wJ wK wB wC wA wD wE wF wM wN wO wS m (IntKind.wrap .i64 (wU+(1:Int))) (wV.set (Int.toNat wU) (eN (prune (eN (ar (t:= .node) wK (Int.toNat wU))) (eR (ar (t:= .aq) wA 0))))))
       none)
      none)
     none)
    none)
   (x0 wU (decide (wU<(wK.length:Int))) wV))
theorem Ss {R:Type} (N:Nat) (n:Nat) (k':Kx R) (wU:Int) (wH:Int) (wG:Int) (wI:BA) (wJ:List BA) (wK:List ae) (wB:Int) (wC:List BA) (wA:List af) (wD:List Bool) (wE:Int) (wF:Int) (wM:Int) (wN:Int) (wO:BA) (wS:List BA) (wV:List ae):ev (mX N) ta n (bl [1,1,0,1,0,1,0,0] rW) (Gf wU wH wG wI wJ wK wB wC wA wD wE wF wM wN wO wS wV) k'=
 (cond (decide (wU<(wK.length:Int)))
 (cond ((decide ((0:Int)≤wU))&&(decide (wU<(wK.length:Int))))
 (cond (decide ((0:Int)<(wA.length:Int)))
 (cond ((tp (eN (ar (t:= .node) wK (Int.toNat wU))) (eR (ar (t:= .aq) wA 0)))&&(Nat.blt ((fun (t:ae) (_:af)=>ao t) (eN (ar (t:= .node) wK (Int.toNat wU))) (eR (ar (t:= .aq) wA 0))) N))
 (cond ((decide ((0:Int)≤wU))&&(decide (wU<(wV.length:Int))))
 (k' .normal (Gf (IntKind.wrap .i64 (wU+(1:Int))) wH wG wI wJ wK wB wC wA wD wE wF wM wN wO wS (wV.set (Int.toNat wU) (eN (prune (eN (ar (t:= .node) wK (Int.toNat wU))) (eR (ar (t:= .aq) wA 0)))))))
 none)
 none)
 none)
 none)
 (k' (.exit 0) (NV wU (decide (wU<(wK.length:Int))) wH wG wI wJ wK wB wC wA wD wE wF wM wN wO wS wV))):=by kernel_rfl
theorem NX {R:Type} (N:Nat) (n:Nat) (k':Kx R) (wH:Int) (wG:Int) (wI:BA) (wJ:List BA) (wK:List ae) (wB:Int) (wC:List BA) (wA:List af) (wD:List Bool) (wE:Int) (wF:Int) (wM:Int) (wN:Int) (wO:BA) (wS:List BA):∀(m:Nat) (wU:Int) (wV:List ae),iter (fun st k=>ev (mX N) ta n (bl [1,1,0,1,0,1,0,0] rW) st k) m (Gf wU wH wG wI wJ wK wB wC wA wD wE wF wM wN wO wS wV) k'=sO N n (fun (uU:Int) (uV:Bool) (uE:List ae)=>k' (.exit 0) (NV uU uV wH wG wI wJ wK wB wC wA wD wE wF wM wN wO wS uE)) wH wG wI wJ wK wB wC wA wD wE wF wM wN wO wS m wU wV:=by
 intro m;induction m with
 | zero=>intros;rfl
 | succ m ih=>
  intro wU wV
  simp only [iter]
  rw [Ss]
  simp only [ih,sO]
noncomputable def mo {R:Type} (N:Nat) (n:Nat) (x0:Int→Bool→(List BA)→(List ae)→Option R) (wH:Int) (wG:Int) (wI:BA) (wJ:List BA) (wK:List ae) (wB:Int) (wC:List BA) (wA:List af) (wD:List Bool) (wE:Int) (wF:Int) (wM:Int) (wN:Int) (wO:BA) (wS:List BA) (wV:List ae):Nat→Int→(List BA)→(List ae)→Option R
  | 0,_,_,_=>none
  | m+1,wL,uB,uC=>
    (cond (decide (wL<(wJ.length:Int)))
   (cond ((decide ((0:Int)≤wL))&&(decide (wL<(wJ.length:Int))))
    (cond ((fun (r:af) (_:BA)=>bm r) (⟨wB,wC,wA,wD,wE,wF⟩:af) (ar (t:= .str) wJ (Int.toNat wL)))
     (cond (decide ((bg (⟨wB,wC,wA,wD,wE,wF⟩:af) (ar (t:= .str) wJ (Int.toNat wL)))≥(0:Int)))
      (cond ((decide ((0:Int)≤wL))&&(decide (wL<(wJ.length:Int))))
       (cond (Nat.ble (uB.length+1) bT)
        (cond ((decide ((0:Int)≤wL))&&(decide (wL<(wK.length:Int))))
         (cond ((decide ((0:Int)≤(bg (⟨wB,wC,wA,wD,wE,wF⟩:af) (ar (t:= .str) wJ (Int.toNat wL)))))&&(decide ((bg (⟨wB,wC,wA,wD,wE,wF⟩:af) (ar (t:= .str) wJ (Int.toNat wL)))<(wA.length:Int))))
          (cond ((tp (eN (ar (t:= .node) wK (Int.toNat wL))) (eR (ar (t:= .aq) wA (Int.toNat (bg (⟨wB,wC,wA,wD,wE,wF⟩:af) (ar (t:= .str) wJ (Int.toNat wL)))))))&&(Nat.blt ((fun (t:ae) (_:af)=>ao t) (eN (ar (t:= .node) wK (Int.toNat wL))) (eR (ar (t:= .aq) wA (Int.toNat (bg (⟨wB,wC,wA,wD,wE,wF⟩:af) (ar (t:= .str) wJ (Int.toNat wL))))))) N))
           (cond (Nat.ble (uC.length+1) bT)
            (mo N n x0 wH wG wI wJ wK wB wC wA wD wE wF wM wN wO wS wV m (IntKind.wrap .i64 (wL+(1:Int))) (uB++([(ar (t:= .str) wJ (Int.toNat wL))]:List BA)) (uC++([(eN (prune (eN (ar (t:= .node) wK (Int.toNat wL))) (eR (ar (t:= .aq) wA (Int.toNat (bg (⟨wB,wC,wA,wD,wE,wF⟩:af) (ar (t:= .str) wJ (Int.toNat wL))))))))]:List ae)))
            none)
           none)
          none)
         none)
        none)
       none)
      (mo N n x0 wH wG wI wJ wK wB wC wA wD wE wF wM wN wO wS wV m (IntKind.wrap .i64 (wL+(1:Int))) uB uC))
     none)
    none)
   (x0 wL (decide (wL<(wJ.length:Int))) uB uC))
theorem Sw {R:Type} (N:Nat) (n:Nat) (k':Kx R) (wL:Int) (wH:Int) (wG:Int) (wI:BA) (wJ:List BA) (wK:List ae) (wB:Int) (wC:List BA) (wA:List af) (wD:List Bool) (wE:Int) (wF:Int) (wM:Int) (wN:Int) (wO:BA) (wS:List BA) (wV:List ae) (uB:List BA) (uC:List ae):ev (mX N) ta n (bl [1,1,1,1,1,1,0,1,0,0] rW) (wj wL wH wG wI wJ wK wB wC wA wD wE wF wM wN wO wS wV uB uC) k'=
 (cond (decide (wL<(wJ.length:Int)))
 (cond ((decide ((0:Int)≤wL))&&(decide (wL<(wJ.length:Int))))
 (cond ((fun (r:af) (_:BA)=>bm r) (⟨wB,wC,wA,wD,wE,wF⟩:af) (ar (t:= .str) wJ (Int.toNat wL)))
 (cond (decide ((bg (⟨wB,wC,wA,wD,wE,wF⟩:af) (ar (t:= .str) wJ (Int.toNat wL)))≥(0:Int)))
 (cond ((decide ((0:Int)≤wL))&&(decide (wL<(wJ.length:Int))))
 (cond (Nat.ble (uB.length+1) bT)
 (cond ((decide ((0:Int)≤wL))&&(decide (wL<(wK.length:Int))))
 (cond ((decide ((0:Int)≤(bg (⟨wB,wC,wA,wD,wE,wF⟩:af) (ar (t:= .str) wJ (Int.toNat wL)))))&&(decide ((bg (⟨wB,wC,wA,wD,wE,wF⟩:af) (ar (t:= .str) wJ (Int.toNat wL)))<(wA.length:Int))))
 (cond ((tp (eN (ar (t:= .node) wK (Int.toNat wL))) (eR (ar (t:= .aq) wA (Int.toNat (bg (⟨wB,wC,wA,wD,wE,wF⟩:af) (ar (t:= .str) wJ (Int.toNat wL)))))))&&(Nat.blt ((fun (t:ae) (_:af)=>ao t) (eN (ar (t:= .node) wK (Int.toNat wL))) (eR (ar (t:= .aq) wA (Int.toNat (bg (⟨wB,wC,wA,wD,wE,wF⟩:af) (ar (t:= .str) wJ (Int.toNat wL))))))) N))
 (cond (Nat.ble (uC.length+1) bT)
 (k' .normal (wj (IntKind.wrap .i64 (wL+(1:Int))) wH wG wI wJ wK wB wC wA wD wE wF wM wN wO wS wV (uB++([(ar (t:= .str) wJ (Int.toNat wL))]:List BA)) (uC++([(eN (prune (eN (ar (t:= .node) wK (Int.toNat wL))) (eR (ar (t:= .aq) wA (Int.toNat (bg (⟨wB,wC,wA,wD,wE,wF⟩:af) (ar (t:= .str) wJ (Int.toNat wL))))))))]:List ae))))
 none)
 none)
 none)
 none)
 none)
 none)
 (k' .normal (wj (IntKind.wrap .i64 (wL+(1:Int))) wH wG wI wJ wK wB wC wA wD wE wF wM wN wO wS wV uB uC)))
 none)
 none)
 (k' (.exit 2) (NW wL (decide (wL<(wJ.length:Int))) wH wG wI wJ wK wB wC wA wD wE wF wM wN wO wS wV uB uC))):=by kernel_rfl
theorem Co {R:Type} (N:Nat) (n:Nat) (k':Kx R) (wH:Int) (wG:Int) (wI:BA) (wJ:List BA) (wK:List ae) (wB:Int) (wC:List BA) (wA:List af) (wD:List Bool) (wE:Int) (wF:Int) (wM:Int) (wN:Int) (wO:BA) (wS:List BA) (wV:List ae):∀(m:Nat) (wL:Int) (uB:List BA) (uC:List ae),iter (fun st k=>ev (mX N) ta n (bl [1,1,1,1,1,1,0,1,0,0] rW) st k) m (wj wL wH wG wI wJ wK wB wC wA wD wE wF wM wN wO wS wV uB uC) k'=mo N n (fun (uJ:Int) (uK:Bool) (uF:List BA) (uG:List ae)=>k' (.exit 2) (NW uJ uK wH wG wI wJ wK wB wC wA wD wE wF wM wN wO wS wV uF uG)) wH wG wI wJ wK wB wC wA wD wE wF wM wN wO wS wV m wL uB uC:=by
 intro m;induction m with
 | zero=>intros;rfl
 | succ m ih=>
  intro wL uB uC
  simp only [iter]
  rw [Sw]
  simp only [ih,mo]
noncomputable def Gg {R:Type} (N:Nat) (n:Nat) (k':Kx R):Kx R:=(bZ 2 (dS (mX N) ta n (bl [1,1,1,1,1,1,1] rW) k'))
theorem Cp {R:Type} (N:Nat) (n:Nat) (k:Kt R) (a0:ae) (a1:af) (wH:Int) (wG:Int) (wI:BA) (wJ:List BA) (wK:List ae) (wB:Int) (wC:List BA) (wA:List af) (wD:List Bool) (wE:Int) (wF:Int) (wM:Int) (wN:Int) (wO:BA) (wS:List BA) (wV:List ae) (uJ:Int) (uK:Bool) (uF:List BA) (uG:List ae):Gg N n (aC (mX N) [.ro,.ro] [false] true [.cell 4 35] [35] [.d .node a0,.d .aq a1] k) (.exit 2) (NW uJ uK wH wG wI wJ wK wB wC wA wD wE wF wM wN wO wS wV uF uG)=
 (k [.d .node (⟨wM,wN,wO,uF,uG⟩:ae)]):=by kernel_rfl
noncomputable def Uw {R:Type} (N:Nat) (n:Nat) (k':Kx R):Kx R:=(bZ 0 (dS (mX N) ta n (bl [1,1,1] rW) k'))
theorem NY {R:Type} (N:Nat) (n:Nat) (k:Kt R) (a0:ae) (a1:af) (wH:Int) (wG:Int) (wI:BA) (wJ:List BA) (wK:List ae) (wB:Int) (wC:List BA) (wA:List af) (wD:List Bool) (wE:Int) (wF:Int) (wM:Int) (wN:Int) (wO:BA) (wS:List BA) (uU:Int) (uV:Bool) (uE:List ae):Uw N n (aC (mX N) [.ro,.ro] [false] true [.cell 4 35] [35] [.d .node a0,.d .aq a1] k) (.exit 0) (NV uU uV wH wG wI wJ wK wB wC wA wD wE wF wM wN wO wS uE)=
 (cond (wB !=(5:Int))
 (k [.d .node (⟨wM,wN,wO,wS,uE⟩:ae)])
 (cond (!(bM (⟨wH,wG,wI,wJ,wK⟩:ae)))
 (k [.d .node (⟨wM,wN,wO,wS,uE⟩:ae)])
 (mo N n (fun (uJ:Int) (uK:Bool) (uF:List BA) (uG:List ae)=>
 (k [.d .node (⟨wM,wN,wO,uF,uG⟩:ae)])) wH wG wI wJ wK wB wC wA wD wE wF wM wN wO wS uE n (0:Int) ([]:List BA) ([]:List ae)))):=by
  refine Eq.trans (b:=(cond (wB !=(5:Int))
  (k [.d .node (⟨wM,wN,wO,wS,uE⟩:ae)])
  (cond (!(bM (⟨wH,wG,wI,wJ,wK⟩:ae)))
   (k [.d .node (⟨wM,wN,wO,wS,uE⟩:ae)])
   (iter (fun st k=>ev (mX N) ta n (bl [1,1,1,1,1,1,0,1,0,0] rW) st k) n (wj (0:Int) wH wG wI wJ wK wB wC wA wD wE wF wM wN wO wS uE ([]:List BA) ([]:List ae)) (Gg N n (aC (mX N) [.ro,.ro] [false] true [.cell 4 35] [35] [.d .node a0,.d .aq a1] k)))))) (by kernel_rfl) ?_
  simp only [Co,Cp]
theorem Sx {R:Type} (N:Nat) (n:Nat) (k:Kt R) (a0:ae) (a1:af):aM (mX N) ta n rW [.ro,.ro] [false] true [.cell 4 35] [35] [.d .node a0,.d .aq a1] k=
 (cond (ak (eN a0))
 (cond ((af.kind a1)==(4:Int))
 (cond ((ae.kind a0)==(4:Int))
 (sO N n (fun (uU:Int) (uV:Bool) (uE:List ae)=>
 (cond ((af.kind a1) !=(5:Int))
 (k [.d .node (⟨(ae.kind a0),(ae.n a0),(ae.s a0),(ae.keys a0),uE⟩:ae)])
 (cond (!(bM (⟨(ae.kind a0),(ae.n a0),(ae.s a0),(ae.keys a0),(ae.kids a0)⟩:ae)))
 (k [.d .node (⟨(ae.kind a0),(ae.n a0),(ae.s a0),(ae.keys a0),uE⟩:ae)])
 (mo N n (fun (uJ:Int) (uK:Bool) (uF:List BA) (uG:List ae)=>
 (k [.d .node (⟨(ae.kind a0),(ae.n a0),(ae.s a0),uF,uG⟩:ae)])) (ae.kind a0) (ae.n a0) (ae.s a0) (ae.keys a0) (ae.kids a0) (af.kind a1) (af.keys a1) (af.kids a1) (af.need a1) (af.low a1) (af.high a1) (ae.kind a0) (ae.n a0) (ae.s a0) (ae.keys a0) uE n (0:Int) ([]:List BA) ([]:List ae))))) (ae.kind a0) (ae.n a0) (ae.s a0) (ae.keys a0) (ae.kids a0) (af.kind a1) (af.keys a1) (af.kids a1) (af.need a1) (af.low a1) (af.high a1) (ae.kind a0) (ae.n a0) (ae.s a0) (ae.keys a0) n (0:Int) (ae.kids a0))
 (cond ((af.kind a1) !=(5:Int))
 (k [.d .node (eN a0)])
 (cond (!(bM (eN a0)))
 (k [.d .node (eN a0)])
 (mo N n (fun (uJ:Int) (uK:Bool) (uF:List BA) (uG:List ae)=>
 (k [.d .node (⟨(ae.kind a0),(ae.n a0),(ae.s a0),uF,uG⟩:ae)])) (ae.kind a0) (ae.n a0) (ae.s a0) (ae.keys a0) (ae.kids a0) (af.kind a1) (af.keys a1) (af.kids a1) (af.need a1) (af.low a1) (af.high a1) (ae.kind a0) (ae.n a0) (ae.s a0) (ae.keys a0) (ae.kids a0) n (0:Int) ([]:List BA) ([]:List ae)))))
 (cond ((af.kind a1) !=(5:Int))
 (k [.d .node (eN a0)])
 (cond (!(bM (eN a0)))
 (k [.d .node (eN a0)])
 (mo N n (fun (uJ:Int) (uK:Bool) (uF:List BA) (uG:List ae)=>
 (k [.d .node (⟨(ae.kind a0),(ae.n a0),(ae.s a0),uF,uG⟩:ae)])) (ae.kind a0) (ae.n a0) (ae.s a0) (ae.keys a0) (ae.kids a0) (af.kind a1) (af.keys a1) (af.kids a1) (af.need a1) (af.low a1) (af.high a1) (ae.kind a0) (ae.n a0) (ae.s a0) (ae.keys a0) (ae.kids a0) n (0:Int) ([]:List BA) ([]:List ae)))))
 none):=by
  refine Eq.trans (b:=(cond (ak (eN a0))
  (cond ((af.kind a1)==(4:Int))
   (cond ((ae.kind a0)==(4:Int))
    (iter (fun st k=>ev (mX N) ta n (bl [1,1,0,1,0,1,0,0] rW) st k) n (Gf (0:Int) (ae.kind a0) (ae.n a0) (ae.s a0) (ae.keys a0) (ae.kids a0) (af.kind a1) (af.keys a1) (af.kids a1) (af.need a1) (af.low a1) (af.high a1) (ae.kind a0) (ae.n a0) (ae.s a0) (ae.keys a0) (ae.kids a0)) (Uw N n (aC (mX N) [.ro,.ro] [false] true [.cell 4 35] [35] [.d .node a0,.d .aq a1] k)))
    (cond ((af.kind a1) !=(5:Int))
     (k [.d .node (eN a0)])
     (cond (!(bM (eN a0)))
      (k [.d .node (eN a0)])
      (iter (fun st k=>ev (mX N) ta n (bl [1,1,1,1,1,1,0,1,0,0] rW) st k) n (wj (0:Int) (ae.kind a0) (ae.n a0) (ae.s a0) (ae.keys a0) (ae.kids a0) (af.kind a1) (af.keys a1) (af.kids a1) (af.need a1) (af.low a1) (af.high a1) (ae.kind a0) (ae.n a0) (ae.s a0) (ae.keys a0) (ae.kids a0) ([]:List BA) ([]:List ae)) (Gg N n (aC (mX N) [.ro,.ro] [false] true [.cell 4 35] [35] [.d .node a0,.d .aq a1] k))))))
   (cond ((af.kind a1) !=(5:Int))
    (k [.d .node (eN a0)])
    (cond (!(bM (eN a0)))
     (k [.d .node (eN a0)])
     (iter (fun st k=>ev (mX N) ta n (bl [1,1,1,1,1,1,0,1,0,0] rW) st k) n (wj (0:Int) (ae.kind a0) (ae.n a0) (ae.s a0) (ae.keys a0) (ae.kids a0) (af.kind a1) (af.keys a1) (af.kids a1) (af.need a1) (af.low a1) (af.high a1) (ae.kind a0) (ae.n a0) (ae.s a0) (ae.keys a0) (ae.kids a0) ([]:List BA) ([]:List ae)) (Gg N n (aC (mX N) [.ro,.ro] [false] true [.cell 4 35] [35] [.d .node a0,.d .aq a1] k))))))
  none)) (by kernel_rfl) ?_
  simp only [NX,NY,Co,Cp]
theorem NZ (N:Nat) (a0:ae) (a1:af) (hg:tp a0 a1=true) (hm:W3 [.d .node a0,.d .aq a1]=N):∃aJ rounds,∀ {R:Type} (k:Kt R),aM (mX N) aJ rounds rW [.ro,.ro] [false] true [.cell 4 35] [35] [.d .node a0,.d .aq a1] k=k [.d .node (prune a0 a1)]:=by
 have hm:ao a0=N:=hm
 subst hm
 simp only [tp,Bool.and_eq_true] at hg
 obtain ⟨hg,hr,eY⟩:=hg
 have pg:=hg
 rw [bY] at hg
 simp only [Bool.and_eq_true] at hg
 obtain ⟨_,_,_,ng,mL⟩:=hg
 have vS:=bp ng
 have xm:=bp mL
 have xR:=hr
 rw [bL] at hr
 simp only [Bool.and_eq_true] at hr
 obtain ⟨_,Uu,D9,_⟩:=hr
 have nrk:=bp Uu
 have WX:=bp D9
 have NT:=eY
 rw [kx,Bool.and_eq_true] at eY
 have eT:=eY.1
 unfold jB at eT
 have eW:∀x∈a0.kids,Nat.blt (ao x) (ao a0)=true:=fun x hx=>by
  have:=bD (x:=a0) hx
  rw [Nat.blt_eq];exact this
 have gp:∀x∈a0.kids,∀q∈a1.kids,tp x q=true:=fun x hx q hq=>by
  simp only [tp,Bool.and_eq_true]
  exact ⟨iK pg hx,zM xR hq,qD NT hq⟩
 have NU:∀ {α:Type} {l:List α},l.length≤1048576→Nat.ble (l.length+1) bT=true:=fun h=>J4 h
 refine ⟨ta,a0.keys.length+a0.kids.length+1,fun {R} k=> ?_⟩
 rw [Sx]
 simp only [aT,bu,bN,cM,pg,cond_true]
 show _=k [.d .node (prune a0 a1)]
 have hL:(a1.kind==(4:Int))=true→∀(fin:Int→Bool→List ae→Option R),sO (ao a0) (a0.keys.length+a0.kids.length+1) fin a0.kind a0.n a0.s a0.keys a0.kids a1.kind a1.keys a1.kids a1.need a1.low a1.high a0.kind a0.n a0.s a0.keys (a0.keys.length+a0.kids.length+1) (0:Int) a0.kids=fin (a0.kids.length:Int) false (gA (ar (t:= .aq) a1.kids 0) a0.kids):=by
  intro r4 fin
  have r5:(a1.kind==(5:Int))=false:=by rw [eq_of_beq r4];rfl
  rw [r5,r4] at eT
  have Ij:(1:Int)≤(a1.kids.length:Int):=of_decide_eq_true eT
  have W0:decide ((0:Int)<(a1.kids.length:Int))=true:=decide_eq_true (by omega)
  have hq:=List.mem_of_getElem? (c9 (t:= .aq) (xs:=a1.kids) (i:=0) (by omega))
  refine Eq.trans (sD (xs:=a0.kids) (f:=fun x=>prune x (ar (t:= .aq) a1.kids 0)) (F:=fun m j vr=>sO (ao a0) (a0.keys.length+a0.kids.length+1) fin a0.kind a0.n a0.s a0.keys a0.kids a1.kind a1.keys a1.kids a1.need a1.low a1.high a0.kind a0.n a0.s a0.keys m (j:Int) vr) (good:=fun vr=>fin (a0.kids.length:Int) false vr)
   (fun m j vr x hx hvl w4=> ?_) (fun m vr hvl=>by simp only [sO,gG,cond_false]) a0.kids.length 0 (a0.keys.length+a0.kids.length+1) (by omega) (by omega)) (by rw [ic])
  obtain ⟨h1,h0,hw,ht⟩:=idx (aY hx) (by omega)
  have nz:=List.mem_of_getElem? hx
  simp only [sO,h1,h0,hw,ht,hvl,bz (t:= .node) hx,aT,bu,bN,cM,W0,gp x nz _ hq,eW x nz,Bool.and_self,cond_true]
 have hM:(a1.kind==(5:Int))=true→a0.keys.length=a0.kids.length→∀(fin:Int→Bool→List BA→List ae→Option R),mo (ao a0) (a0.keys.length+a0.kids.length+1) fin a0.kind a0.n a0.s a0.keys a0.kids a1.kind a1.keys a1.kids a1.need a1.low a1.high a0.kind a0.n a0.s a0.keys a0.kids (a0.keys.length+a0.kids.length+1) (0:Int) [] []=fin (a0.keys.length:Int) false (bn a1 a0.keys a0.kids).1 (bn a1 a0.keys a0.kids).2:=by
  intro r5 hlen fin
  rw [r5] at eT
  have Tq:=eq_of_beq (show ((a1.keys.length:Int)==(a1.kids.length:Int))=true from eT)
  refine Eq.trans (vz (r:=a1) (keys:=a0.keys) (kids:=a0.kids) hlen (F:=fun m j a b=>mo (ao a0) (a0.keys.length+a0.kids.length+1) fin a0.kind a0.n a0.s a0.keys a0.kids a1.kind a1.keys a1.kids a1.need a1.low a1.high a0.kind a0.n a0.s a0.keys a0.kids m (j:Int) a b) (good:=fun a b=>fin (a0.keys.length:Int) false a b)
   (fun m j a b key x hk hx ha hb=> ?_) (fun m a b=>by simp only [mo,gG,cond_false]) a0.keys.length 0 (a0.keys.length+a0.kids.length+1) [] [] (by omega) (by omega) (Nat.le_refl _) (Nat.le_refl _)) rfl
  obtain ⟨h1,h0,hw,ht⟩:=idx (aY hk) (by omega)
  obtain ⟨Au,_,_,_⟩:=idx (aY hx) (by omega)
  have hj:=aY hk
  have nz:=List.mem_of_getElem? hx
  have HL:BV a1 key=true:=by simp only [BV,Bool.and_eq_true,decide_eq_true_eq];exact ⟨xR,by omega⟩
  have la:=NU (l:=a) (by omega)
  have lb:=NU (l:=b) (by omega)
  by_cases pH:bg a1 key<0
  ·have Ey:decide (bg a1 key≥(0:Int))=false:=decide_eq_false (by omega)
   simp only [mo,h1,h0,hw,ht,bz (t:= .str) hk,bN,cM,HL,xR,bI,Ey,decide_eq_true pH,Bool.and_self,cond_true,cond_false]
  ·obtain ⟨i,e,hi⟩:=je pH
   have hq:=List.mem_of_getElem? (c9 (t:= .aq) (xs:=a1.kids) (i:=i) (by omega))
   have Ey:decide (bg a1 key≥(0:Int))=true:=decide_eq_true (by omega)
   have W1:decide ((0:Int)≤bg a1 key)=true:=Ey
   have ct:decide (bg a1 key<(a1.kids.length:Int))=true:=decide_eq_true (by omega)
   have ei:Int.toNat (bg a1 key)=i:=by omega
   simp only [mo,h1,Au,h0,hw,ht,bz (t:= .str) hk,bz (t:= .node) hx,aT,bu,bN,cM,HL,xR,bI,Ey,W1,ct,ei,gp x nz _ hq,eW x nz,la,lb,decide_eq_false pH,Bool.and_self,cond_true,cond_false]
 rw [fm]
 cases r4:a1.kind==(4:Int)
 ·cases r5:a1.kind==(5:Int)
  ·have e5:(a1.kind !=(5:Int))=true:=by simp only [bne,r5];rfl
   rw [e5]
   cases bM a0<;>cases a0.kind==(4:Int)<;>rfl
  ·have e5:(a1.kind !=(5:Int))=false:=by simp only [bne,r5];rfl
   rw [e5]
   cases oW:bM a0
   ·cases a0.kind==(4:Int)<;>rfl
   ·exact hM r5 (gj oW).2 _
 ·have r5:(a1.kind==(5:Int))=false:=by rw [eq_of_beq r4];rfl
  have e5:(a1.kind !=(5:Int))=true:=by simp only [bne,r5];rfl
  rw [e5,r5]
  cases h4:a0.kind==(4:Int)
  ·cases bM a0<;>rfl
  ·simp only [cond_true]
   rw [hL r4]
   cases bM a0<;>rfl
noncomputable def s58:Gm.Spec:=Gm.Spec.of [.ro,.ro] [false] true q58
theorem W4:Gm.Good Tryd.prog (58,s58):=by
 refine ⟨⟨fU W3 fun N hr=> ?_,_,Tryd.func58,by kernel_rfl,of_decide_eq_true (by kernel_rfl)⟩,Gm.Spec.aB _ _ _ _⟩
 have hl:∀x∈[(57,HI),(58,aaP N),(84,s84),(85,s85)],Gm.Good Tryd.prog x:=bJ.2 ⟨rT,bJ.2 ⟨⟨⟨hr,_,Tryd.func58,by kernel_rfl,of_decide_eq_true (by kernel_rfl)⟩,Gm.Spec.aB _ _ _ _⟩,bJ.2 ⟨WV,bJ.2 ⟨WY,im⟩⟩⟩⟩
 intro R
 refine aK (E:=mX N) (aV.env hl) (b9.cF hl) Tryd.func58 (by kernel_rfl:Tryd.f58.body=some rW) [35] (by kernel_rfl) ?_
 intro ds outs h
 obtain ⟨h,hm⟩:=cT h
 unfold q58 at h
 split at h
 ·simp only [Option.some.injEq,Prod.mk.injEq] at h;obtain ⟨hg,h⟩:=h;cases h;exact NZ N _ _ hg hm
 ·cases h
end Go.Proofs.YtglijihijmkpaaaDoor
