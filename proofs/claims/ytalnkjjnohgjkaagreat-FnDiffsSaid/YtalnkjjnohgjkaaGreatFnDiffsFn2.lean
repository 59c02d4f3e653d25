/- What the functions compute, part 2. No conditions. -/
import Derived.Test.YtalnkjjnohgjkaaGreatFnDiffsFn1
namespace Go.Proofs.YtalnkjjnohgjkaaGreat
open Go Go.Gm
noncomputable def aat:Code:=(Tryz.f72.body).getD .skip
def afh:Nat→Kp:=fa [⟨[1,3,5,6],[],[],[]⟩,⟨[1,3,5,6,10],[],[],[]⟩,⟨[6,7],[],[],[]⟩,⟨[6,7],[],[],[]⟩]
noncomputable def afi:Env:=bQ.env [(23,pU),(86,s86),(87,s87)]
theorem Vb{R:Type}(n:Nat)(k:Kt R)(a0:ae)(a1:List BA)(a2:ae):aG afi afh n aat [.ro,.ro,.ro] [false,false] true [.cell 6 27,.tmp 7] [27,4] [.d .node a0,.d (.sl .str) a1,.d .node a2] k=
 (cond ((a1.length:Int)==(0:Int))
 (cond (ag (eN a2))
 (k [.d .node (eN a2),.d .bool true])
 none)
 (cond (JD (eN a0) a1 (eN a2))
 (k [.d .node (eN ((gL (eN a0) a1 (eN a2)).1)),.d .bool ((gL (eN a0) a1 (eN a2)).2)])
 none)):=by kernel_rfl
theorem Pl(a0:ae)(a1:List BA)(a2:ae)(hg:gP a0 a1 a2=true):∃keep rounds,∀{R:Type}(k:Kt R),aG afi keep rounds aat [.ro,.ro,.ro] [false,false] true [.cell 6 27,.tmp 7] [27,4] [.d .node a0,.d (.sl .str) a1,.d .node a2] k=k [.d .node ((aW a0 a1 a2).1),.d .bool ((aW a0 a1 a2).2)]:=by
 have yF:=hg
 simp only[gP,Bool.and_eq_true] at hg
 obtain⟨hg,uc,mV⟩:=hg
 refine⟨afh,0,fun {R} k=> ?_⟩
 rw[Vb]
 show _=k [.d .node (aW a0 a1 a2).1,.d .bool (aW a0 a1 a2).2]
 unfold aW
 cases a1 with
 |nil=>simp only[az,aK,mV];rfl
 |cons p r=>
  have hgw:JD a0 (p::r) a2=true:=by simp only[JD,yF];rfl
  have l7:(((p::r).length:Int)==(0:Int))=false:=by rw[beq_eq_false_iff_ne];simp only[List.length_cons];omega
  simp only[az,aK,hgw,l7,cond_true,cond_false]
noncomputable def q72:Qt
 | [.d .node a0,.d (.sl .str) a1,.d .node a2]=>some ((gP a0 a1 a2),[.d .node ((aW a0 a1 a2).1),.d .bool ((aW a0 a1 a2).2)])
 |_=>none
noncomputable def s72:Gm.Spec:=Gm.Spec.of [.ro,.ro,.ro] [false,false] true q72
theorem aau:Gm.Good Tryz.prog (72,s72):=by
 have hl:∀x∈[(23,pU),(86,s86),(87,s87)],Gm.Good Tryz.prog x:=bt.2 ⟨ic,bt.2 ⟨Pk,bt.2 ⟨Gc,gw⟩⟩⟩
 refine⟨⟨aD (aL.env hl) (bQ.cq hl) Tryz.func72 (by kernel_rfl:Tryz.f72.body=some aat) [27,4] (by kernel_rfl) ?_,_,Tryz.func72,by kernel_rfl,of_decide_eq_true (by kernel_rfl)⟩,Gm.Spec.ax _ _ _ _⟩
 intro ds outs h
 unfold q72 at h
 split at h
 ·simp only[Option.some.injEq,Prod.mk.injEq] at h;obtain⟨hg,h⟩:=h;cases h;exact Pl _ _ _ hg
 ·cases h
noncomputable def H7(y0:BA)(y1:Int)(y2:Int)(y3:Int)(y4:BA)(y5:List BA)(y6:List ae)(y7:Int)(y8:Int)(y9:BA)(iu:List BA)(ix:List ae)(Ki:Int)(Vc:Int)(y17:BA)(y18:List BA)(y19:List ae):St:=⟨[(1,.c (.one (.v (.string y0)))),(3,.c (.one (.pt 3 0))),(5,.c (.one (.pt 5 0))),(6,.c (.one (.pt 6 0))),(7,.c (.one (.pt 7 0))),(8,.c (.one (.v (.int .i64 y1))))],[(3,⟨.node,[.v (.int .i64 y2),.v (.int .i64 y3),.v (.string y4),.ro .str y5,.ro .node y6]⟩),(5,⟨.node,[.v (.int .i64 y7),.v (.int .i64 y8),.v (.string y9),.ro .str iu,.ro .node ix]⟩),(6,⟨.node,[.v (.int .i64 (0:Int)),.v (.int .i64 (0:Int)),.v (.string ByteArray.empty),.nl,.nl]⟩),(7,⟨.node,[.v (.int .i64 Ki),.v (.int .i64 Vc),.v (.string y17),.h 768 0 0 [],.h 769 0 0 []]⟩)],[(768,.live ⟨.str,.deep,0,[],y18⟩),(769,.live ⟨.node,.deep,0,[],y19⟩)]⟩
noncomputable def Ah(y0:BA)(y1:Int)(y2:Bool)(y3:Int)(y4:Int)(y5:BA)(y6:List BA)(y7:List ae)(y8:Int)(y9:Int)(iu:BA)(ix:List BA)(kr:List ae)(Vc:Int)(y17:Int)(y18:BA)(y19:List BA)(y20:List ae):St:=⟨[(1,.c (.one (.v (.string y0)))),(3,.c (.one (.pt 3 0))),(5,.c (.one (.pt 5 0))),(6,.c (.one (.pt 6 0))),(7,.c (.one (.pt 7 0))),(8,.c (.one (.v (.int .i64 y1)))),(51,.c (.one (.v (.bool y2))))],[(3,⟨.node,[.v (.int .i64 y3),.v (.int .i64 y4),.v (.string y5),.ro .str y6,.ro .node y7]⟩),(5,⟨.node,[.v (.int .i64 y8),.v (.int .i64 y9),.v (.string iu),.ro .str ix,.ro .node kr]⟩),(6,⟨.node,[.v (.int .i64 (0:Int)),.v (.int .i64 (0:Int)),.v (.string ByteArray.empty),.nl,.nl]⟩),(7,⟨.node,[.v (.int .i64 Vc),.v (.int .i64 y17),.v (.string y18),.h 768 0 0 [],.h 769 0 0 []]⟩)],[(768,.live ⟨.str,.deep,0,[],y19⟩),(769,.live ⟨.node,.deep,0,[],y20⟩)]⟩
noncomputable def Gn:Code:=(Tryz.f48.body).getD .skip
def Kj:Nat→Kp:=fa [⟨[1,3,5,6],[],[],[]⟩,⟨[1,3,5,6,7],[],[],[]⟩,⟨[1,3,5,6,7,24],[],[],[]⟩,⟨[6],[],[],[]⟩,⟨[1,3,5,6,7,8],[],[],[]⟩,⟨[1,3,5,6,7,8,30],[],[],[]⟩,⟨[6,7],[],[],[]⟩,⟨[6],[],[],[]⟩,⟨[1,3,5,6,7,8],[],[],[]⟩,⟨[1,3,5,6,7,8,51],[],[],[]⟩,⟨[1,3,5,6,7,8],[],[],[]⟩,⟨[1,3,5,6,7,8,9],[],[],[]⟩,⟨[3,5,6,7,8,9],[],[],[]⟩,⟨[3,5,6,7,8,9,10],[],[],[]⟩,⟨[3,6,7,8,9,10],[],[],[]⟩,⟨[6],[],[],[]⟩]
noncomputable def BQ:Env:=bQ.env [(27,x3),(64,Z3)]
noncomputable def x6{R:Type}(n:Nat)(x0:Int→Bool→Option R)(x1:Int→Option R)(wM:BA)(wJ:Int)(wK:Int)(wL:BA)(wC:List BA)(wD:List ae)(wE:Int)(wF:Int)(wG:BA)(wH:List BA)(wI:List ae)(wP:Int)(wQ:Int)(wR:BA)(wN:List BA)(wO:List ae):Nat→Int→Option R
  |0,_=>none
  |m+1,wB=>
    (cond (decide (wB<(wC.length:Int)))
   (cond ((decide ((0:Int)≤wB))&&(decide (wB<(wC.length:Int))))
    (cond (dE (al (t:= .str) wC (Int.toNat wB)) wM)
     (x6 n x0 x1 wM wJ wK wL wC wD wE wF wG wH wI wP wQ wR wN wO m (IntKind.wrap .i64 (wB+(1:Int))))
     (x0 wB (dE (al (t:= .str) wC (Int.toNat wB)) wM)))
    none)
   (x1 wB))
theorem Ve{R:Type}(n:Nat)(k':Kx R)(wM:BA)(wB:Int)(wJ:Int)(wK:Int)(wL:BA)(wC:List BA)(wD:List ae)(wE:Int)(wF:Int)(wG:BA)(wH:List BA)(wI:List ae)(wP:Int)(wQ:Int)(wR:BA)(wN:List BA)(wO:List ae):ev BQ Kj n (bC [1,1,1,1,1,1,0,0,0] Gn) (H7 wM wB wJ wK wL wC wD wE wF wG wH wI wP wQ wR wN wO) k'=
 (cond (decide (wB<(wC.length:Int)))
 (cond ((decide ((0:Int)≤wB))&&(decide (wB<(wC.length:Int))))
 (cond (dE (al (t:= .str) wC (Int.toNat wB)) wM)
 (k' .normal (H7 wM (IntKind.wrap .i64 (wB+(1:Int))) wJ wK wL wC wD wE wF wG wH wI wP wQ wR wN wO))
 (k' (.exit 0) (Ah wM wB (dE (al (t:= .str) wC (Int.toNat wB)) wM) wJ wK wL wC wD wE wF wG wH wI wP wQ wR wN wO)))
 none)
 (k' (.exit 0) (Ah wM wB false wJ wK wL wC wD wE wF wG wH wI wP wQ wR wN wO))):=by kernel_rfl
theorem Pm{R:Type}(n:Nat)(k':Kx R)(wM:BA)(wJ:Int)(wK:Int)(wL:BA)(wC:List BA)(wD:List ae)(wE:Int)(wF:Int)(wG:BA)(wH:List BA)(wI:List ae)(wP:Int)(wQ:Int)(wR:BA)(wN:List BA)(wO:List ae):∀(m:Nat)(wB:Int),iter (fun st k=>ev BQ Kj n (bC [1,1,1,1,1,1,0,0,0] Gn) st k) m (H7 wM wB wJ wK wL wC wD wE wF wG wH wI wP wQ wR wN wO) k'=x6 n (fun(wA:Int)(wY:Bool)=>k' (.exit 0) (Ah wM wA wY wJ wK wL wC wD wE wF wG wH wI wP wQ wR wN wO)) (fun(wA:Int)=>k' (.exit 0) (Ah wM wA false wJ wK wL wC wD wE wF wG wH wI wP wQ wR wN wO)) wM wJ wK wL wC wD wE wF wG wH wI wP wQ wR wN wO m wB:=by
 intro m;induction m with
 |zero=>intros;rfl
 |succ m ih=>
  intro wB
  simp only[iter]
  rw[Ve]
  simp only[ih,x6]
noncomputable def Pn{R:Type}(n:Nat)(k':Kx R):Kx R:=(b8 0 (eP BQ Kj n (bC [1,1,1,1,1,1,1] Gn) k'))
theorem Po{R:Type}(n:Nat)(k:Kt R)(a0:ae)(a1:BA)(a2:ae)(wM:BA)(wJ:Int)(wK:Int)(wL:BA)(wC:List BA)(wD:List ae)(wE:Int)(wF:Int)(wG:BA)(wH:List BA)(wI:List ae)(wP:Int)(wQ:Int)(wR:BA)(wN:List BA)(wO:List ae)(wA:Int)(wY:Bool):Pn n (aI BQ [.ro,.ro,.ro] [false] true [.cell 6 27] [27] [.d .node a0,.d .str a1,.d .node a2] k) (.exit 0) (Ah wM wA wY wJ wK wL wC wD wE wF wG wH wI wP wQ wR wN wO)=
 (cond ((decide ((0:Int)≤wA))&&(decide (wA≤(wN.length:Int))))
 (cond (Nat.ble (0+((wN.take (Int.toNat wA)).drop 0).length) bT)
 (cond (Nat.ble ((([]:List BA)++((wN.take (Int.toNat wA)).drop 0)).length+1) bT)
 (cond ((decide ((0:Int)≤wA))&&(decide (wA≤(wO.length:Int))))
 (cond (Nat.ble (0+((wO.take (Int.toNat wA)).drop 0).length) bT)
 (cond (ag (⟨wE,wF,wG,wH,wI⟩:ae))
 (cond (Nat.ble ((([]:List ae)++((wO.take (Int.toNat wA)).drop 0)).length+1) bT)
 (cond ((decide ((0:Int)≤wA))&&((decide (wA≤(wN.length:Int)))&&(decide ((wN.length:Int)≤(wN.length:Int)))))
 (cond (Nat.ble (((([]:List BA)++((wN.take (Int.toNat wA)).drop 0))++([wM]:List BA)).length+((wN.take (Int.toNat (wN.length:Int))).drop (Int.toNat wA)).length) bT)
 (cond ((decide ((0:Int)≤wA))&&((decide (wA≤(wO.length:Int)))&&(decide ((wO.length:Int)≤(wO.length:Int)))))
 (cond (ov (Int.toNat wA) 0 (Int.toNat wA) 0)
 (cond (Nat.ble (((([]:List ae)++((wO.take (Int.toNat wA)).drop 0))++([(⟨wE,wF,wG,wH,wI⟩:ae)]:List ae)).length+((wO.take (Int.toNat (wO.length:Int))).drop (Int.toNat wA)).length) bT)
 (k [.d .node (⟨wJ,wK,wL,(((([]:List BA)++((wN.take (Int.toNat wA)).drop 0))++([wM]:List BA))++((wN.take (Int.toNat (wN.length:Int))).drop (Int.toNat wA))),(((([]:List ae)++((wO.take (Int.toNat wA)).drop 0))++([(⟨wE,wF,wG,wH,wI⟩:ae)]:List ae))++((wO.take (Int.toNat (wO.length:Int))).drop (Int.toNat wA)))⟩:ae)])
 none)
 none)
 none)
 none)
 none)
 none)
 none)
 none)
 none)
 none)
 none)
 none):=by kernel_rfl
theorem Pp{R:Type}(n:Nat)(k:Kt R)(a0:ae)(a1:BA)(a2:ae)(wM:BA)(wJ:Int)(wK:Int)(wL:BA)(wC:List BA)(wD:List ae)(wE:Int)(wF:Int)(wG:BA)(wH:List BA)(wI:List ae)(wP:Int)(wQ:Int)(wR:BA)(wN:List BA)(wO:List ae)(wA:Int):Pn n (aI BQ [.ro,.ro,.ro] [false] true [.cell 6 27] [27] [.d .node a0,.d .str a1,.d .node a2] k) (.exit 0) (Ah wM wA false wJ wK wL wC wD wE wF wG wH wI wP wQ wR wN wO)=
 (cond ((decide ((0:Int)≤wA))&&(decide (wA≤(wN.length:Int))))
 (cond (Nat.ble (0+((wN.take (Int.toNat wA)).drop 0).length) bT)
 (cond (Nat.ble ((([]:List BA)++((wN.take (Int.toNat wA)).drop 0)).length+1) bT)
 (cond ((decide ((0:Int)≤wA))&&(decide (wA≤(wO.length:Int))))
 (cond (Nat.ble (0+((wO.take (Int.toNat wA)).drop 0).length) bT)
 (cond (ag (⟨wE,wF,wG,wH,wI⟩:ae))
 (cond (Nat.ble ((([]:List ae)++((wO.take (Int.toNat wA)).drop 0)).length+1) bT)
 (cond ((decide ((0:Int)≤wA))&&((decide (wA≤(wN.length:Int)))&&(decide ((wN.length:Int)≤(wN.length:Int)))))
 (cond (Nat.ble (((([]:List BA)++((wN.take (Int.toNat wA)).drop 0))++([wM]:List BA)).length+((wN.take (Int.toNat (wN.length:Int))).drop (Int.toNat wA)).length) bT)
 (cond ((decide ((0:Int)≤wA))&&((decide (wA≤(wO.length:Int)))&&(decide ((wO.length:Int)≤(wO.length:Int)))))
 (cond (ov (Int.toNat wA) 0 (Int.toNat wA) 0)
 (cond (Nat.ble (((([]:List ae)++((wO.take (Int.toNat wA)).drop 0))++([(⟨wE,wF,wG,wH,wI⟩:ae)]:List ae)).length+((wO.take (Int.toNat (wO.length:Int))).drop (Int.toNat wA)).length) bT)
 (k [.d .node (⟨wJ,wK,wL,(((([]:List BA)++((wN.take (Int.toNat wA)).drop 0))++([wM]:List BA))++((wN.take (Int.toNat (wN.length:Int))).drop (Int.toNat wA))),(((([]:List ae)++((wO.take (Int.toNat wA)).drop 0))++([(⟨wE,wF,wG,wH,wI⟩:ae)]:List ae))++((wO.take (Int.toNat (wO.length:Int))).drop (Int.toNat wA)))⟩:ae)])
 none)
 none)
 none)
 none)
 none)
 none)
 none)
 none)
 none)
 none)
 none)
 none):=by kernel_rfl
theorem Vf{R:Type}(n:Nat)(k:Kt R)(a0:ae)(a1:BA)(a2:ae):aG BQ Kj n Gn [.ro,.ro,.ro] [false] true [.cell 6 27] [27] [.d .node a0,.d .str a1,.d .node a2] k=
 (cond (ag (eN a0))
 (cond ((ae.kind a0) !=(5:Int))
 (k [.d .node (eN a0)])
 (cond (((ae.keys a0).length:Int) !=((ae.kids a0).length:Int))
 (k [.d .node (eN a0)])
 (cond ((fun(x:ae)(_:BA)=>ag x) (eN a0) a1)
 (cond (decide ((bj (eN a0) a1)≥(0:Int)))
 (cond (ag (eN a2))
 (cond ((decide ((0:Int)≤(bj (eN a0) a1)))&&(decide ((bj (eN a0) a1)<((ae.kids a0).length:Int))))
 (k [.d .node (⟨(ae.kind a0),(ae.n a0),(ae.s a0),(ae.keys a0),((ae.kids a0).set (Int.toNat (bj (eN a0) a1)) (eN a2))⟩:ae)])
 none)
 none)
 (x6 n (fun(wA:Int)(wY:Bool)=>
 (cond ((decide ((0:Int)≤wA))&&(decide (wA≤((ae.keys a0).length:Int))))
 (cond (Nat.ble (0+(((ae.keys a0).take (Int.toNat wA)).drop 0).length) bT)
 (cond (Nat.ble ((([]:List BA)++(((ae.keys a0).take (Int.toNat wA)).drop 0)).length+1) bT)
 (cond ((decide ((0:Int)≤wA))&&(decide (wA≤((ae.kids a0).length:Int))))
 (cond (Nat.ble (0+(((ae.kids a0).take (Int.toNat wA)).drop 0).length) bT)
 (cond (ag (⟨(ae.kind a2),(ae.n a2),(ae.s a2),(ae.keys a2),(ae.kids a2)⟩:ae))
 (cond (Nat.ble ((([]:List ae)++(((ae.kids a0).take (Int.toNat wA)).drop 0)).length+1) bT)
 (cond ((decide ((0:Int)≤wA))&&((decide (wA≤((ae.keys a0).length:Int)))&&(decide (((ae.keys a0).length:Int)≤((ae.keys a0).length:Int)))))
 (cond (Nat.ble (((([]:List BA)++(((ae.keys a0).take (Int.toNat wA)).drop 0))++([a1]:List BA)).length+(((ae.keys a0).take (Int.toNat ((ae.keys a0).length:Int))).drop (Int.toNat wA)).length) bT)
 (cond ((decide ((0:Int)≤wA))&&((decide (wA≤((ae.kids a0).length:Int)))&&(decide (((ae.kids a0).length:Int)≤((ae.kids a0).length:Int)))))
 (cond (ov (Int.toNat wA) 0 (Int.toNat wA) 0)
 (cond (Nat.ble (((([]:List ae)++(((ae.kids a0).take (Int.toNat wA)).drop 0))++([(⟨(ae.kind a2),(ae.n a2),(ae.s a2),(ae.keys a2),(ae.kids a2)⟩:ae)]:List ae)).length+(((ae.kids a0).take (Int.toNat ((ae.kids a0).length:Int))).drop (Int.toNat wA)).length) bT)
 (k [.d .node (⟨(ae.kind a0),(ae.n a0),(ae.s a0),(((([]:List BA)++(((ae.keys a0).take (Int.toNat wA)).drop 0))++([a1]:List BA))++(((ae.keys a0).take (Int.toNat ((ae.keys a0).length:Int))).drop (Int.toNat wA))),(((([]:List ae)++(((ae.kids a0).take (Int.toNat wA)).drop 0))++([(⟨(ae.kind a2),(ae.n a2),(ae.s a2),(ae.keys a2),(ae.kids a2)⟩:ae)]:List ae))++(((ae.kids a0).take (Int.toNat ((ae.kids a0).length:Int))).drop (Int.toNat wA)))⟩:ae)])
 none)
 none)
 none)
 none)
 none)
 none)
 none)
 none)
 none)
 none)
 none)
 none)) (fun(wA:Int)=>
 (cond ((decide ((0:Int)≤wA))&&(decide (wA≤((ae.keys a0).length:Int))))
 (cond (Nat.ble (0+(((ae.keys a0).take (Int.toNat wA)).drop 0).length) bT)
 (cond (Nat.ble ((([]:List BA)++(((ae.keys a0).take (Int.toNat wA)).drop 0)).length+1) bT)
 (cond ((decide ((0:Int)≤wA))&&(decide (wA≤((ae.kids a0).length:Int))))
 (cond (Nat.ble (0+(((ae.kids a0).take (Int.toNat wA)).drop 0).length) bT)
 (cond (ag (⟨(ae.kind a2),(ae.n a2),(ae.s a2),(ae.keys a2),(ae.kids a2)⟩:ae))
 (cond (Nat.ble ((([]:List ae)++(((ae.kids a0).take (Int.toNat wA)).drop 0)).length+1) bT)
 (cond ((decide ((0:Int)≤wA))&&((decide (wA≤((ae.keys a0).length:Int)))&&(decide (((ae.keys a0).length:Int)≤((ae.keys a0).length:Int)))))
 (cond (Nat.ble (((([]:List BA)++(((ae.keys a0).take (Int.toNat wA)).drop 0))++([a1]:List BA)).length+(((ae.keys a0).take (Int.toNat ((ae.keys a0).length:Int))).drop (Int.toNat wA)).length) bT)
 (cond ((decide ((0:Int)≤wA))&&((decide (wA≤((ae.kids a0).length:Int)))&&(decide (((ae.kids a0).length:Int)≤((ae.kids a0).length:Int)))))
 (cond (ov (Int.toNat wA) 0 (Int.toNat wA) 0)
 (cond (Nat.ble (((([]:List ae)++(((ae.kids a0).take (Int.toNat wA)).drop 0))++([(⟨(ae.kind a2),(ae.n a2),(ae.s a2),(ae.keys a2),(ae.kids a2)⟩:ae)]:List ae)).length+(((ae.kids a0).take (Int.toNat ((ae.kids a0).length:Int))).drop (Int.toNat wA)).length) bT)
 (k [.d .node (⟨(ae.kind a0),(ae.n a0),(ae.s a0),(((([]:List BA)++(((ae.keys a0).take (Int.toNat wA)).drop 0))++([a1]:List BA))++(((ae.keys a0).take (Int.toNat ((ae.keys a0).length:Int))).drop (Int.toNat wA))),(((([]:List ae)++(((ae.kids a0).take (Int.toNat wA)).drop 0))++([(⟨(ae.kind a2),(ae.n a2),(ae.s a2),(ae.keys a2),(ae.kids a2)⟩:ae)]:List ae))++(((ae.kids a0).take (Int.toNat ((ae.kids a0).length:Int))).drop (Int.toNat wA)))⟩:ae)])
 none)
 none)
 none)
 none)
 none)
 none)
 none)
 none)
 none)
 none)
 none)
 none)) a1 (ae.kind a0) (ae.n a0) (ae.s a0) (ae.keys a0) (ae.kids a0) (ae.kind a2) (ae.n a2) (ae.s a2) (ae.keys a2) (ae.kids a2) (ae.kind a0) (ae.n a0) (ae.s a0) (ae.keys a0) (ae.kids a0) n (0:Int)))
 none)))
 none):=by
  refine Eq.trans (b:=(cond (ag (eN a0))
  (cond ((ae.kind a0) !=(5:Int))
   (k [.d .node (eN a0)])
   (cond (((ae.keys a0).length:Int) !=((ae.kids a0).length:Int))
    (k [.d .node (eN a0)])
    (cond ((fun(x:ae)(_:BA)=>ag x) (eN a0) a1)
     (cond (decide ((bj (eN a0) a1)≥(0:Int)))
      (cond (ag (eN a2))
       (cond ((decide ((0:Int)≤(bj (eN a0) a1)))&&(decide ((bj (eN a0) a1)<((ae.kids a0).length:Int))))
        (k [.d .node (⟨(ae.kind a0),(ae.n a0),(ae.s a0),(ae.keys a0),((ae.kids a0).set (Int.toNat (bj (eN a0) a1)) (eN a2))⟩:ae)])
        none)
       none)
      (iter (fun st k=>ev BQ Kj n (bC [1,1,1,1,1,1,0,0,0] Gn) st k) n (H7 a1 (0:Int) (ae.kind a0) (ae.n a0) (ae.s a0) (ae.keys a0) (ae.kids a0) (ae.kind a2) (ae.n a2) (ae.s a2) (ae.keys a2) (ae.kids a2) (ae.kind a0) (ae.n a0) (ae.s a0) (ae.keys a0) (ae.kids a0)) (Pn n (aI BQ [.ro,.ro,.ro] [false] true [.cell 6 27] [27] [.d .node a0,.d .str a1,.d .node a2] k))))
     none)))
  none)) (by kernel_rfl) ?_
  simp only[Pm,Po,Pp]
theorem Pq(a0:ae)(a1:BA)(a2:ae)(hg:uv a0 a1 a2=true):∃keep rounds,∀{R:Type}(k:Kt R),aG BQ keep rounds Gn [.ro,.ro,.ro] [false] true [.cell 6 27] [27] [.d .node a0,.d .str a1,.d .node a2] k=k [.d .node (gK a0 a1 a2)]:=by
 have O6:=hg
 simp only[uv,Bool.and_eq_true] at hg
 obtain⟨hg,po,mV⟩:=hg
 have fP:=hg
 rw[bf] at hg
 simp only[Bool.and_eq_true] at hg
 obtain⟨_,_,_,lQ,lg⟩:=hg
 have p9:=aR lQ
 have ot:=aR lg
 refine⟨Kj,a0.keys.length+1,fun {R} k=> ?_⟩
 rw[Vf]
 simp only[az,aK,fP,mV,cond_true]
 show _=k [.d .node (gK a0 a1 a2)]
 cases h5:a0.kind==(5:Int)
 ·rw[show (a0.kind !=(5:Int))=true by simp only[bne,h5];rfl]
  unfold gK aE;rw[h5];rfl
 rw[show (a0.kind !=(5:Int))=false by simp only[bne,h5];rfl]
 cases hl:((a0.keys.length:Int)==(a0.kids.length:Int))
 ·rw[show ((a0.keys.length:Int) !=(a0.kids.length:Int))=true by simp only[bne,hl];rfl]
  unfold gK aE;rw[h5,hl];rfl
 rw[show ((a0.keys.length:Int) !=(a0.kids.length:Int))=false by simp only[bne,hl];rfl]
 have hm:aE a0=true:=by unfold aE;rw[h5,hl];rfl
 have hl:=(cd hm).2
 simp only[cond_false]
 by_cases hk:bj a0 a1<0
 ·rw[lJ hm hk,decide_eq_false (show ¬(bj a0 a1≥0) by omega)]
  simp only[cond_false]
  refine Eq.trans (jM (n:=a0.keys.length) (F:=fun m i=>x6 (a0.keys.length+1) _ _ a1 _ _ _ a0.keys a0.kids _ _ _ _ _ _ _ _ _ _ m i) (p:=fun j=> !(dE (al (t:= .str) a0.keys j) a1)) (hit:=fun i=>k [.d .node (putKey a0 i a1 a2)]) (miss:=k [.d .node (putKey a0 (a0.keys.length:Int) a1 a2)])
   (fun m j hj=> ?_) (fun m=> ?_) a0.keys.length 0 (a0.keys.length+1) (by omega) (by omega)) ?_
  ·obtain⟨h1,h0,hw,ht⟩:=idx hj (by omega)
   have d0:decide ((0:Int)≤(j:Int))=true:=decide_eq_true (by omega)
   have d1:decide ((j:Int)≤(a0.keys.length:Int))=true:=decide_eq_true (by omega)
   have d2:decide ((j:Int)≤(a0.kids.length:Int))=true:=decide_eq_true (by omega)
   have d6:decide ((a0.keys.length:Int)≤(a0.keys.length:Int))=true:=decide_eq_true (Int.le_refl _)
   have d7:decide ((a0.kids.length:Int)≤(a0.kids.length:Int))=true:=decide_eq_true (Int.le_refl _)
   simp only[x6,h1,h0,hw,ht,Bool.and_self,cond_true]
   cases dE (al (t:= .str) a0.keys j) a1
   ·simp only[Bool.not_false,wv,d0,d1,d2,d6,d7,Int.toNat_natCast,List.drop_zero,List.take_length,List.nil_append,Bg p9,zT p9,tm p9,Bg ot,zT ot,tm ot,Bool.and_self,cond_true]
    rfl
   ·rfl
  ·have d0:decide ((0:Int)≤(a0.keys.length:Int))=true:=decide_eq_true (by omega)
   have d1:decide ((a0.keys.length:Int)≤(a0.keys.length:Int))=true:=decide_eq_true (by omega)
   have d2:decide ((a0.keys.length:Int)≤(a0.kids.length:Int))=true:=decide_eq_true (by omega)
   have d6:decide ((a0.keys.length:Int)≤(a0.keys.length:Int))=true:=decide_eq_true (Int.le_refl _)
   have d7:decide ((a0.kids.length:Int)≤(a0.kids.length:Int))=true:=decide_eq_true (Int.le_refl _)
   have e1:=Bg p9 a0.keys.length
   have e2:=zT p9 a0.keys.length
   have e3:=tm p9 a0.keys.length a0.keys.length a1
   rw[List.take_length] at e1 e2 e3
   have e4:putKey a0 (a0.keys.length:Int) a1 a2=⟨a0.kind,a0.n,a0.s,a0.keys++[a1]++a0.keys.drop a0.keys.length,a0.kids.take a0.keys.length++[a2]++a0.kids.drop a0.keys.length⟩:=by
    unfold putKey fN;rw[Int.toNat_natCast,List.take_length]
   simp only[x6,iX,cond_false,e1,e2,e3,e4,wv,d0,d1,d2,d6,d7,Int.toNat_natCast,List.drop_zero,List.take_length,List.nil_append,Bg p9,zT p9,tm p9,Bg ot,zT ot,tm ot,Bool.and_self,cond_true]
  ·unfold fE
   cases aZ (fun j=> !(dE (al (t:= .str) a0.keys j) a1)) 0 a0.keys.length<;>rfl
 ·rw[oY hm hk,decide_eq_true (show bj a0 a1≥0 by omega)]
  obtain⟨i,e,h1,h2⟩:=lH a0 a1 hk
  obtain⟨i1,i0,_,_⟩:=idx h2 (by omega)
  simp only[az,aK,e,i0,i1,Bool.and_self,cond_true]
  rfl
noncomputable def q48:Qt
 | [.d .node a0,.d .str a1,.d .node a2]=>some ((uv a0 a1 a2),[.d .node (gK a0 a1 a2)])
 |_=>none
noncomputable def s48:Gm.Spec:=Gm.Spec.of [.ro,.ro,.ro] [false] true q48
theorem Gp:Gm.Good Tryz.prog (48,s48):=by
 have hl:∀x∈[(27,x3),(64,Z3)],Gm.Good Tryz.prog x:=bt.2 ⟨jZ,bt.2 ⟨FX,gw⟩⟩
 refine⟨⟨aD (aL.env hl) (bQ.cq hl) Tryz.func48 (by kernel_rfl:Tryz.f48.body=some Gn) [27] (by kernel_rfl) ?_,_,Tryz.func48,by kernel_rfl,of_decide_eq_true (by kernel_rfl)⟩,Gm.Spec.ax _ _ _ _⟩
 intro ds outs h
 unfold q48 at h
 split at h
 ·simp only[Option.some.injEq,Prod.mk.injEq] at h;obtain⟨hg,h⟩:=h;cases h;exact Pq _ _ _ hg
 ·cases h
noncomputable def aay:Code:=(Tryz.f63.body).getD .skip
def afj:Nat→Kp:=fa [⟨[1,3,5,6],[],[],[]⟩,⟨[1,5,6,7],[],[],[]⟩,⟨[1,5,6,7,8],[],[],[]⟩,⟨[1,6,7,8],[],[],[]⟩,⟨[6,7],[],[],[]⟩,⟨[6],[],[],[]⟩]
noncomputable def afk:Env:=bQ.env [(27,x3)]
theorem Vg{R:Type}(n:Nat)(k:Kt R)(a0:ae)(a1:Int)(a2:ae):aG afk afj n aay [.ro,.ro,.ro] [false] true [.cell 6 27] [27] [.d .node a0,.d (.i .i64) a1,.d .node a2] k=
 (cond (ag (eN a0))
 (cond ((decide ((0:Int)≤a1))&&(decide (a1≤((ae.kids a0).length:Int))))
 (cond (Nat.ble (0+(((ae.kids a0).take (Int.toNat a1)).drop 0).length) bT)
 (cond (ag (eN a2))
 (cond (Nat.ble ((([]:List ae)++(((ae.kids a0).take (Int.toNat a1)).drop 0)).length+1) bT)
 (cond ((decide ((0:Int)≤a1))&&((decide (a1≤((ae.kids a0).length:Int)))&&(decide (((ae.kids a0).length:Int)≤((ae.kids a0).length:Int)))))
 (cond (ov (Int.toNat a1) 0 (Int.toNat a1) 0)
 (cond (Nat.ble (((([]:List ae)++(((ae.kids a0).take (Int.toNat a1)).drop 0))++([(eN a2)]:List ae)).length+(((ae.kids a0).take (Int.toNat ((ae.kids a0).length:Int))).drop (Int.toNat a1)).length) bT)
 (k [.d .node (⟨(ae.kind a0),(ae.n a0),(ae.s a0),(ae.keys a0),(((([]:List ae)++(((ae.kids a0).take (Int.toNat a1)).drop 0))++([(eN a2)]:List ae))++(((ae.kids a0).take (Int.toNat ((ae.kids a0).length:Int))).drop (Int.toNat a1)))⟩:ae)])
 none)
 none)
 none)
 none)
 none)
 none)
 none)
 none):=by kernel_rfl
theorem Ps(a0:ae)(a1:Int)(a2:ae)(hg:rW a0 a1 a2=true):∃keep rounds,∀{R:Type}(k:Kt R),aG afk keep rounds aay [.ro,.ro,.ro] [false] true [.cell 6 27] [27] [.d .node a0,.d (.i .i64) a1,.d .node a2] k=k [.d .node (dA a0 a1 a2)]:=by
 simp only[rW,Bool.and_eq_true] at hg
 obtain⟨hg,mV,hi0,hi1⟩:=hg
 have hi0:0≤a1:=of_decide_eq_true hi0
 have hi1:a1≤(a0.kids.length:Int):=of_decide_eq_true hi1
 obtain⟨i,rfl⟩:=Int.eq_ofNat_of_zero_le hi0
 have fP:=hg
 rw[bf] at hg
 simp only[Bool.and_eq_true] at hg
 obtain⟨_,_,_,lQ,lg⟩:=hg
 have p9:=aR lQ
 have ot:=aR lg
 refine⟨afj,0,fun {R} k=> ?_⟩
 rw[Vg]
 have d0:decide ((0:Int)≤(i:Int))=true:=decide_eq_true (by omega)
 have d2:decide ((i:Int)≤(a0.kids.length:Int))=true:=decide_eq_true (by omega)
 have d7:decide ((a0.kids.length:Int)≤(a0.kids.length:Int))=true:=decide_eq_true (Int.le_refl _)
 simp only[wv,az,aK,fP,mV,d0,d2,d7,Int.toNat_natCast,List.drop_zero,List.take_length,List.nil_append,Bg ot,zT ot,tm ot,Bool.and_self,cond_true]
 rfl
noncomputable def q63:Qt
 | [.d .node a0,.d (.i .i64) a1,.d .node a2]=>some ((rW a0 a1 a2),[.d .node (dA a0 a1 a2)])
 |_=>none
noncomputable def s63:Gm.Spec:=Gm.Spec.of [.ro,.ro,.ro] [false] true q63
theorem aaz:Gm.Good Tryz.prog (63,s63):=by
 have hl:∀x∈[(27,x3)],Gm.Good Tryz.prog x:=bt.2 ⟨jZ,gw⟩
 refine⟨⟨aD (aL.env hl) (bQ.cq hl) Tryz.func63 (by kernel_rfl:Tryz.f63.body=some aay) [27] (by kernel_rfl) ?_,_,Tryz.func63,by kernel_rfl,of_decide_eq_true (by kernel_rfl)⟩,Gm.Spec.ax _ _ _ _⟩
 intro ds outs h
 unfold q63 at h
 split at h
 ·simp only[Option.some.injEq,Prod.mk.injEq] at h;obtain⟨hg,h⟩:=h;cases h;exact Ps _ _ _ hg
 ·cases h
noncomputable def Ai(y0:BA)(y1:Int)(y2:Int)(y3:Int)(y4:BA)(y5:List BA)(y6:List ae)(y7:Int)(y8:Int)(y9:BA)(iu:List BA)(ix:List ae):St:=⟨[(1,.c (.one (.v (.string y0)))),(3,.c (.one (.pt 3 0))),(5,.c (.one (.pt 5 0))),(6,.c (.one (.pt 6 0))),(8,.c (.one (.v (.int .i64 y1))))],[(3,⟨.node,[.v (.int .i64 y2),.v (.int .i64 y3),.v (.string y4),.ro .str y5,.ro .node y6]⟩),(5,⟨.node,[.v (.int .i64 y7),.v (.int .i64 y8),.v (.string y9),.ro .str iu,.ro .node ix]⟩),(6,⟨.node,[.v (.int .i64 (0:Int)),.v (.int .i64 (0:Int)),.v (.string ByteArray.empty),.nl,.nl]⟩)],[]⟩
noncomputable def H8(y1:Int)(y2:Int)(y3:BA)(y4:List BA)(y5:List ae):St:=⟨[(6,.c (.one (.pt 6 0))),(7,.c (.one (.v (.bool true))))],[(6,⟨.node,[.v (.int .i64 y1),.v (.int .i64 y2),.v (.string y3),.h 3520 0 0 [],.h 3521 0 0 []]⟩)],[(3520,.live ⟨.str,.deep,0,[],y4⟩),(3521,.live ⟨.node,.deep,0,[],y5⟩)]⟩
noncomputable def Pu(y0:BA)(y1:Int)(y2:Bool)(y3:Int)(y4:Int)(y5:BA)(y6:List BA)(y7:List ae)(y8:Int)(y9:Int)(iu:BA)(ix:List BA)(kr:List ae):St:=⟨[(1,.c (.one (.v (.string y0)))),(3,.c (.one (.pt 3 0))),(5,.c (.one (.pt 5 0))),(6,.c (.one (.pt 6 0))),(8,.c (.one (.v (.int .i64 y1)))),(34,.c (.one (.v (.bool y2))))],[(3,⟨.node,[.v (.int .i64 y3),.v (.int .i64 y4),.v (.string y5),.ro .str y6,.ro .node y7]⟩),(5,⟨.node,[.v (.int .i64 y8),.v (.int .i64 y9),.v (.string iu),.ro .str ix,.ro .node kr]⟩),(6,⟨.node,[.v (.int .i64 (0:Int)),.v (.int .i64 (0:Int)),.v (.string ByteArray.empty),.nl,.nl]⟩)],[]⟩
noncomputable def DT:Code:=(Tryz.f40.body).getD .skip
def Gq:Nat→Kp:=fa [⟨[1,3,5,6],[],[],[]⟩,⟨[1,3,5,6,20],[],[],[]⟩,⟨[6,7],[],[],[]⟩,⟨[1,3,5,6,27],[],[],[]⟩,⟨[6,7],[],[],[]⟩,⟨[1,3,5,6,8],[],[],[]⟩,⟨[1,3,5,6,8,34],[],[],[]⟩,⟨[1,3,5,6,8],[],[],[]⟩,⟨[1,3,5,6,8,51],[],[],[]⟩,⟨[6,7],[],[],[]⟩,⟨[6,7],[],[],[]⟩]
noncomputable def x7:Env:=bQ.env [(27,x3),(29,UH),(48,s48),(63,s63)]
noncomputable def sB{R:Type}(n:Nat)(x0:Int→Int→BA→(List BA)→(List ae)→Option R)(x1:Int→Bool→Option R)(wM:BA)(wJ:Int)(wK:Int)(wL:BA)(wC:List BA)(wD:List ae)(wE:Int)(wF:Int)(wG:BA)(wH:List BA)(wI:List ae):Nat→Int→Option R
  |0,_=>none
  |m+1,wB=>
    (cond (decide (wB≤(wD.length:Int)))
   (cond (gj wB)
    (cond (cy (bw wB) wM)
     (cond (rW (⟨wJ,wK,wL,wC,wD⟩:ae) wB (⟨wE,wF,wG,wH,wI⟩:ae))
      (x0 (ae.kind (dA (⟨wJ,wK,wL,wC,wD⟩:ae) wB (⟨wE,wF,wG,wH,wI⟩:ae))) (ae.n (dA (⟨wJ,wK,wL,wC,wD⟩:ae) wB (⟨wE,wF,wG,wH,wI⟩:ae))) (ae.s (dA (⟨wJ,wK,wL,wC,wD⟩:ae) wB (⟨wE,wF,wG,wH,wI⟩:ae))) (ae.keys (dA (⟨wJ,wK,wL,wC,wD⟩:ae) wB (⟨wE,wF,wG,wH,wI⟩:ae))) (ae.kids (dA (⟨wJ,wK,wL,wC,wD⟩:ae) wB (⟨wE,wF,wG,wH,wI⟩:ae))))
      none)
     (cond (cy wM (bs [45]))
      (cond (wB==(wD.length:Int))
       (cond (rW (⟨wJ,wK,wL,wC,wD⟩:ae) wB (⟨wE,wF,wG,wH,wI⟩:ae))
        (x0 (ae.kind (dA (⟨wJ,wK,wL,wC,wD⟩:ae) wB (⟨wE,wF,wG,wH,wI⟩:ae))) (ae.n (dA (⟨wJ,wK,wL,wC,wD⟩:ae) wB (⟨wE,wF,wG,wH,wI⟩:ae))) (ae.s (dA (⟨wJ,wK,wL,wC,wD⟩:ae) wB (⟨wE,wF,wG,wH,wI⟩:ae))) (ae.keys (dA (⟨wJ,wK,wL,wC,wD⟩:ae) wB (⟨wE,wF,wG,wH,wI⟩:ae))) (ae.kids (dA (⟨wJ,wK,wL,wC,wD⟩:ae) wB (⟨wE,wF,wG,wH,wI⟩:ae))))
        none)
       (sB n x0 x1 wM wJ wK wL wC wD wE wF wG wH wI m (IntKind.wrap .i64 (wB+(1:Int)))))
      (sB n x0 x1 wM wJ wK wL wC wD wE wF wG wH wI m (IntKind.wrap .i64 (wB+(1:Int))))))
    none)
   (x1 wB (decide (wB≤(wD.length:Int)))))
theorem Vh{R:Type}(n:Nat)(k':Kx R)(wM:BA)(wB:Int)(wJ:Int)(wK:Int)(wL:BA)(wC:List BA)(wD:List ae)(wE:Int)(wF:Int)(wG:BA)(wH:List BA)(wI:List ae):ev x7 Gq n (bC [1,1,1,0,1,0,0] DT) (Ai wM wB wJ wK wL wC wD wE wF wG wH wI) k'=
 (cond (decide (wB≤(wD.length:Int)))
 (cond (gj wB)
 (cond (cy (bw wB) wM)
 (cond (rW (⟨wJ,wK,wL,wC,wD⟩:ae) wB (⟨wE,wF,wG,wH,wI⟩:ae))
 (k' .ret (H8 (ae.kind (dA (⟨wJ,wK,wL,wC,wD⟩:ae) wB (⟨wE,wF,wG,wH,wI⟩:ae))) (ae.n (dA (⟨wJ,wK,wL,wC,wD⟩:ae) wB (⟨wE,wF,wG,wH,wI⟩:ae))) (ae.s (dA (⟨wJ,wK,wL,wC,wD⟩:ae) wB (⟨wE,wF,wG,wH,wI⟩:ae))) (ae.keys (dA (⟨wJ,wK,wL,wC,wD⟩:ae) wB (⟨wE,wF,wG,wH,wI⟩:ae))) (ae.kids (dA (⟨wJ,wK,wL,wC,wD⟩:ae) wB (⟨wE,wF,wG,wH,wI⟩:ae)))))
 none)
 (cond (cy wM (bs [45]))
 (cond (wB==(wD.length:Int))
 (cond (rW (⟨wJ,wK,wL,wC,wD⟩:ae) wB (⟨wE,wF,wG,wH,wI⟩:ae))
 (k' .ret (H8 (ae.kind (dA (⟨wJ,wK,wL,wC,wD⟩:ae) wB (⟨wE,wF,wG,wH,wI⟩:ae))) (ae.n (dA (⟨wJ,wK,wL,wC,wD⟩:ae) wB (⟨wE,wF,wG,wH,wI⟩:ae))) (ae.s (dA (⟨wJ,wK,wL,wC,wD⟩:ae) wB (⟨wE,wF,wG,wH,wI⟩:ae))) (ae.keys (dA (⟨wJ,wK,wL,wC,wD⟩:ae) wB (⟨wE,wF,wG,wH,wI⟩:ae))) (ae.kids (dA (⟨wJ,wK,wL,wC,wD⟩:ae) wB (⟨wE,wF,wG,wH,wI⟩:ae)))))
 none)
 (k' .normal (Ai wM (IntKind.wrap .i64 (wB+(1:Int))) wJ wK wL wC wD wE wF wG wH wI)))
 (k' .normal (Ai wM (IntKind.wrap .i64 (wB+(1:Int))) wJ wK wL wC wD wE wF wG wH wI))))
 none)
 (k' (.exit 0) (Pu wM wB (decide (wB≤(wD.length:Int))) wJ wK wL wC wD wE wF wG wH wI))):=by kernel_rfl
theorem Pv{R:Type}(n:Nat)(k':Kx R)(wM:BA)(wJ:Int)(wK:Int)(wL:BA)(wC:List BA)(wD:List ae)(wE:Int)(wF:Int)(wG:BA)(wH:List BA)(wI:List ae):∀(m:Nat)(wB:Int),iter (fun st k=>ev x7 Gq n (bC [1,1,1,0,1,0,0] DT) st k) m (Ai wM wB wJ wK wL wC wD wE wF wG wH wI) k'=sB n (fun(wS:Int)(wT:Int)(wU:BA)(wV:List BA)(wW:List ae)=>k' .ret (H8 wS wT wU wV wW)) (fun(wA:Int)(wX:Bool)=>k' (.exit 0) (Pu wM wA wX wJ wK wL wC wD wE wF wG wH wI)) wM wJ wK wL wC wD wE wF wG wH wI m wB:=by
 intro m;induction m with
 |zero=>intros;rfl
 |succ m ih=>
  intro wB
  simp only[iter]
  rw[Vh]
  simp only[ih,sB]
noncomputable def H9{R:Type}(n:Nat)(k':Kx R):Kx R:=(b8 0 (eP x7 Gq n (bC [1,1,1,1] DT) k'))
theorem Pw{R:Type}(n:Nat)(k:Kt R)(a0:ae)(a1:BA)(a2:ae)(wS:Int)(wT:Int)(wU:BA)(wV:List BA)(wW:List ae):H9 n (aI x7 [.ro,.ro,.ro] [false,false] true [.cell 6 27,.tmp 7] [27,4] [.d .node a0,.d .str a1,.d .node a2] k) .ret (H8 wS wT wU wV wW)=
 (k [.d .node (⟨wS,wT,wU,wV,wW⟩:ae),.d .bool true]):=by kernel_rfl
theorem Px{R:Type}(n:Nat)(k:Kt R)(a0:ae)(a1:BA)(a2:ae)(wM:BA)(wJ:Int)(wK:Int)(wL:BA)(wC:List BA)(wD:List ae)(wE:Int)(wF:Int)(wG:BA)(wH:List BA)(wI:List ae)(wA:Int)(wX:Bool):H9 n (aI x7 [.ro,.ro,.ro] [false,false] true [.cell 6 27,.tmp 7] [27,4] [.d .node a0,.d .str a1,.d .node a2] k) (.exit 0) (Pu wM wA wX wJ wK wL wC wD wE wF wG wH wI)=
 (cond (ag (⟨wJ,wK,wL,wC,wD⟩:ae))
 (k [.d .node (⟨wJ,wK,wL,wC,wD⟩:ae),.d .bool false])
 none):=by kernel_rfl
theorem Vi{R:Type}(n:Nat)(k:Kt R)(a0:ae)(a1:BA)(a2:ae):aG x7 Gq n DT [.ro,.ro,.ro] [false,false] true [.cell 6 27,.tmp 7] [27,4] [.d .node a0,.d .str a1,.d .node a2] k=
 (cond ((ae.kind a0)==(5:Int))
 (cond (((ae.keys a0).length:Int)==((ae.kids a0).length:Int))
 (cond (uv (eN a0) a1 (eN a2))
 (k [.d .node (eN (gK (eN a0) a1 (eN a2))),.d .bool true])
 none)
 (cond ((ae.kind a0) !=(4:Int))
 (cond (ag (eN a0))
 (k [.d .node (eN a0),.d .bool false])
 none)
 (sB n (fun(wS:Int)(wT:Int)(wU:BA)(wV:List BA)(wW:List ae)=>
 (k [.d .node (⟨wS,wT,wU,wV,wW⟩:ae),.d .bool true])) (fun(wA:Int)(wX:Bool)=>
 (cond (ag (⟨(ae.kind a0),(ae.n a0),(ae.s a0),(ae.keys a0),(ae.kids a0)⟩:ae))
 (k [.d .node (eN a0),.d .bool false])
 none)) a1 (ae.kind a0) (ae.n a0) (ae.s a0) (ae.keys a0) (ae.kids a0) (ae.kind a2) (ae.n a2) (ae.s a2) (ae.keys a2) (ae.kids a2) n (0:Int))))
 (cond ((ae.kind a0) !=(4:Int))
 (cond (ag (eN a0))
 (k [.d .node (eN a0),.d .bool false])
 none)
 (sB n (fun(wS:Int)(wT:Int)(wU:BA)(wV:List BA)(wW:List ae)=>
 (k [.d .node (⟨wS,wT,wU,wV,wW⟩:ae),.d .bool true])) (fun(wA:Int)(wX:Bool)=>
 (cond (ag (⟨(ae.kind a0),(ae.n a0),(ae.s a0),(ae.keys a0),(ae.kids a0)⟩:ae))
 (k [.d .node (eN a0),.d .bool false])
 none)) a1 (ae.kind a0) (ae.n a0) (ae.s a0) (ae.keys a0) (ae.kids a0) (ae.kind a2) (ae.n a2) (ae.s a2) (ae.keys a2) (ae.kids a2) n (0:Int)))):=by
  refine Eq.trans (b:=(cond ((ae.kind a0)==(5:Int))
  (cond (((ae.keys a0).length:Int)==((ae.kids a0).length:Int))
   (cond (uv (eN a0) a1 (eN a2))
    (k [.d .node (eN (gK (eN a0) a1 (eN a2))),.d .bool true])
    none)
   (cond ((ae.kind a0) !=(4:Int))
    (cond (ag (eN a0))
     (k [.d .node (eN a0),.d .bool false])
     none)
    (iter (fun st k=>ev x7 Gq n (bC [1,1,1,0,1,0,0] DT) st k) n (Ai a1 (0:Int) (ae.kind a0) (ae.n a0) (ae.s a0) (ae.keys a0) (ae.kids a0) (ae.kind a2) (ae.n a2) (ae.s a2) (ae.keys a2) (ae.kids a2)) (H9 n (aI x7 [.ro,.ro,.ro] [false,false] true [.cell 6 27,.tmp 7] [27,4] [.d .node a0,.d .str a1,.d .node a2] k)))))
  (cond ((ae.kind a0) !=(4:Int))
   (cond (ag (eN a0))
    (k [.d .node (eN a0),.d .bool false])
    none)
   (iter (fun st k=>ev x7 Gq n (bC [1,1,1,0,1,0,0] DT) st k) n (Ai a1 (0:Int) (ae.kind a0) (ae.n a0) (ae.s a0) (ae.keys a0) (ae.kids a0) (ae.kind a2) (ae.n a2) (ae.s a2) (ae.keys a2) (ae.kids a2)) (H9 n (aI x7 [.ro,.ro,.ro] [false,false] true [.cell 6 27,.tmp 7] [27,4] [.d .node a0,.d .str a1,.d .node a2] k)))))) (by kernel_rfl) ?_
  simp only[Pv,Pw,Px]
theorem Py(a0:ae)(a1:BA)(a2:ae)(hg:uv a0 a1 a2=true):∃keep rounds,∀{R:Type}(k:Kt R),aG x7 keep rounds DT [.ro,.ro,.ro] [false,false] true [.cell 6 27,.tmp 7] [27,4] [.d .node a0,.d .str a1,.d .node a2] k=k [.d .node ((rX a0 a1 a2).1),.d .bool ((rX a0 a1 a2).2)]:=by
 have O6:=hg
 simp only[uv,Bool.and_eq_true] at hg
 obtain⟨hg,po,mV⟩:=hg
 have fP:=hg
 rw[bf] at hg
 simp only[Bool.and_eq_true] at hg
 obtain⟨_,_,_,lQ,lg⟩:=hg
 have p9:=aR lQ
 have ot:=aR lg
 refine⟨Gq,a0.kids.length+2,fun {R} k=> ?_⟩
 rw[Vi]
 simp only[az,aK,fP,O6,cond_true]
 show _=k [.d .node (rX a0 a1 a2).1,.d .bool (rX a0 a1 a2).2]
 unfold rX
 rw[nJ]
 unfold dx
 cases h5:a0.kind==(5:Int)
 rotate_left
 ·obtain⟨n4,e4⟩:=aiz h5
  cases hl:((a0.keys.length:Int)==(a0.kids.length:Int))
  ·rw[show aE a0=false by unfold aE;rw[h5,hl];rfl,n4,e4];rfl
  ·rw[show aE a0=true by unfold aE;rw[h5,hl];rfl];rfl
 rw[show aE a0=false by unfold aE;rw[h5];rfl]
 simp only[cond_false]
 cases h4:a0.kind==(4:Int)
 ·rw[show (a0.kind !=(4:Int))=true by simp only[bne,h4];rfl];rfl
 rw[show (a0.kind !=(4:Int))=false by simp only[bne,h4];rfl]
 simp only[cond_true,cond_false]
 refine Eq.trans (jM (n:=a0.kids.length+1) (F:=fun m i=>sB (a0.kids.length+2) _ _ a1 _ _ _ _ a0.kids _ _ _ _ _ m i) (p:=rV a1 a0.kids.length) (hit:=fun i=>k [.d .node (dA a0 i a2),.d .bool true]) (miss:=k [.d .node a0,.d .bool false])
  (fun m j hj=> ?_) (fun m=> ?_) (a0.kids.length+1) 0 (a0.kids.length+2) (by omega) (by omega)) ?_
 ·have h1:decide ((j:Int)≤(a0.kids.length:Int))=true:=decide_eq_true (by omega)
  have h2:gj (j:Int)=true:=lG (by omega) (by omega)
  have h3:rW a0 (j:Int) a2=true:=by
   simp only[rW,Bool.and_eq_true,decide_eq_true_eq];exact⟨fP,mV,by omega,by omega⟩
  have hw:IntKind.wrap .i64 ((j:Int)+1)=((j+1:Nat):Int):=by rw[cn (by omega) (by omega)];rfl
  simp only[sB,az,aK,h1,h2,h3,hw,cond_true]
  unfold rV
  rw[show cy a1 (bs [45])=cy a1 dash from rfl]
  cases cy (bw (j:Int)) a1
  ·cases cy a1 dash
   ·rfl
   ·cases ((j:Int)==(a0.kids.length:Int))<;>rfl
  ·rfl
 ·have h1:decide (((a0.kids.length+1:Nat):Int)≤(a0.kids.length:Int))=false:=decide_eq_false (by omega)
  simp only[sB,h1,cond_false]
 ·unfold kD
  cases hf:aZ (rV a1 a0.kids.length) 0 (a0.kids.length+1) with
  |none=>rfl
  |some i=>
   rw[decide_eq_false (show ¬(oP (some i)<0) by show ¬((i:Int)<0);omega)]
   rfl
noncomputable def q40:Qt
 | [.d .node a0,.d .str a1,.d .node a2]=>some ((uv a0 a1 a2),[.d .node ((rX a0 a1 a2).1),.d .bool ((rX a0 a1 a2).2)])
 |_=>none
noncomputable def s40:Gm.Spec:=Gm.Spec.of [.ro,.ro,.ro] [false,false] true q40
theorem aaA:Gm.Good Tryz.prog (40,s40):=by
 have hl:∀x∈[(27,x3),(29,UH),(48,s48),(63,s63)],Gm.Good Tryz.prog x:=bt.2 ⟨jZ,bt.2 ⟨BH,bt.2 ⟨Gp,bt.2 ⟨aaz,gw⟩⟩⟩⟩
 refine⟨⟨aD (aL.env hl) (bQ.cq hl) Tryz.func40 (by kernel_rfl:Tryz.f40.body=some DT) [27,4] (by kernel_rfl) ?_,_,Tryz.func40,by kernel_rfl,of_decide_eq_true (by kernel_rfl)⟩,Gm.Spec.ax _ _ _ _⟩
 intro ds outs h
 unfold q40 at h
 split at h
 ·simp only[Option.some.injEq,Prod.mk.injEq] at h;obtain⟨hg,h⟩:=h;cases h;exact Py _ _ _ hg
 ·cases h
noncomputable def q16:Qt
 | [.d .node a0,.d (.sl .str) a1,.d .node a2]=>some ((gP a0 a1 a2),[.d .node ((aW a0 a1 a2).1),.d .bool ((aW a0 a1 a2).2)])
 |_=>none
noncomputable def aaB:List Dt→Nat
 | [.d .node a0,.d (.sl .str) a1,.d .node a2]=>(fun(_:ae)(p:List BA)(_:ae)=>p.length) a0 a1 a2
 |_=>0
noncomputable def afl(N:Nat):Gm.Spec:=Gm.Spec.of [.ro,.ro,.ro] [false,false] true (qA aaB N q16)
noncomputable def aaC:Code:=(Tryz.f16.body).getD .skip
def afm:Nat→Kp:=fa [⟨[1,3,5,6],[],[],[]⟩,⟨[1,3,5,6,16],[],[],[]⟩,⟨[6,7],[],[],[]⟩,⟨[1,3,5,6,21],[],[],[]⟩,⟨[6,8,9],[],[],[]⟩,⟨[6,7],[],[],[]⟩,⟨[1,3,5,6,10],[],[],[]⟩,⟨[1,3,5,6,10,46],[],[],[]⟩,⟨[6,7],[],[],[]⟩,⟨[3,6,10,11,12],[],[],[]⟩,⟨[6,10,11,12,13],[],[],[]⟩,⟨[6,10,11,12,13,63],[],[],[]⟩,⟨[6,12,13],[],[],[]⟩,⟨[6,7],[],[],[]⟩]
noncomputable def aaD(N:Nat):Env:=bQ.env [(16,afl N),(27,x3),(40,s40),(41,Z4)]
noncomputable def X0(a0:ae)(a1:List BA)(a2:ae):List ae:=
 ((ae.kids a0).set (Int.toNat (aw (eN a0) (al (t:= .str) a1 0))) (eN ((aW (eN (al (t:= .node) (ae.kids a0) (Int.toNat (aw (eN a0) (al (t:= .str) a1 0))))) ((a1.take (Int.toNat (a1.length:Int))).drop 1) (eN a2)).1)))
theorem Vj{R:Type}(N:Nat)(n:Nat)(k:Kt R)(a0:ae)(a1:List BA)(a2:ae):aG (aaD N) afm n aaC [.ro,.ro,.ro] [false,false] true [.cell 6 27,.tmp 7] [27,4] [.d .node a0,.d (.sl .str) a1,.d .node a2] k=
 (cond ((a1.length:Int)==(0:Int))
 (cond (ag (eN a2))
 (k [.d .node (eN a2),.d .bool true])
 none)
 (cond ((a1.length:Int)==(1:Int))
 (cond (decide ((0:Int)<(a1.length:Int)))
 (cond (uv (eN a0) (al (t:= .str) a1 0) (eN a2))
 (k [.d .node (eN ((rX (eN a0) (al (t:= .str) a1 0) (eN a2)).1)),.d .bool ((rX (eN a0) (al (t:= .str) a1 0) (eN a2)).2)])
 none)
 none)
 (cond (decide ((0:Int)<(a1.length:Int)))
 (cond ((fun(x:ae)(_:BA)=>ag x) (eN a0) (al (t:= .str) a1 0))
 (cond (decide ((aw (eN a0) (al (t:= .str) a1 0))<(0:Int)))
 (cond (ag (eN a0))
 (k [.d .node (eN a0),.d .bool false])
 none)
 (cond (decide ((aw (eN a0) (al (t:= .str) a1 0))≥((ae.kids a0).length:Int)))
 (cond (ag (eN a0))
 (k [.d .node (eN a0),.d .bool false])
 none)
 (cond ((decide ((0:Int)≤(aw (eN a0) (al (t:= .str) a1 0))))&&(decide ((aw (eN a0) (al (t:= .str) a1 0))<((ae.kids a0).length:Int))))
 (cond ((decide ((1:Int)≤(a1.length:Int)))&&(decide ((a1.length:Int)≤(a1.length:Int))))
 (cond ((gP (eN (al (t:= .node) (ae.kids a0) (Int.toNat (aw (eN a0) (al (t:= .str) a1 0))))) ((a1.take (Int.toNat (a1.length:Int))).drop 1) (eN a2))&&(Nat.blt ((fun(_:ae)(p:List BA)(_:ae)=>p.length) (eN (al (t:= .node) (ae.kids a0) (Int.toNat (aw (eN a0) (al (t:= .str) a1 0))))) ((a1.take (Int.toNat (a1.length:Int))).drop 1) (eN a2)) N))
 (cond (ag (eN a0))
 (cond ((aW (eN (al (t:= .node) (ae.kids a0) (Int.toNat (aw (eN a0) (al (t:= .str) a1 0))))) ((a1.take (Int.toNat (a1.length:Int))).drop 1) (eN a2)).2)
 (cond ((decide ((0:Int)≤(aw (eN a0) (al (t:= .str) a1 0))))&&(decide ((aw (eN a0) (al (t:= .str) a1 0))<((ae.kids a0).length:Int))))
 (k [.d .node (⟨(ae.kind a0),(ae.n a0),(ae.s a0),(ae.keys a0),(X0 a0 a1 a2)⟩:ae),.d .bool ((aW (eN (al (t:= .node) (ae.kids a0) (Int.toNat (aw (eN a0) (al (t:= .str) a1 0))))) ((a1.take (Int.toNat (a1.length:Int))).drop 1) (eN a2)).2)])
 none)
 (k [.d .node (eN a0),.d .bool ((aW (eN (al (t:= .node) (ae.kids a0) (Int.toNat (aw (eN a0) (al (t:= .str) a1 0))))) ((a1.take (Int.toNat (a1.length:Int))).drop 1) (eN a2)).2)]))
 none)
 none)
 none)
 none)))
 none)
 none))):=by kernel_rfl
theorem Pz(N:Nat)(a0:ae)(a1:List BA)(a2:ae)(hg:gP a0 a1 a2=true)(hm:aaB [.d .node a0,.d (.sl .str) a1,.d .node a2]=N):∃keep rounds,∀{R:Type}(k:Kt R),aG (aaD N) keep rounds aaC [.ro,.ro,.ro] [false,false] true [.cell 6 27,.tmp 7] [27,4] [.d .node a0,.d (.sl .str) a1,.d .node a2] k=k [.d .node ((aW a0 a1 a2).1),.d .bool ((aW a0 a1 a2).2)]:=by
 have hm:a1.length=N:=hm
 subst hm
 simp only[gP,Bool.and_eq_true] at hg
 obtain⟨hg,uc,mV⟩:=hg
 have fP:=hg
 rw[bf] at hg
 simp only[Bool.and_eq_true] at hg
 obtain⟨_,_,_,lQ,lg⟩:=hg
 have p9:=aR lQ
 have ot:=aR lg
 refine⟨afm,0,fun {R} k=> ?_⟩
 rw[Vj]
 show _=k [.d .node (aW a0 a1 a2).1,.d .bool (aW a0 a1 a2).2]
 match a1,uc with
 | [],_=>
  simp only[az,aK,mV]
  rfl
 | [p],uc=>
  have l0:decide ((0:Int)<(([p]:List BA).length:Int))=true:=rfl
  have l5:al (t:= .str) [p] 0=p:=rfl
  have l7:((([p]:List BA).length:Int)==(0:Int))=false:=rfl
  have l8:((([p]:List BA).length:Int)==(1:Int))=true:=rfl
  have O6:uv a0 p a2=true:=by simp only[uv,Bool.and_eq_true];exact⟨fP,xd uc,mV⟩
  simp only[az,aK,l0,l5,l7,l8,O6,cond_true,cond_false]
  rfl
 |p::q::r,uc=>
  have l0:decide ((0:Int)<((p::q::r).length:Int))=true:=decide_eq_true (by simp only[List.length_cons];omega)
  have l1:(((p::q::r).length:Int)==(1:Int))=false:=by rw[beq_eq_false_iff_ne];simp only[List.length_cons];omega
  have l2:decide ((1:Int)≤((p::q::r).length:Int))=true:=decide_eq_true (by simp only[List.length_cons];omega)
  have l3:decide (((p::q::r).length:Int)≤((p::q::r).length:Int))=true:=decide_eq_true (Int.le_refl _)
  have l4:((p::q::r).take (Int.toNat ((p::q::r).length:Int))).drop 1=q::r:=by rw[Int.toNat_natCast,List.take_length];rfl
  have l5:al (t:= .str) (p::q::r) 0=p:=rfl
  have l6:Nat.blt (q::r).length (p::q::r).length=true:=by rw[Nat.blt_eq];simp only[List.length_cons];omega
  have l7:(((p::q::r).length:Int)==(0:Int))=false:=by rw[beq_eq_false_iff_ne];simp only[List.length_cons];omega
  have l8:decide (((p::q::r).length:Int)>(1:Int))=true:=decide_eq_true (by simp only[List.length_cons];omega)
  have hqr:dS bH (q::r)=true:=oW uc
  simp only[az,aK,fP,l0,l1,l5,l7,cond_true,cond_false]
  by_cases hk:aw a0 p<0
  ·rw[Jy a0 p q r a2 hk,decide_eq_true hk];rfl
  rw[mb a0 p q r a2 hk]
  obtain⟨i,e,h1⟩:=fM hk
  obtain⟨i1,i0,hw,it⟩:=idx h1 (by omega)
  have d1:decide ((i:Int)≥(a0.kids.length:Int))=false:=decide_eq_false (by omega)
  have hx:=dm (t:= .node) h1
  have hgk:gP (al (t:= .node) a0.kids i) (q::r) a2=true:=by
   simp only[gP,Bool.and_eq_true]
   exact⟨dG fP (List.mem_of_getElem? hx),hqr,mV⟩
  simp only[decide_eq_false hk,X0,az,aK,l2,l3,l4,l5,l6,hgk,e,i1,i0,it,d1,Bool.and_self,cond_true,cond_false]
  cases (aW (al (t:= .node) a0.kids i) (q::r) a2).2<;>rfl
noncomputable def s16:Gm.Spec:=Gm.Spec.of [.ro,.ro,.ro] [false,false] true q16
theorem Gr:Gm.Good Tryz.prog (16,s16):=by
 refine⟨⟨gJ aaB fun N hr=> ?_,_,Tryz.func16,by kernel_rfl,of_decide_eq_true (by kernel_rfl)⟩,Gm.Spec.ax _ _ _ _⟩
 have hl:∀x∈[(16,afl N),(27,x3),(40,s40),(41,Z4)],Gm.Good Tryz.prog x:=bt.2 ⟨⟨⟨hr,_,Tryz.func16,by kernel_rfl,of_decide_eq_true (by kernel_rfl)⟩,Gm.Spec.ax _ _ _ _⟩,bt.2 ⟨jZ,bt.2 ⟨aaA,bt.2 ⟨FZ,gw⟩⟩⟩⟩
 intro R
 refine aD (E:=aaD N) (aL.env hl) (bQ.cq hl) Tryz.func16 (by kernel_rfl:Tryz.f16.body=some aaC) [27,4] (by kernel_rfl) ?_
 intro ds outs h
 obtain⟨h,hm⟩:=dg h
 unfold q16 at h
 split at h
 ·simp only[Option.some.injEq,Prod.mk.injEq] at h;obtain⟨hg,h⟩:=h;cases h;exact Pz N _ _ _ hg hm
 ·cases h
noncomputable def aaF:Code:=(Tryz.f73.body).getD .skip
def afn:Nat→Kp:=fa [⟨[1,2,4],[],[],[]⟩,⟨[1,2,4,8],[],[],[]⟩,⟨[4,5],[],[],[]⟩,⟨[4,5],[],[],[]⟩]
noncomputable def afo:Env:=bQ.env [(23,pU),(86,s86),(92,s92)]
theorem Vk{R:Type}(n:Nat)(k:Kt R)(a0:ae)(a1:List BA):aG afo afn n aaF [.ro,.ro] [false,false] true [.cell 4 27,.tmp 5] [27,4] [.d .node a0,.d (.sl .str) a1] k=
 (cond ((a1.length:Int)==(0:Int))
 (cond (ag (eN a0))
 (k [.d .node (eN a0),.d .bool false])
 none)
 (cond (gW (eN a0) a1)
 (k [.d .node (eN ((cutAt (eN a0) a1).1)),.d .bool ((cutAt (eN a0) a1).2)])
 none)):=by kernel_rfl
theorem PA(a0:ae)(a1:List BA)(hg:(ag a0&&dS bH a1)=true):∃keep rounds,∀{R:Type}(k:Kt R),aG afo keep rounds aaF [.ro,.ro] [false,false] true [.cell 4 27,.tmp 5] [27,4] [.d .node a0,.d (.sl .str) a1] k=k [.d .node ((aC a0 a1).1),.d .bool ((aC a0 a1).2)]:=by
 simp only[Bool.and_eq_true] at hg
 obtain⟨hg,uc⟩:=hg
 refine⟨afn,0,fun {R} k=> ?_⟩
 rw[Vk]
 show _=k [.d .node (aC a0 a1).1,.d .bool (aC a0 a1).2]
 unfold aC
 cases a1 with
 |nil=>simp only[az,aK,hg];rfl
 |cons p r=>
  have hgw:gW a0 (p::r)=true:=by simp only[gW,Bool.and_eq_true];exact⟨hg,uc,rfl⟩
  have l7:(((p::r).length:Int)==(0:Int))=false:=by rw[beq_eq_false_iff_ne];simp only[List.length_cons];omega
  simp only[az,aK,hgw,l7,cond_true,cond_false]
noncomputable def q73:Qt
 | [.d .node a0,.d (.sl .str) a1]=>some (((fun(x:ae)(y:List BA)=>ag x&&dS bH y) a0 a1),[.d .node ((aC a0 a1).1),.d .bool ((aC a0 a1).2)])
 |_=>none
noncomputable def s73:Gm.Spec:=Gm.Spec.of [.ro,.ro] [false,false] true q73
theorem aaG:Gm.Good Tryz.prog (73,s73):=by
 have hl:∀x∈[(23,pU),(86,s86),(92,s92)],Gm.Good Tryz.prog x:=bt.2 ⟨ic,bt.2 ⟨Pk,bt.2 ⟨F8,gw⟩⟩⟩
 refine⟨⟨aD (aL.env hl) (bQ.cq hl) Tryz.func73 (by kernel_rfl:Tryz.f73.body=some aaF) [27,4] (by kernel_rfl) ?_,_,Tryz.func73,by kernel_rfl,of_decide_eq_true (by kernel_rfl)⟩,Gm.Spec.ax _ _ _ _⟩
 intro ds outs h
 unfold q73 at h
 split at h
 ·simp only[Option.some.injEq,Prod.mk.injEq] at h;obtain⟨hg,h⟩:=h;cases h;exact PA _ _ hg
 ·cases h
noncomputable def q55:Qt
 | [.d .node a0,.d (.sl .str) a1]=>some (((fun(x:ae)(y:List BA)=>ag x&&dS bH y) a0 a1),[.d .node ((aC a0 a1).1),.d .bool ((aC a0 a1).2)])
 |_=>none
noncomputable def aaH:List Dt→Nat
 | [.d .node a0,.d (.sl .str) a1]=>(fun(_:ae)(p:List BA)=>p.length) a0 a1
 |_=>0
noncomputable def afp(N:Nat):Gm.Spec:=Gm.Spec.of [.ro,.ro] [false,false] false (qA aaH N q55)
noncomputable def aaI:Code:=(Tryz.f55.body).getD .skip
def afq:Nat→Kp:=fa [⟨[1,2,4],[],[],[]⟩,⟨[1,2,4,6],[],[],[]⟩,⟨[1,2,4,6,14],[],[],[]⟩,⟨[4,5],[],[],[]⟩,⟨[1,2,4,6,7],[],[],[]⟩,⟨[1,2,4,6,7,29],[],[],[]⟩,⟨[4,5],[],[],[]⟩,⟨[1,2,4,6,7,33],[],[],[]⟩,⟨[4,6,7,8,9],[],[],[]⟩,⟨[4,6,7,8,9,45],[],[],[]⟩,⟨[4,6,9],[],[],[]⟩,⟨[4,5],[],[],[]⟩,⟨[1,2,4,6,7,55],[],[705],[]⟩,⟨[4,5],[],[],[]⟩,⟨[4,6],[],[],[]⟩,⟨[4,5],[],[],[]⟩]
noncomputable def aaJ(N:Nat):Env:=bQ.env [(27,x3),(41,Z4),(55,afp N),(68,s68)]
noncomputable def X1(a0:ae)(a1:List BA):List ae:=
 ((ae.kids a0).set (Int.toNat (aw (eN a0) (al (t:= .str) a1 0))) (eN ((aC (eN (al (t:= .node) (ae.kids a0) (Int.toNat (aw (eN a0) (al (t:= .str) a1 0))))) ((a1.take (Int.toNat (a1.length:Int))).drop 1)).1)))
theorem Vl{R:Type}(N:Nat)(n:Nat)(k:Kt R)(a0:ae)(a1:List BA):aG (aaJ N) afq n aaI [.ro,.ro] [false,false] false [.cell 4 27,.tmp 5] [27,4] [.d .node a0,.d (.sl .str) a1] k=
 (cond (ag (eN a0))
 (cond ((a1.length:Int)==(0:Int))
 (k [.d .node (eN a0),.d .bool false])
 (cond (decide ((0:Int)<(a1.length:Int)))
 (cond ((fun(x:ae)(_:BA)=>ag x) (eN a0) (al (t:= .str) a1 0))
 (cond (decide ((aw (eN a0) (al (t:= .str) a1 0))<(0:Int)))
 (k [.d .node (eN a0),.d .bool false])
 (cond (decide ((aw (eN a0) (al (t:= .str) a1 0))≥((ae.kids a0).length:Int)))
 (k [.d .node (eN a0),.d .bool false])
 (cond (decide ((a1.length:Int)>(1:Int)))
 (cond ((decide ((0:Int)≤(aw (eN a0) (al (t:= .str) a1 0))))&&(decide ((aw (eN a0) (al (t:= .str) a1 0))<((ae.kids a0).length:Int))))
 (cond ((decide ((1:Int)≤(a1.length:Int)))&&(decide ((a1.length:Int)≤(a1.length:Int))))
 (cond (((fun(x:ae)(y:List BA)=>ag x&&dS bH y) (eN (al (t:= .node) (ae.kids a0) (Int.toNat (aw (eN a0) (al (t:= .str) a1 0))))) ((a1.take (Int.toNat (a1.length:Int))).drop 1))&&(Nat.blt ((fun(_:ae)(p:List BA)=>p.length) (eN (al (t:= .node) (ae.kids a0) (Int.toNat (aw (eN a0) (al (t:= .str) a1 0))))) ((a1.take (Int.toNat (a1.length:Int))).drop 1)) N))
 (cond ((aC (eN (al (t:= .node) (ae.kids a0) (Int.toNat (aw (eN a0) (al (t:= .str) a1 0))))) ((a1.take (Int.toNat (a1.length:Int))).drop 1)).2)
 (cond ((decide ((0:Int)≤(aw (eN a0) (al (t:= .str) a1 0))))&&(decide ((aw (eN a0) (al (t:= .str) a1 0))<((ae.kids a0).length:Int))))
 (k [.d .node (⟨(ae.kind a0),(ae.n a0),(ae.s a0),(ae.keys a0),(X1 a0 a1)⟩:ae),.d .bool ((aC (eN (al (t:= .node) (ae.kids a0) (Int.toNat (aw (eN a0) (al (t:= .str) a1 0))))) ((a1.take (Int.toNat (a1.length:Int))).drop 1)).2)])
 none)
 (k [.d .node (eN a0),.d .bool ((aC (eN (al (t:= .node) (ae.kids a0) (Int.toNat (aw (eN a0) (al (t:= .str) a1 0))))) ((a1.take (Int.toNat (a1.length:Int))).drop 1)).2)]))
 none)
 none)
 none)
 (cond ((ae.kind a0)==(5:Int))
 (cond (decide ((0:Int)<(a1.length:Int)))
 (cond ((fun(x:ae)(_:BA)=>ag x) (eN a0) (al (t:= .str) a1 0))
 (k [.d .node (eN (fL (eN a0) (al (t:= .str) a1 0))),.d .bool true])
 none)
 none)
 (cond ((decide ((0:Int)≤(aw (eN a0) (al (t:= .str) a1 0))))&&(decide ((aw (eN a0) (al (t:= .str) a1 0))≤((ae.kids a0).length:Int))))
 (cond (Nat.ble (0+(((ae.kids a0).take (Int.toNat (aw (eN a0) (al (t:= .str) a1 0)))).drop 0).length) bT)
 (cond ((decide ((0:Int)≤(IntKind.wrap .i64 ((aw (eN a0) (al (t:= .str) a1 0))+(1:Int)))))&&((decide ((IntKind.wrap .i64 ((aw (eN a0) (al (t:= .str) a1 0))+(1:Int)))≤((ae.kids a0).length:Int)))&&(decide (((ae.kids a0).length:Int)≤((ae.kids a0).length:Int)))))
 (cond (Nat.ble ((([]:List ae)++(((ae.kids a0).take (Int.toNat (aw (eN a0) (al (t:= .str) a1 0)))).drop 0)).length+(((ae.kids a0).take (Int.toNat ((ae.kids a0).length:Int))).drop (Int.toNat (IntKind.wrap .i64 ((aw (eN a0) (al (t:= .str) a1 0))+(1:Int))))).length) bT)
 (k [.d .node (⟨(ae.kind a0),(ae.n a0),(ae.s a0),(ae.keys a0),((([]:List ae)++(((ae.kids a0).take (Int.toNat (aw (eN a0) (al (t:= .str) a1 0)))).drop 0))++(((ae.kids a0).take (Int.toNat ((ae.kids a0).length:Int))).drop (Int.toNat (IntKind.wrap .i64 ((aw (eN a0) (al (t:= .str) a1 0))+(1:Int))))))⟩:ae),.d .bool true])
 none)
 none)
 none)
 none)))))
 none)
 none))
 none):=by kernel_rfl
theorem PB(N:Nat)(a0:ae)(a1:List BA)(hg:(ag a0&&dS bH a1)=true)(hm:aaH [.d .node a0,.d (.sl .str) a1]=N):∃keep rounds,∀{R:Type}(k:Kt R),aG (aaJ N) keep rounds aaI [.ro,.ro] [false,false] false [.cell 4 27,.tmp 5] [27,4] [.d .node a0,.d (.sl .str) a1] k=k [.d .node ((aC a0 a1).1),.d .bool ((aC a0 a1).2)]:=by
 have hm:a1.length=N:=hm
 subst hm
 simp only[Bool.and_eq_true] at hg
 obtain⟨hg,uc⟩:=hg
 have fP:=hg
 rw[bf] at hg
 simp only[Bool.and_eq_true] at hg
 obtain⟨_,_,_,lQ,lg⟩:=hg
 have p9:=aR lQ
 have ot:=aR lg
 refine⟨afq,0,fun {R} k=> ?_⟩
 rw[Vl]
 show _=k [.d .node (aC a0 a1).1,.d .bool (aC a0 a1).2]
 match a1,uc with
 | [],_=>
  simp only[az,aK,fP]
  rfl
 | [p],_=>
  have l0:decide ((0:Int)<(([p]:List BA).length:Int))=true:=rfl
  have l5:al (t:= .str) [p] 0=p:=rfl
  have l7:((([p]:List BA).length:Int)==(0:Int))=false:=rfl
  have l8:decide ((([p]:List BA).length:Int)>(1:Int))=false:=rfl
  simp only[az,aK,fP,l0,l5,l7,l8,cond_true,cond_false]
  by_cases hk:aw a0 p<0
  ·rw[tk a0 p [] hk,decide_eq_true hk];rfl
  rw[lI a0 p hk]
  obtain⟨i,e,h1⟩:=fM hk
  obtain⟨i1,i0,hw,it⟩:=idx h1 (by omega)
  have d1:decide ((i:Int)≥(a0.kids.length:Int))=false:=decide_eq_false (by omega)
  have d2:decide ((i:Int)≤(a0.kids.length:Int))=true:=decide_eq_true (by omega)
  have d3:decide ((0:Int)≤((i+1:Nat):Int))=true:=decide_eq_true (by omega)
  have d5:decide (((i+1:Nat):Int)≤(a0.kids.length:Int))=true:=decide_eq_true (by omega)
  have d7:decide ((a0.kids.length:Int)≤(a0.kids.length:Int))=true:=decide_eq_true (Int.le_refl _)
  rw[decide_eq_false hk]
  cases h5:a0.kind==(5:Int)
  ·simp only[e,hw,i0,d1,d2,d3,d5,d7,Int.toNat_natCast,List.drop_zero,List.take_length,List.nil_append,Bg ot,MA ot,Bool.and_self,cond_true,cond_false]
   rfl
  ·simp only[e,d1,cond_true,cond_false]
 |p::q::r,uc=>
  have l0:decide ((0:Int)<((p::q::r).length:Int))=true:=decide_eq_true (by simp only[List.length_cons];omega)
  have l1:(((p::q::r).length:Int)==(1:Int))=false:=by rw[beq_eq_false_iff_ne];simp only[List.length_cons];omega
  have l2:decide ((1:Int)≤((p::q::r).length:Int))=true:=decide_eq_true (by simp only[List.length_cons];omega)
  have l3:decide (((p::q::r).length:Int)≤((p::q::r).length:Int))=true:=decide_eq_true (Int.le_refl _)
  have l4:((p::q::r).take (Int.toNat ((p::q::r).length:Int))).drop 1=q::r:=by rw[Int.toNat_natCast,List.take_length];rfl
  have l5:al (t:= .str) (p::q::r) 0=p:=rfl
  have l6:Nat.blt (q::r).length (p::q::r).length=true:=by rw[Nat.blt_eq];simp only[List.length_cons];omega
  have l7:(((p::q::r).length:Int)==(0:Int))=false:=by rw[beq_eq_false_iff_ne];simp only[List.length_cons];omega
  have l8:decide (((p::q::r).length:Int)>(1:Int))=true:=decide_eq_true (by simp only[List.length_cons];omega)
  have hqr:dS bH (q::r)=true:=oW uc
  simp only[az,aK,fP,l0,l5,l7,l8,cond_true,cond_false]
  by_cases hk:aw a0 p<0
  ·rw[tk a0 p _ hk,decide_eq_true hk];rfl
  rw[kj a0 p q r hk]
  obtain⟨i,e,h1⟩:=fM hk
  obtain⟨i1,i0,hw,it⟩:=idx h1 (by omega)
  have d1:decide ((i:Int)≥(a0.kids.length:Int))=false:=decide_eq_false (by omega)
  have hx:=dm (t:= .node) h1
  have hs:=dG fP (List.mem_of_getElem? hx)
  simp only[decide_eq_false hk,X1,az,aK,l2,l3,l4,l5,l6,hs,hqr,e,i1,i0,it,d1,Bool.and_self,cond_true,cond_false]
  cases (aC (al (t:= .node) a0.kids i) (q::r)).2<;>rfl
noncomputable def s55:Gm.Spec:=Gm.Spec.of [.ro,.ro] [false,false] false q55
theorem aaK:Gm.Good Tryz.prog (55,s55):=by
 refine⟨⟨gJ aaH fun N hr=> ?_,_,Tryz.func55,by kernel_rfl,of_decide_eq_true (by kernel_rfl)⟩,Gm.Spec.ax _ _ _ _⟩
 have hl:∀x∈[(27,x3),(41,Z4),(55,afp N),(68,s68)],Gm.Good Tryz.prog x:=bt.2 ⟨jZ,bt.2 ⟨FZ,bt.2 ⟨⟨⟨hr,_,Tryz.func55,by kernel_rfl,of_decide_eq_true (by kernel_rfl)⟩,Gm.Spec.ax _ _ _ _⟩,bt.2 ⟨aaf,gw⟩⟩⟩⟩
 intro R
 refine aD (E:=aaJ N) (aL.env hl) (bQ.cq hl) Tryz.func55 (by kernel_rfl:Tryz.f55.body=some aaI) [27,4] (by kernel_rfl) ?_
 intro ds outs h
 obtain⟨h,hm⟩:=dg h
 unfold q55 at h
 split at h
 ·simp only[Option.some.injEq,Prod.mk.injEq] at h;obtain⟨hg,h⟩:=h;cases h;exact PB N _ _ hg hm
 ·cases h
noncomputable def aaL:Code:=(Tryz.f65.body).getD .skip
def afr:Nat→Kp:=fa [⟨[0],[],[],[]⟩,⟨[3],[],[],[]⟩,⟨[2],[],[],[]⟩,⟨[2],[],[],[]⟩]
noncomputable def afs:Env:=bQ.env []
theorem Vm{R:Type}(n:Nat)(k:Kt R)(a0:Bool):aG afs afr n aaL [.ro] [false] true [.tmp 2] [3] [.d .bool a0] k=
 (cond a0
 (k [.d (.i .i64) (1:Int)])
 (k [.d (.i .i64) (0:Int)])):=by kernel_rfl
theorem PC(a0:Bool):∃keep rounds,∀{R:Type}(k:Kt R),aG afs keep rounds aaL [.ro] [false] true [.tmp 2] [3] [.d .bool a0] k=k [.d (.i .i64) (Mr a0)]:=by
 refine⟨afr,0,fun k=> ?_⟩
 rw[Vm];unfold Mr;cases a0<;>rfl
noncomputable def q65:Qt
 | [.d .bool a0]=>some (true,[.d (.i .i64) (Mr a0)])
 |_=>none
noncomputable def s65:Gm.Spec:=Gm.Spec.of [.ro] [false] true q65
theorem aaM:Gm.Good Tryz.prog (65,s65):=by
 have hl:∀x∈([]:List (Nat×Gm.Spec)),Gm.Good Tryz.prog x:=fun _ h=>by cases h
 refine⟨⟨aD (aL.env hl) (bQ.cq hl) Tryz.func65 (by kernel_rfl:Tryz.f65.body=some aaL) [3] (by kernel_rfl) ?_,_,Tryz.func65,by kernel_rfl,of_decide_eq_true (by kernel_rfl)⟩,Gm.Spec.ax _ _ _ _⟩
 intro ds outs h
 unfold q65 at h
 split at h
 ·cases h;exact PC _
 ·cases h
noncomputable def PD:Code:=(Tryz.f43.body).getD .skip
def Vn:Nat→Kp:=fa [⟨[0],[],[],[]⟩,⟨[0,2],[],[],[]⟩]
noncomputable def Vo:Env:=bQ.env [(39,Ut)]
theorem Vp{R:Type}(n:Nat)(k:Kt R)(a0:aj):aG Vo Vn n PD [.bG] [false] true [.tmp 2] [9] [.d .cur a0] k=
 (cond (eQ a0 ([(bs [97]),(bs [98]),(bs [110,97,109,101]),(bs [109,97,120]),(bs [120,32,121]),ByteArray.empty,(bs [97,58,98]),(bs [45])]:List BA))
 (k [.d .str ((bI a0 ([(bs [97]),(bs [98]),(bs [110,97,109,101]),(bs [109,97,120]),(bs [120,32,121]),ByteArray.empty,(bs [97,58,98]),(bs [45])]:List BA)).1),.d .cur ((bI a0 ([(bs [97]),(bs [98]),(bs [110,97,109,101]),(bs [109,97,120]),(bs [120,32,121]),ByteArray.empty,(bs [97,58,98]),(bs [45])]:List BA)).2)])
 none):=by kernel_rfl
def X2(a0:aj)(o:BA×aj):Prop:=(fun _ o=>o.1.size≤4∧aA o.2=true) a0 o∧∃n:Nat,∀{R:Type}(k:Kt R),aG Vo Vn n PD [.bG] [false] true [.tmp 2] [9] [.d .cur a0] k=k [.d .str o.1,.d .cur o.2]
theorem aaN(a0:aj)(hg:aA a0=true):∃o:BA×aj,(fun _ o=>o.1.size≤4∧aA o.2=true) a0 o∧∃n:Nat,∀{R:Type}(k:Kt R),aG Vo Vn n PD [.bG] [false] true [.tmp 2] [9] [.d .cur a0] k=k [.d .str o.1,.d .cur o.2]:=by
 have hp:=dX (l:=([(bs [97]),(bs [98]),(bs [110,97,109,101]),(bs [109,97,120]),(bs [120,32,121]),ByteArray.empty,(bs [97,58,98]),(bs [45])]:List BA)) hg rfl
 obtain⟨hm,g1⟩:=jY a0 _ hp
 have hz:=iD (List.all_eq_true.1 (show (([(bs [97]),(bs [98]),(bs [110,97,109,101]),(bs [109,97,120]),(bs [120,32,121]),ByteArray.empty,(bs [97,58,98]),(bs [45])]:List BA).all fun x=>Nat.ble x.size 4)=true from rfl) _ hm)
 refine⟨(?ajg,?ajh),?FM,0,?FN⟩
 case FN=>
  intro R k
  rw[Vp]
  simp only[hp,cond_true,cond_false,Bool.not_true,Bool.not_false]
  exact rfl
 case FM=>exact⟨hz,g1⟩
theorem PE(a0:aj):Nonempty {o:BA×aj // aA a0=true→X2 a0 o}:=by
 by_cases hg:aA a0=true
 ·obtain⟨o,ho⟩:=aaN a0 hg
  exact⟨⟨o,fun _=>ho⟩⟩
 ·exact⟨⟨((zero .str),(zero .cur)),fun h=>absurd h hg⟩⟩
noncomputable def iI(a0:aj):BA×aj:=(Classical.choice (PE a0)).val
theorem PF(a0:aj)(hg:aA a0=true):X2 a0 (iI a0):=(Classical.choice (PE a0)).property hg
theorem Ia(a0:aj)(hg:aA a0=true):(fun _ o=>o.1.size≤4∧aA o.2=true) a0 (iI a0):=(PF a0 hg).1
theorem PG(a0:aj)(hg:aA a0=true):∃keep rounds,∀{R:Type}(k:Kt R),aG Vo keep rounds PD [.bG] [false] true [.tmp 2] [9] [.d .cur a0] k=k [.d .str ((iI a0).1),.d .cur ((iI a0).2)]:=by
 obtain⟨n,hn⟩:=(PF a0 hg).2
 exact⟨Vn,n,hn⟩
noncomputable def q43:Qt
 | [.d .cur a0]=>some ((aA a0),[.d .str ((iI a0).1),.d .cur ((iI a0).2)])
 |_=>none
noncomputable def s43:Gm.Spec:=Gm.Spec.of [.bG] [false] true q43
theorem Gt:Gm.Good Tryz.prog (43,s43):=by
 have hl:∀x∈[(39,Ut)],Gm.Good Tryz.prog x:=bt.2 ⟨BD,gw⟩
 refine⟨⟨aD (aL.env hl) (bQ.cq hl) Tryz.func43 (by kernel_rfl:Tryz.f43.body=some PD) [9] (by kernel_rfl) ?_,_,Tryz.func43,by kernel_rfl,of_decide_eq_true (by kernel_rfl)⟩,Gm.Spec.ax _ _ _ _⟩
 intro ds outs h
 unfold q43 at h
 split at h
 ·simp only[Option.some.injEq,Prod.mk.injEq] at h;obtain⟨hg,h⟩:=h;cases h;exact PG _ hg
 ·cases h
noncomputable def PH:Code:=(Tryz.f47.body).getD .skip
def Vq:Nat→Kp:=fa [⟨[0],[],[],[]⟩,⟨[0,2],[],[],[]⟩]
noncomputable def Vr:Env:=bQ.env [(39,Ut)]
theorem Vs{R:Type}(n:Nat)(k:Kt R)(a0:aj):aG Vr Vq n PH [.bG] [false] true [.tmp 2] [9] [.d .cur a0] k=
 (cond (eQ a0 ([ByteArray.empty,(bs [97]),(bs [119,101,98]),(bs [116,114,117,101]),(bs [49,50]),(bs [115,97,121,32,34,110,111,34]),(bs [98,97,99,107,92]),(bs [97,58,32,98]),(bs [45,32,120]),(bs [35]),(bs [53,109]),(bs [110,117,108,108]),(bs [32,120])]:List BA))
 (k [.d .str ((bI a0 ([ByteArray.empty,(bs [97]),(bs [119,101,98]),(bs [116,114,117,101]),(bs [49,50]),(bs [115,97,121,32,34,110,111,34]),(bs [98,97,99,107,92]),(bs [97,58,32,98]),(bs [45,32,120]),(bs [35]),(bs [53,109]),(bs [110,117,108,108]),(bs [32,120])]:List BA)).1),.d .cur ((bI a0 ([ByteArray.empty,(bs [97]),(bs [119,101,98]),(bs [116,114,117,101]),(bs [49,50]),(bs [115,97,121,32,34,110,111,34]),(bs [98,97,99,107,92]),(bs [97,58,32,98]),(bs [45,32,120]),(bs [35]),(bs [53,109]),(bs [110,117,108,108]),(bs [32,120])]:List BA)).2)])
 none):=by kernel_rfl
def X3(a0:aj)(o:BA×aj):Prop:=(fun _ o=>o.1.size≤8∧aA o.2=true) a0 o∧∃n:Nat,∀{R:Type}(k:Kt R),aG Vr Vq n PH [.bG] [false] true [.tmp 2] [9] [.d .cur a0] k=k [.d .str o.1,.d .cur o.2]
theorem aaO(a0:aj)(hg:aA a0=true):∃o:BA×aj,(fun _ o=>o.1.size≤8∧aA o.2=true) a0 o∧∃n:Nat,∀{R:Type}(k:Kt R),aG Vr Vq n PH [.bG] [false] true [.tmp 2] [9] [.d .cur a0] k=k [.d .str o.1,.d .cur o.2]:=by
 have hp:=dX (l:=([ByteArray.empty,(bs [97]),(bs [119,101,98]),(bs [116,114,117,101]),(bs [49,50]),(bs [115,97,121,32,34,110,111,34]),(bs [98,97,99,107,92]),(bs [97,58,32,98]),(bs [45,32,120]),(bs [35]),(bs [53,109]),(bs [110,117,108,108]),(bs [32,120])]:List BA)) hg rfl
 obtain⟨hm,g1⟩:=jY a0 _ hp
 have hz:=iD (List.all_eq_true.1 (show (([ByteArray.empty,(bs [97]),(bs [119,101,98]),(bs [116,114,117,101]),(bs [49,50]),(bs [115,97,121,32,34,110,111,34]),(bs [98,97,99,107,92]),(bs [97,58,32,98]),(bs [45,32,120]),(bs [35]),(bs [53,109]),(bs [110,117,108,108]),(bs [32,120])]:List BA).all fun x=>Nat.ble x.size 8)=true from rfl) _ hm)
 refine⟨(?ajg,?ajh),?FM,0,?FN⟩
 case FN=>
  intro R k
  rw[Vs]
  simp only[hp,cond_true,cond_false,Bool.not_true,Bool.not_false]
  exact rfl
 case FM=>exact⟨hz,g1⟩
theorem PI(a0:aj):Nonempty {o:BA×aj // aA a0=true→X3 a0 o}:=by
 by_cases hg:aA a0=true
 ·obtain⟨o,ho⟩:=aaO a0 hg
  exact⟨⟨o,fun _=>ho⟩⟩
 ·exact⟨⟨((zero .str),(zero .cur)),fun h=>absurd h hg⟩⟩
noncomputable def mh(a0:aj):BA×aj:=(Classical.choice (PI a0)).val
theorem PJ(a0:aj)(hg:aA a0=true):X3 a0 (mh a0):=(Classical.choice (PI a0)).property hg
theorem DU(a0:aj)(hg:aA a0=true):(fun _ o=>o.1.size≤8∧aA o.2=true) a0 (mh a0):=(PJ a0 hg).1
theorem PK(a0:aj)(hg:aA a0=true):∃keep rounds,∀{R:Type}(k:Kt R),aG Vr keep rounds PH [.bG] [false] true [.tmp 2] [9] [.d .cur a0] k=k [.d .str ((mh a0).1),.d .cur ((mh a0).2)]:=by
 obtain⟨n,hn⟩:=(PJ a0 hg).2
 exact⟨Vq,n,hn⟩
noncomputable def q47:Qt
 | [.d .cur a0]=>some ((aA a0),[.d .str ((mh a0).1),.d .cur ((mh a0).2)])
 |_=>none
noncomputable def s47:Gm.Spec:=Gm.Spec.of [.bG] [false] true q47
theorem PL:Gm.Good Tryz.prog (47,s47):=by
 have hl:∀x∈[(39,Ut)],Gm.Good Tryz.prog x:=bt.2 ⟨BD,gw⟩
 refine⟨⟨aD (aL.env hl) (bQ.cq hl) Tryz.func47 (by kernel_rfl:Tryz.f47.body=some PH) [9] (by kernel_rfl) ?_,_,Tryz.func47,by kernel_rfl,of_decide_eq_true (by kernel_rfl)⟩,Gm.Spec.ax _ _ _ _⟩
 intro ds outs h
 unfold q47 at h
 split at h
 ·simp only[Option.some.injEq,Prod.mk.injEq] at h;obtain⟨hg,h⟩:=h;cases h;exact PK _ hg
 ·cases h
noncomputable def aaP:Code:=(Tryz.f44.body).getD .skip
def aft:Nat→Kp:=fa [⟨[0,2],[],[],[]⟩,⟨[2],[],[],[]⟩]
noncomputable def afu:Env:=bQ.env [(65,s65)]
theorem Vt{R:Type}(n:Nat)(k:Kt R)(a0:Bool):aG afu aft n aaP [.ro] [false] true [.cell 2 27] [27] [.d .bool a0] k=
 (k [.d .node (⟨(1:Int),(Mr a0),ByteArray.empty,([]:List BA),([]:List ae)⟩:ae)]):=by kernel_rfl
theorem PN(a0:Bool):∃keep rounds,∀{R:Type}(k:Kt R),aG afu keep rounds aaP [.ro] [false] true [.cell 2 27] [27] [.d .bool a0] k=k [.d .node (xB a0)]:=by
 refine⟨aft,0,fun {R} k=> ?_⟩
 rw[Vt]
 rfl
noncomputable def q44:Qt
 | [.d .bool a0]=>some (true,[.d .node (xB a0)])
 |_=>none
noncomputable def s44:Gm.Spec:=Gm.Spec.of [.ro] [false] true q44
theorem PO:Gm.Good Tryz.prog (44,s44):=by
 have hl:∀x∈[(65,s65)],Gm.Good Tryz.prog x:=bt.2 ⟨aaM,gw⟩
 refine⟨⟨aD (aL.env hl) (bQ.cq hl) Tryz.func44 (by kernel_rfl:Tryz.f44.body=some aaP) [27] (by kernel_rfl) ?_,_,Tryz.func44,by kernel_rfl,of_decide_eq_true (by kernel_rfl)⟩,Gm.Spec.ax _ _ _ _⟩
 intro ds outs h
 unfold q44 at h
 split at h
 ·cases h;exact PN _
 ·cases h
noncomputable def aaQ:Code:=(Tryz.f45.body).getD .skip
def afv:Nat→Kp:=fa [⟨[0,2],[],[],[]⟩,⟨[2],[],[],[]⟩]
noncomputable def afw:Env:=bQ.env []
theorem Vu{R:Type}(n:Nat)(k:Kt R)(a0:Int):aG afw afv n aaQ [.ro] [false] true [.cell 2 27] [27] [.d (.i .i64) a0] k=
 (k [.d .node (⟨(2:Int),a0,ByteArray.empty,([]:List BA),([]:List ae)⟩:ae)]):=by kernel_rfl
theorem PQ(a0:Int):∃keep rounds,∀{R:Type}(k:Kt R),aG afw keep rounds aaQ [.ro] [false] true [.cell 2 27] [27] [.d (.i .i64) a0] k=k [.d .node (Fz a0)]:=by
 refine⟨afv,0,fun {R} k=> ?_⟩
 rw[Vu]
 rfl
noncomputable def q45:Qt
 | [.d (.i .i64) a0]=>some (true,[.d .node (Fz a0)])
 |_=>none
noncomputable def s45:Gm.Spec:=Gm.Spec.of [.ro] [false] true q45
theorem PR:Gm.Good Tryz.prog (45,s45):=by
 have hl:∀x∈([]:List (Nat×Gm.Spec)),Gm.Good Tryz.prog x:=fun _ h=>by cases h
 refine⟨⟨aD (aL.env hl) (bQ.cq hl) Tryz.func45 (by kernel_rfl:Tryz.f45.body=some aaQ) [27] (by kernel_rfl) ?_,_,Tryz.func45,by kernel_rfl,of_decide_eq_true (by kernel_rfl)⟩,Gm.Spec.ax _ _ _ _⟩
 intro ds outs h
 unfold q45 at h
 split at h
 ·cases h;exact PQ _
 ·cases h
noncomputable def aaR:Code:=(Tryz.f46.body).getD .skip
def afx:Nat→Kp:=fa [⟨[0,2],[],[],[]⟩,⟨[2],[],[],[]⟩]
noncomputable def afy:Env:=bQ.env []
theorem Vv{R:Type}(n:Nat)(k:Kt R)(a0:BA):aG afy afx n aaR [.ro] [false] true [.cell 2 27] [27] [.d .str a0] k=
 (k [.d .node (⟨(3:Int),(0:Int),a0,([]:List BA),([]:List ae)⟩:ae)]):=by kernel_rfl
theorem PS(a0:BA):∃keep rounds,∀{R:Type}(k:Kt R),aG afy keep rounds aaR [.ro] [false] true [.cell 2 27] [27] [.d .str a0] k=k [.d .node (xC a0)]:=by
 refine⟨afx,0,fun {R} k=> ?_⟩
 rw[Vv]
 rfl
noncomputable def q46:Qt
 | [.d .str a0]=>some (true,[.d .node (xC a0)])
 |_=>none
noncomputable def s46:Gm.Spec:=Gm.Spec.of [.ro] [false] true q46
theorem PT:Gm.Good Tryz.prog (46,s46):=by
 have hl:∀x∈([]:List (Nat×Gm.Spec)),Gm.Good Tryz.prog x:=fun _ h=>by cases h
 refine⟨⟨aD (aL.env hl) (bQ.cq hl) Tryz.func46 (by kernel_rfl:Tryz.f46.body=some aaR) [27] (by kernel_rfl) ?_,_,Tryz.func46,by kernel_rfl,of_decide_eq_true (by kernel_rfl)⟩,Gm.Spec.ax _ _ _ _⟩
 intro ds outs h
 unfold q46 at h
 split at h
 ·cases h;exact PS _
 ·cases h
def x8(N:Nat)(b:Bool)(c:aj)(d:Int):Bool:=b&&(aA c&&(d==(N:Int)))
noncomputable def Vw(F:aj→ae×aj)(N:Nat)(b:Bool):Qt
 | [.d .cur a0,.d (.i .i64) a1]=>some (x8 N b a0 a1,[.d .node (F a0).1,.d .cur (F a0).2])
 |_=>none
noncomputable def Kk(F:aj→ae×aj)(N:Nat)(b:Bool):Gm.Spec:=Gm.Spec.of [.bG,.ro] [false] true (Vw F N b)
noncomputable def Aj(y0:Int)(y1:Int)(y2:Int)(y3:Int)(y4:List Int)(y5:Int)(y6:Int)(iu:Int)(ix:Int)(kr:BA)(o9:List BA)(yR:List ae):St:=⟨[(0,.c (.one (.pt 0 0))),(1,.c (.one (.v (.int .i64 y0)))),(4,.c (.one (.pt 4 0))),(5,.c (.one (.v (.int .i64 y1)))),(6,.c (.one (.pt 6 0))),(7,.c (.one (.v (.int .i64 y2)))),(8,.c (.one (.v (.int .i64 y3))))],[(0,⟨.cur,[.rk (.i .u8) y4,.v (.int .i64 y5),.v (.int .i64 y6)]⟩),(4,⟨.node,[.v (.int .i64 (0:Int)),.v (.int .i64 (0:Int)),.v (.string ByteArray.empty),.nl,.nl]⟩),(6,⟨.node,[.v (.int .i64 iu),.v (.int .i64 ix),.v (.string kr),.h 387 0 0 [],.h 388 0 0 []]⟩)],[(387,.live ⟨.str,.deep,0,[],o9⟩),(388,.live ⟨.node,.deep,0,[],yR⟩)]⟩
noncomputable def PU(y0:Int)(y1:Int)(y2:Int)(y3:Int)(y4:Bool)(y5:List Int)(y6:Int)(y7:Int)(ix:Int)(kr:Int)(o9:BA)(yR:List BA)(Ki:List ae):St:=⟨[(0,.c (.one (.pt 0 0))),(1,.c (.one (.v (.int .i64 y0)))),(4,.c (.one (.pt 4 0))),(5,.c (.one (.v (.int .i64 y1)))),(6,.c (.one (.pt 6 0))),(7,.c (.one (.v (.int .i64 y2)))),(8,.c (.one (.v (.int .i64 y3)))),(42,.c (.one (.v (.bool y4))))],[(0,⟨.cur,[.rk (.i .u8) y5,.v (.int .i64 y6),.v (.int .i64 y7)]⟩),(4,⟨.node,[.v (.int .i64 (0:Int)),.v (.int .i64 (0:Int)),.v (.string ByteArray.empty),.nl,.nl]⟩),(6,⟨.node,[.v (.int .i64 ix),.v (.int .i64 kr),.v (.string o9),.h 387 0 0 [],.h 388 0 0 []]⟩)],[(387,.live ⟨.str,.deep,0,[],yR⟩),(388,.live ⟨.node,.deep,0,[],Ki⟩)]⟩
noncomputable def uO:Code:=(Tryz.f18.body).getD .skip
def uP:Nat→Kp:=fa [⟨[0,1,4],[],[],[]⟩,⟨[0,1,4,5],[],[],[]⟩,⟨[0,1,4,5,13],[],[],[]⟩,⟨[0,1,4,5],[],[],[]⟩,⟨[0,1,4,5,16],[],[],[]⟩,⟨[0,1,4,5,16,17],[],[],[]⟩,⟨[0,4],[],[],[]⟩,⟨[0,1,4,5,16,20],[],[],[]⟩,⟨[0,4],[],[],[]⟩,⟨[0,1,4,5,16,25],[],[],[]⟩,⟨[0,4],[],[],[]⟩,⟨[0,1,4,5,31],[],[],[]⟩,⟨[0,4],[],[],[]⟩,⟨[0,1,4,5,6],[],[],[]⟩,⟨[0,1,4,5,6,7],[],[],[]⟩,⟨[0,1,4,5,6,7,8],[⟨true,false,6,3,.str⟩,⟨true,false,6,4,.node⟩],[],[]⟩,⟨[0,1,4,5,6,7,8,42],[],[],[]⟩,⟨[0,1,4,5,6,7,8],[],[],[(3520,387),(3521,388)]⟩,⟨[0,1,4,5,6,7,8,9],[],[],[]⟩,⟨[0,1,4,5,6,7,8,9,50],[],[],[]⟩,⟨[0,1,4,5,6,7,8],[],[],[]⟩,⟨[0,1,4,5,6,7,8],[],[],[]⟩,⟨[0,4],[],[],[]⟩]
noncomputable def qP(F:aj→ae×aj)(N:Nat)(b:Bool):Env:=bQ.env [(15,SM),(18,Kk F N b),(32,Cb),(38,s38),(43,s43),(44,s44),(45,s45),(46,s46),(47,s47),(48,s48)]
noncomputable def pa{R:Type}(F:aj→ae×aj)(N:Nat)(b:Bool)(n:Nat)(x0:Int→Bool→(List Int)→Int→Int→Int→Int→BA→(List BA)→(List ae)→Option R)(wK:Int)(wL:Int)(wI:Int):Nat→Int→(List Int)→Int→Int→Int→Int→BA→(List BA)→(List ae)→Option R
  |0,_,_,_,_,_,_,_,_,_=>none
  |m+1,wJ,wA,wB,wC,wE,wF,wG,wH,wD=>
    (cond (decide (wJ<wI))
   (cond (x8 N b (⟨wA,wB,wC⟩:aj) (IntKind.wrap .i64 (wK-(1:Int))))
    (cond (wL==(5:Int))
     (cond (aA ((F (⟨wA,wB,wC⟩:aj)).2))
      (cond (uv (⟨wE,wF,wG,wH,wD⟩:ae) ((iI ((F (⟨wA,wB,wC⟩:aj)).2)).1) (eN ((F (⟨wA,wB,wC⟩:aj)).1)))
       (pa F N b n x0 wK wL wI m (IntKind.wrap .i64 (wJ+(1:Int))) (aj.b ((iI ((F (⟨wA,wB,wC⟩:aj)).2)).2)) (aj.i ((iI ((F (⟨wA,wB,wC⟩:aj)).2)).2)) (aj.h ((iI ((F (⟨wA,wB,wC⟩:aj)).2)).2)) (ae.kind (gK (⟨wE,wF,wG,wH,wD⟩:ae) ((iI ((F (⟨wA,wB,wC⟩:aj)).2)).1) (eN ((F (⟨wA,wB,wC⟩:aj)).1)))) (ae.n (gK (⟨wE,wF,wG,wH,wD⟩:ae) ((iI ((F (⟨wA,wB,wC⟩:aj)).2)).1) (eN ((F (⟨wA,wB,wC⟩:aj)).1)))) (ae.s (gK (⟨wE,wF,wG,wH,wD⟩:ae) ((iI ((F (⟨wA,wB,wC⟩:aj)).2)).1) (eN ((F (⟨wA,wB,wC⟩:aj)).1)))) (ae.keys (gK (⟨wE,wF,wG,wH,wD⟩:ae) ((iI ((F (⟨wA,wB,wC⟩:aj)).2)).1) (eN ((F (⟨wA,wB,wC⟩:aj)).1)))) (ae.kids (gK (⟨wE,wF,wG,wH,wD⟩:ae) ((iI ((F (⟨wA,wB,wC⟩:aj)).2)).1) (eN ((F (⟨wA,wB,wC⟩:aj)).1)))))
       none)
      none)
     (cond (Nat.ble (wD.length+1) bT)
      (pa F N b n x0 wK wL wI m (IntKind.wrap .i64 (wJ+(1:Int))) (aj.b ((F (⟨wA,wB,wC⟩:aj)).2)) (aj.i ((F (⟨wA,wB,wC⟩:aj)).2)) (aj.h ((F (⟨wA,wB,wC⟩:aj)).2)) wE wF wG wH (wD++([(eN ((F (⟨wA,wB,wC⟩:aj)).1))]:List ae)))
      none))
    none)
   (x0 wJ (decide (wJ<wI)) wA wB wC wE wF wG wH wD))
theorem Vy{R:Type}(F:aj→ae×aj)(N:Nat)(b:Bool)(n:Nat)(k':Kx R)(wK:Int)(wL:Int)(wI:Int)(wJ:Int)(wA:List Int)(wB:Int)(wC:Int)(wE:Int)(wF:Int)(wG:BA)(wH:List BA)(wD:List ae):ev (qP F N b) uP n (bC [1,1,1,1,1,1,0,1,0,0] uO) (Aj wK wL wI wJ wA wB wC wE wF wG wH wD) k'=
 (cond (decide (wJ<wI))
 (cond (x8 N b (⟨wA,wB,wC⟩:aj) (IntKind.wrap .i64 (wK-(1:Int))))
 (cond (wL==(5:Int))
 (cond (aA ((F (⟨wA,wB,wC⟩:aj)).2))
 (cond (uv (⟨wE,wF,wG,wH,wD⟩:ae) ((iI ((F (⟨wA,wB,wC⟩:aj)).2)).1) (eN ((F (⟨wA,wB,wC⟩:aj)).1)))
 (k' .normal (Aj wK wL wI (IntKind.wrap .i64 (wJ+(1:Int))) (aj.b ((iI ((F (⟨wA,wB,wC⟩:aj)).2)).2)) (aj.i ((iI ((F (⟨wA,wB,wC⟩:aj)).2)).2)) (aj.h ((iI ((F (⟨wA,wB,wC⟩:aj)).2)).2)) (ae.kind (gK (⟨wE,wF,wG,wH,wD⟩:ae) ((iI ((F (⟨wA,wB,wC⟩:aj)).2)).1) (eN ((F (⟨wA,wB,wC⟩:aj)).1)))) (ae.n (gK (⟨wE,wF,wG,wH,wD⟩:ae) ((iI ((F (⟨wA,wB,wC⟩:aj)).2)).1) (eN ((F (⟨wA,wB,wC⟩:aj)).1)))) (ae.s (gK (⟨wE,wF,wG,wH,wD⟩:ae) ((iI ((F (⟨wA,wB,wC⟩:aj)).2)).1) (eN ((F (⟨wA,wB,wC⟩:aj)).1)))) (ae.keys (gK (⟨wE,wF,wG,wH,wD⟩:ae) ((iI ((F (⟨wA,wB,wC⟩:aj)).2)).1) (eN ((F (⟨wA,wB,wC⟩:aj)).1)))) (ae.kids (gK (⟨wE,wF,wG,wH,wD⟩:ae) ((iI ((F (⟨wA,wB,wC⟩:aj)).2)).1) (eN ((F (⟨wA,wB,wC⟩:aj)).1))))))
 none)
 none)
 (cond (Nat.ble (wD.length+1) bT)
 (k' .normal (Aj wK wL wI (IntKind.wrap .i64 (wJ+(1:Int))) (aj.b ((F (⟨wA,wB,wC⟩:aj)).2)) (aj.i ((F (⟨wA,wB,wC⟩:aj)).2)) (aj.h ((F (⟨wA,wB,wC⟩:aj)).2)) wE wF wG wH (wD++([(eN ((F (⟨wA,wB,wC⟩:aj)).1))]:List ae))))
 none))
 none)
 (k' (.exit 1) (PU wK wL wI wJ (decide (wJ<wI)) wA wB wC wE wF wG wH wD))):=by kernel_rfl
theorem PV{R:Type}(F:aj→ae×aj)(N:Nat)(b:Bool)(n:Nat)(k':Kx R)(wK:Int)(wL:Int)(wI:Int):∀(m:Nat)(wJ:Int)(wA:List Int)(wB:Int)(wC:Int)(wE:Int)(wF:Int)(wG:BA)(wH:List BA)(wD:List ae),iter (fun st k=>ev (qP F N b) uP n (bC [1,1,1,1,1,1,0,1,0,0] uO) st k) m (Aj wK wL wI wJ wA wB wC wE wF wG wH wD) k'=pa F N b n (fun(wU:Int)(wV:Bool)(wM:List Int)(wN:Int)(wO:Int)(wP:Int)(wQ:Int)(wR:BA)(wS:List BA)(wT:List ae)=>k' (.exit 1) (PU wK wL wI wU wV wM wN wO wP wQ wR wS wT)) wK wL wI m wJ wA wB wC wE wF wG wH wD:=by
 intro m;induction m with
 |zero=>intros;rfl
 |succ m ih=>
  intro wJ wA wB wC wE wF wG wH wD
  simp only[iter]
  rw[Vy]
  simp only[ih,pa]
noncomputable def PW{R:Type}(F:aj→ae×aj)(N:Nat)(b:Bool)(n:Nat)(k':Kx R):Kx R:=(b8 1 (eP (qP F N b) uP n (bC [1,1,1,1,1,1,1] uO) k'))
theorem PX{R:Type}(F:aj→ae×aj)(N:Nat)(b:Bool)(n:Nat)(k:Kt R)(a0:aj)(a1:Int)(wK:Int)(wL:Int)(wI:Int)(wU:Int)(wV:Bool)(wM:List Int)(wN:Int)(wO:Int)(wP:Int)(wQ:Int)(wR:BA)(wS:List BA)(wT:List ae):PW F N b n (aI (qP F N b) [.bG,.ro] [false] true [.cell 4 27] [27] [.d .cur a0,.d (.i .i64) a1] k) (.exit 1) (PU wK wL wI wU wV wM wN wO wP wQ wR wS wT)=
 (k [.d .node (⟨wP,wQ,wR,wS,wT⟩:ae),.d .cur (⟨wM,wN,wO⟩:aj)]):=by kernel_rfl
theorem kX{R:Type}(F:aj→ae×aj)(N:Nat)(b:Bool)(n:Nat)(k:Kt R)(a0:aj)(a1:Int):aG (qP F N b) uP n uO [.bG,.ro] [false] true [.cell 4 27] [27] [.d .cur a0,.d (.i .i64) a1] k=
 (cond ((fun c _=>aA c) a0 (6:Int))
 (cond (a1==(0:Int))
 (cond ((fun c _=>aA c) ((af a0 (6:Int)).2) (4:Int))
 (cond (((af ((af a0 (6:Int)).2) (4:Int)).1)==(0:Int))
 (k [.d .node (⟨(0:Int),(0:Int),ByteArray.empty,([]:List BA),([]:List ae)⟩:ae),.d .cur ((af ((af a0 (6:Int)).2) (4:Int)).2)])
 (cond (((af ((af a0 (6:Int)).2) (4:Int)).1)==(1:Int))
 (cond ((fun c _=>aA c) ((af ((af a0 (6:Int)).2) (4:Int)).2) (2:Int))
 (k [.d .node (eN (xB ((bu ((af ((af a0 (6:Int)).2) (4:Int)).2) (2:Int)).1))),.d .cur ((bu ((af ((af a0 (6:Int)).2) (4:Int)).2) (2:Int)).2)])
 none)
 (cond (((af ((af a0 (6:Int)).2) (4:Int)).1)==(2:Int))
 (cond (er ((af ((af a0 (6:Int)).2) (4:Int)).2) ([(0:Int),(7:Int),(-3:Int),(1000:Int),(1000000000000:Int)]:List Int))
 (k [.d .node (eN (Fz ((bp ((af ((af a0 (6:Int)).2) (4:Int)).2) ([(0:Int),(7:Int),(-3:Int),(1000:Int),(1000000000000:Int)]:List Int)).1))),.d .cur ((bp ((af ((af a0 (6:Int)).2) (4:Int)).2) ([(0:Int),(7:Int),(-3:Int),(1000:Int),(1000000000000:Int)]:List Int)).2)])
 none)
 (cond (((af ((af a0 (6:Int)).2) (4:Int)).1)==(3:Int))
 (cond (aA ((af ((af a0 (6:Int)).2) (4:Int)).2))
 (k [.d .node (eN (xC ((mh ((af ((af a0 (6:Int)).2) (4:Int)).2)).1))),.d .cur ((mh ((af ((af a0 (6:Int)).2) (4:Int)).2)).2)])
 none)
 (cond ((fun c _=>aA c) ((af ((af a0 (6:Int)).2) (4:Int)).2) (4:Int))
 (pa F N b n (fun(wU:Int)(wV:Bool)(wM:List Int)(wN:Int)(wO:Int)(wP:Int)(wQ:Int)(wR:BA)(wS:List BA)(wT:List ae)=>
 (k [.d .node (⟨wP,wQ,wR,wS,wT⟩:ae),.d .cur (⟨wM,wN,wO⟩:aj)])) a1 ((af ((af a0 (6:Int)).2) (4:Int)).1) ((af ((af ((af a0 (6:Int)).2) (4:Int)).2) (4:Int)).1) n (0:Int) (aj.b ((af ((af ((af a0 (6:Int)).2) (4:Int)).2) (4:Int)).2)) (aj.i ((af ((af ((af a0 (6:Int)).2) (4:Int)).2) (4:Int)).2)) (aj.h ((af ((af ((af a0 (6:Int)).2) (4:Int)).2) (4:Int)).2)) ((af ((af a0 (6:Int)).2) (4:Int)).1) (0:Int) ByteArray.empty ([]:List BA) ([]:List ae))
 none)))))
 none)
 (cond (((af a0 (6:Int)).1)==(0:Int))
 (k [.d .node (⟨(0:Int),(0:Int),ByteArray.empty,([]:List BA),([]:List ae)⟩:ae),.d .cur ((af a0 (6:Int)).2)])
 (cond (((af a0 (6:Int)).1)==(1:Int))
 (cond ((fun c _=>aA c) ((af a0 (6:Int)).2) (2:Int))
 (k [.d .node (eN (xB ((bu ((af a0 (6:Int)).2) (2:Int)).1))),.d .cur ((bu ((af a0 (6:Int)).2) (2:Int)).2)])
 none)
 (cond (((af a0 (6:Int)).1)==(2:Int))
 (cond (er ((af a0 (6:Int)).2) ([(0:Int),(7:Int),(-3:Int),(1000:Int),(1000000000000:Int)]:List Int))
 (k [.d .node (eN (Fz ((bp ((af a0 (6:Int)).2) ([(0:Int),(7:Int),(-3:Int),(1000:Int),(1000000000000:Int)]:List Int)).1))),.d .cur ((bp ((af a0 (6:Int)).2) ([(0:Int),(7:Int),(-3:Int),(1000:Int),(1000000000000:Int)]:List Int)).2)])
 none)
 (cond (((af a0 (6:Int)).1)==(3:Int))
 (cond (aA ((af a0 (6:Int)).2))
 (k [.d .node (eN (xC ((mh ((af a0 (6:Int)).2)).1))),.d .cur ((mh ((af a0 (6:Int)).2)).2)])
 none)
 (cond ((fun c _=>aA c) ((af a0 (6:Int)).2) (4:Int))
 (pa F N b n (fun(wU:Int)(wV:Bool)(wM:List Int)(wN:Int)(wO:Int)(wP:Int)(wQ:Int)(wR:BA)(wS:List BA)(wT:List ae)=>
 (k [.d .node (⟨wP,wQ,wR,wS,wT⟩:ae),.d .cur (⟨wM,wN,wO⟩:aj)])) a1 ((af a0 (6:Int)).1) ((af ((af a0 (6:Int)).2) (4:Int)).1) n (0:Int) (aj.b ((af ((af a0 (6:Int)).2) (4:Int)).2)) (aj.i ((af ((af a0 (6:Int)).2) (4:Int)).2)) (aj.h ((af ((af a0 (6:Int)).2) (4:Int)).2)) ((af a0 (6:Int)).1) (0:Int) ByteArray.empty ([]:List BA) ([]:List ae))
 none))))))
 none):=by
  refine Eq.trans (b:=(cond ((fun c _=>aA c) a0 (6:Int))
  (cond (a1==(0:Int))
   (cond ((fun c _=>aA c) ((af a0 (6:Int)).2) (4:Int))
    (cond (((af ((af a0 (6:Int)).2) (4:Int)).1)==(0:Int))
     (k [.d .node (⟨(0:Int),(0:Int),ByteArray.empty,([]:List BA),([]:List ae)⟩:ae),.d .cur ((af ((af a0 (6:Int)).2) (4:Int)).2)])
     (cond (((af ((af a0 (6:Int)).2) (4:Int)).1)==(1:Int))
      (cond ((fun c _=>aA c) ((af ((af a0 (6:Int)).2) (4:Int)).2) (2:Int))
       (k [.d .node (eN (xB ((bu ((af ((af a0 (6:Int)).2) (4:Int)).2) (2:Int)).1))),.d .cur ((bu ((af ((af a0 (6:Int)).2) (4:Int)).2) (2:Int)).2)])
       none)
      (cond (((af ((af a0 (6:Int)).2) (4:Int)).1)==(2:Int))
       (cond (er ((af ((af a0 (6:Int)).2) (4:Int)).2) ([(0:Int),(7:Int),(-3:Int),(1000:Int),(1000000000000:Int)]:List Int))
        (k [.d .node (eN (Fz ((bp ((af ((af a0 (6:Int)).2) (4:Int)).2) ([(0:Int),(7:Int),(-3:Int),(1000:Int),(1000000000000:Int)]:List Int)).1))),.d .cur ((bp ((af ((af a0 (6:Int)).2) (4:Int)).2) ([(0:Int),(7:Int),(-3:Int),(1000:Int),(1000000000000:Int)]:List Int)).2)])
        none)
       (cond (((af ((af a0 (6:Int)).2) (4:Int)).1)==(3:Int))
        (cond (aA ((af ((af a0 (6:Int)).2) (4:Int)).2))
         (k [.d .node (eN (xC ((mh ((af ((af a0 (6:Int)).2) (4:Int)).2)).1))),.d .cur ((mh ((af ((af a0 (6:Int)).2) (4:Int)).2)).2)])
         none)
        (cond ((fun c _=>aA c) ((af ((af a0 (6:Int)).2) (4:Int)).2) (4:Int))
         (iter (fun st k=>ev (qP F N b) uP n (bC [1,1,1,1,1,1,0,1,0,0] uO) st k) n (Aj a1 ((af ((af a0 (6:Int)).2) (4:Int)).1) ((af ((af ((af a0 (6:Int)).2) (4:Int)).2) (4:Int)).1) (0:Int) (aj.b ((af ((af ((af a0 (6:Int)).2) (4:Int)).2) (4:Int)).2)) (aj.i ((af ((af ((af a0 (6:Int)).2) (4:Int)).2) (4:Int)).2)) (aj.h ((af ((af ((af a0 (6:Int)).2) (4:Int)).2) (4:Int)).2)) ((af ((af a0 (6:Int)).2) (4:Int)).1) (0:Int) ByteArray.empty ([]:List BA) ([]:List ae)) (PW F N b n (aI (qP F N b) [.bG,.ro] [false] true [.cell 4 27] [27] [.d .cur a0,.d (.i .i64) a1] k)))
         none)))))
    none)
   (cond (((af a0 (6:Int)).1)==(0:Int))
    (k [.d .node (⟨(0:Int),(0:Int),ByteArray.empty,([]:List BA),([]:List ae)⟩:ae),.d .cur ((af a0 (6:Int)).2)])
    (cond (((af a0 (6:Int)).1)==(1:Int))
     (cond ((fun c _=>aA c) ((af a0 (6:Int)).2) (2:Int))
      (k [.d .node (eN (xB ((bu ((af a0 (6:Int)).2) (2:Int)).1))),.d .cur ((bu ((af a0 (6:Int)).2) (2:Int)).2)])
      none)
     (cond (((af a0 (6:Int)).1)==(2:Int))
      (cond (er ((af a0 (6:Int)).2) ([(0:Int),(7:Int),(-3:Int),(1000:Int),(1000000000000:Int)]:List Int))
       (k [.d .node (eN (Fz ((bp ((af a0 (6:Int)).2) ([(0:Int),(7:Int),(-3:Int),(1000:Int),(1000000000000:Int)]:List Int)).1))),.d .cur ((bp ((af a0 (6:Int)).2) ([(0:Int),(7:Int),(-3:Int),(1000:Int),(1000000000000:Int)]:List Int)).2)])
       none)
      (cond (((af a0 (6:Int)).1)==(3:Int))
       (cond (aA ((af a0 (6:Int)).2))
        (k [.d .node (eN (xC ((mh ((af a0 (6:Int)).2)).1))),.d .cur ((mh ((af a0 (6:Int)).2)).2)])
        none)
       (cond ((fun c _=>aA c) ((af a0 (6:Int)).2) (4:Int))
        (iter (fun st k=>ev (qP F N b) uP n (bC [1,1,1,1,1,1,0,1,0,0] uO) st k) n (Aj a1 ((af a0 (6:Int)).1) ((af ((af a0 (6:Int)).2) (4:Int)).1) (0:Int) (aj.b ((af ((af a0 (6:Int)).2) (4:Int)).2)) (aj.i ((af ((af a0 (6:Int)).2) (4:Int)).2)) (aj.h ((af ((af a0 (6:Int)).2) (4:Int)).2)) ((af a0 (6:Int)).1) (0:Int) ByteArray.empty ([]:List BA) ([]:List ae)) (PW F N b n (aI (qP F N b) [.bG,.ro] [false] true [.cell 4 27] [27] [.d .cur a0,.d (.i .i64) a1] k)))
        none))))))
  none)) (by kernel_rfl) ?_
  simp only[PV,PX]
theorem Vz(F:aj→ae×aj)(N:Nat)(b:Bool)(a0:aj)(hg:aA a0=true):∃o:ae×aj,(GT 0 o.1∧aA o.2=true)∧∃n:Nat,∀{R:Type}(k:Kt R),aG (qP F N b) uP n uO [.bG,.ro] [false] true [.cell 4 27] [27] [.d .cur a0,.d (.i .i64) (0:Int)] k=k [.d .node o.1,.d .cur o.2]:=by
 obtain⟨_,_,g1⟩:=cu a0 6 hg
 obtain⟨x0,x1,g2⟩:=cu (af a0 6).2 4 g1
 have x1:=x1 (by omega)
 have hz:((0:Int)==(0:Int))=true:=rfl
 cases e0:((af (af a0 6).2 4).1==(0:Int))
 rotate_left
 ·skip
  refine⟨(?za0,?zb0),?zg0,0,?zr0⟩
  case zr0=>
   intro R k
   rw[kX]
   simp only[hg,g1,g2,hz,e0,cond_true,cond_false]
   exact rfl
  case zg0=>exact⟨pE _ rfl rfl (by decide),g2⟩
 cases e1:((af (af a0 6).2 4).1==(1:Int))
 rotate_left
 ·have h1:=nQ (af (af a0 6).2 4).2 2 g2
  refine⟨(?za1,?zb1),?zg1,0,?zr1⟩
  case zr1=>
   intro R k
   rw[kX]
   simp only[hg,g1,g2,hz,e0,e1,cond_true,cond_false]
   exact rfl
  case zg1=>exact⟨Du _ _,h1⟩
 cases e2:((af (af a0 6).2 4).1==(2:Int))
 rotate_left
 ·have hp:=fb (l:=([(0:Int),(7:Int),(-3:Int),(1000:Int),(1000000000000:Int)]:List Int)) g2 rfl
  obtain⟨hm,h1⟩:=mg (af (af a0 6).2 4).2 _ hp
  refine⟨(?za2,?zb2),?zg2,0,?zr2⟩
  case zr2=>
   intro R k
   rw[kX]
   simp only[hg,g1,g2,hz,e0,e1,e2,hp,cond_true,cond_false]
   exact rfl
  case zg2=>exact⟨HF _ (List.all_eq_true.1 (show (([(0:Int),(7:Int),(-3:Int),(1000:Int),(1000000000000:Int)]:List Int).all gj)=true from rfl) _ hm),h1⟩
 cases e3:((af (af a0 6).2 4).1==(3:Int))
 rotate_left
 ·obtain⟨hz,h1⟩:=DU (af (af a0 6).2 4).2 g2
  refine⟨(?za3,?zb3),?zg3,0,?zr3⟩
  case zr3=>
   intro R k
   rw[kX]
   simp only[hg,g1,g2,hz,e0,e1,e2,e3,cond_true,cond_false]
   exact rfl
  case zg3=>exact⟨Dv _ hz,h1⟩
 exfalso
 rw[beq_eq_false_iff_ne] at e0 e1 e2 e3
 omega
theorem VA(F:aj→ae×aj)(N:Nat)(hN:N+1≤6)(hF:∀c,aA c=true→GT N (F c).1∧aA (F c).2=true)(a0:aj)(hg:aA a0=true):∃o:ae×aj,(GT (N+1) o.1∧aA o.2=true)∧∃n:Nat,∀{R:Type}(k:Kt R),aG (qP F N true) uP n uO [.bG,.ro] [false] true [.cell 4 27] [27] [.d .cur a0,.d (.i .i64) ((N+1:Nat):Int)] k=k [.d .node o.1,.d .cur o.2]:=by
 obtain⟨x0,x1,g1⟩:=cu a0 6 hg
 have x1:=x1 (by omega)
 have hz:(((N+1:Nat):Int)==(0:Int))=false:=by rw[beq_eq_false_iff_ne];omega
 cases e0:((af a0 6).1==(0:Int))
 rotate_left
 ·skip
  refine⟨(?za4,?zb4),?zg4,0,?zr4⟩
  case zr4=>
   intro R k
   rw[kX]
   simp only[hg,g1,hz,e0,cond_true,cond_false]
   exact rfl
  case zg4=>exact⟨pE _ rfl rfl (by decide),g1⟩
 cases e1:((af a0 6).1==(1:Int))
 rotate_left
 ·have h1:=nQ (af a0 6).2 2 g1
  refine⟨(?za5,?zb5),?zg5,0,?zr5⟩
  case zr5=>
   intro R k
   rw[kX]
   simp only[hg,g1,hz,e0,e1,cond_true,cond_false]
   exact rfl
  case zg5=>exact⟨Du _ _,h1⟩
 cases e2:((af a0 6).1==(2:Int))
 rotate_left
 ·have hp:=fb (l:=([(0:Int),(7:Int),(-3:Int),(1000:Int),(1000000000000:Int)]:List Int)) g1 rfl
  obtain⟨hm,h1⟩:=mg (af a0 6).2 _ hp
  refine⟨(?za6,?zb6),?zg6,0,?zr6⟩
  case zr6=>
   intro R k
   rw[kX]
   simp only[hg,g1,hz,e0,e1,e2,hp,cond_true,cond_false]
   exact rfl
  case zg6=>exact⟨HF _ (List.all_eq_true.1 (show (([(0:Int),(7:Int),(-3:Int),(1000:Int),(1000000000000:Int)]:List Int).all gj)=true from rfl) _ hm),h1⟩
 cases e3:((af a0 6).1==(3:Int))
 rotate_left
 ·obtain⟨hz,h1⟩:=DU (af a0 6).2 g1
  refine⟨(?za7,?zb7),?zg7,0,?zr7⟩
  case zr7=>
   intro R k
   rw[kX]
   simp only[hg,g1,hz,e0,e1,e2,e3,cond_true,cond_false]
   exact rfl
  case zg7=>exact⟨Dv _ hz,h1⟩
 obtain⟨y0,y1,g2⟩:=cu (af a0 6).2 4 g1
 have y1:=y1 (by omega)
 have anR:4^N≤4^5:=Nat.pow_le_pow_right (by decide) (by omega)
 have hk:(af a0 6).1=4∨(af a0 6).1=5:=by
  rw[beq_eq_false_iff_ne] at e0 e1 e2 e3
  omega
 have hw1:IntKind.wrap .i64 (((N+1:Nat):Int)-(1:Int))=(N:Int):=by rw[cn (by omega) (by omega)];omega
 have key:∀(kind nn:Int),(kind=4∨kind=5)→nn<4→∀(d m:Nat)(i:Nat)(t:ae)(c:aj),nn≤i+d→(i:Int)≤4→(i=0∨(i:Int)≤nn)→d<m→(ag t=true∧Wf t∧t.kind=kind∧ak t≤i*(100*4^N+10))→aA c=true→
   ∃o:ae×aj,(GT (N+1) o.1∧aA o.2=true)∧∀{R:Type}(X:Int→Bool→(List Int)→Int→Int→Int→Int→BA→(List BA)→(List ae)→Option R)(Z:ae→aj→Option R),
    (∀ i b c1 c2 c3 k0 k1 k2 k3 k4,X i b c1 c2 c3 k0 k1 k2 k3 k4=Z ⟨k0,k1,k2,k3,k4⟩ ⟨c1,c2,c3⟩)→pa F N true 6 X ((N+1:Nat):Int) kind nn m (i:Int) c.b c.i c.h t.kind t.n t.s t.keys t.kids=Z o.1 o.2:=by
  intro kind nn hk hnn d
  have fin:∀(i:Nat)(t:ae),(i:Int)≤4→(i=0∨(i:Int)≤nn)→(ag t=true∧Wf t∧t.kind=kind∧ak t≤i*(100*4^N+10))→GT (N+1) t:=by
   intro i t hi4 k7 ⟨h1,h2,h3,h4⟩
   refine⟨h1,?_,h2⟩
   have:i*(100*4^N+10)≤3*(100*4^N+10):=Nat.mul_le_mul_right _ (by omega)
   have h5:1≤4^N:=Nat.one_le_pow _ _ (by decide)
   rw[Nat.pow_succ];omega
  induction d with
  |zero=>
   intro m i t c hi hi4 k7 hm hI hc
   obtain⟨m,rfl⟩:∃m',m=m'+1:=⟨m-1,by omega⟩
   refine⟨(t,c),⟨fin i t hi4 k7 hI,hc⟩,fun {R} X Z hX=> ?_⟩
   simp only[pa,decide_eq_false (show ¬((i:Int)<nn) by omega),cond_false,hX,az,aK,fy]
  |succ d ih=>
   intro m i t c hi hi4 k7 hm hI hc
   obtain⟨m,rfl⟩:∃m',m=m'+1:=⟨m-1,by omega⟩
   cases hd:decide ((i:Int)<nn)
   ·refine⟨(t,c),⟨fin i t hi4 k7 hI,hc⟩,fun {R} X Z hX=> ?_⟩
    simp only[pa,hd,cond_false,hX,az,aK,fy]
   have bU:=of_decide_eq_true hd
   have hw:IntKind.wrap .i64 ((i:Int)+1)=((i+1:Nat):Int):=by rw[cn (by omega) (by omega)];omega
   obtain⟨⟨q1,q2,q3⟩,q4⟩:=hF c hc
   obtain⟨h1,h2,h3,h4⟩:=hI
   have hgf:x8 N true c (N:Int)=true:=by simp[x8,hc]
   have G6:i*(100*4^N+10)≤3*(100*4^N+10):=Nat.mul_le_mul_right _ (by omega)
   have po:(i+1)*(100*4^N+10)=i*(100*4^N+10)+(100*4^N+10):=by rw[Nat.add_mul,Nat.one_mul]
   have K0:=(@jU t).2
   rcases hk with hk | hk
   ·have e5:(kind==(5:Int))=false:=by rw[hk];rfl
    have Jx:Nat.ble (t.kids.length+1) bT=true:=Nat.ble_eq_true_of_le (by have:(bT:Nat)=4294967296:=rfl;omega)
    obtain⟨s1,s2⟩:=T6 h1 q1 (by omega)
    obtain⟨o1,ho1,hh1⟩:=ih m (i+1) ⟨t.kind,t.n,t.s,t.keys,t.kids++[(F c).1]⟩ (F c).2 (by omega) (by omega) (by omega) (by omega) ⟨s1,T5 h2 q3 (h3.trans hk),h3,by omega⟩ q4
    exact⟨o1,ho1,fun {R} X Z hX=>by
     simp only[pa,hd,hw1,fy,az,aK,hgf,Jx,e5,hw,cond_true,cond_false]
     exact hh1 X Z hX⟩
   ·have e5:(kind==(5:Int))=true:=by rw[hk];rfl
    obtain⟨k1,k2⟩:=Ia _ q4
    have hks:bH (iI (F c).2).1=true:=nf (by omega)
    have O6:uv t (iI (F c).2).1 (F c).1=true:=by simp only[uv,h1,hks,q1,Bool.and_self]
    obtain⟨s1,s2⟩:=HD h1 hks q1 (by omega)
    obtain⟨w1,w2⟩:=T4 (s:=(iI (F c).2).1) h2 q3 (h3.trans hk)
    obtain⟨o1,ho1,hh1⟩:=ih m (i+1) (gK t (iI (F c).2).1 (F c).1) (iI (F c).2).2 (by omega) (by omega) (by omega) (by omega) ⟨s1,w1,w2.trans hk.symm,by omega⟩ k2
    exact⟨o1,ho1,fun {R} X Z hX=>by
     simp only[pa,hd,hw1,fy,az,aK,hgf,e5,q4,O6,hw,cond_true,cond_false]
     exact hh1 X Z hX⟩
 obtain⟨o,ho,hh⟩:=key (af a0 6).1 (af (af a0 6).2 4).1 hk y1 4 6 0 ⟨(af a0 6).1,0,ByteArray.empty,[],[]⟩ (af (af a0 6).2 4).2 (by omega) (by omega) (.inl rfl) (by omega)
  ⟨(pE 0 (lG (by omega) (by omega)) rfl (by decide)).1,Wf.va _ rfl rfl,rfl,by rw[aX];simp[fT]⟩ g2
 refine⟨o,ho,6,fun {R} k=> ?_⟩
 rw[kX]
 simp only[hg,g1,hz,e0,e1,e2,e3,cond_true,cond_false]
 exact hh _ (fun t c=>k [.d .node t,.d .cur c]) (fun _ _ _ _ _ _ _ _ _ _=>rfl)
theorem BR(c:aj):Nonempty {o:ae×aj // aA c=true→(GT 0 o.1∧aA o.2=true)∧∃n:Nat,∀{R:Type}(k:Kt R),aG (qP (fun c=>(cI,c)) 0 false) uP n uO [.bG,.ro] [false] true [.cell 4 27] [27] [.d .cur c,.d (.i .i64) (0:Int)] k=k [.d .node o.1,.d .cur o.2]}:=by
 by_cases hg:aA c=true
 ·obtain⟨o,ho⟩:=Vz (fun c=>(cI,c)) 0 false c hg
  exact⟨⟨o,fun _=>ho⟩⟩
 ·exact⟨⟨(cI,c),fun h=>absurd h hg⟩⟩
theorem BS(F:aj→ae×aj)(N:Nat)(hF:N≤6→∀c,aA c=true→GT N (F c).1∧aA (F c).2=true)(c:aj):Nonempty {o:ae×aj // N+1≤6→aA c=true→(GT (N+1) o.1∧aA o.2=true)∧∃n:Nat,∀{R:Type}(k:Kt R),aG (qP F N true) uP n uO [.bG,.ro] [false] true [.cell 4 27] [27] [.d .cur c,.d (.i .i64) ((N+1:Nat):Int)] k=k [.d .node o.1,.d .cur o.2]}:=by
 by_cases hN:N+1≤6
 ·by_cases hg:aA c=true
  ·obtain⟨o,ho⟩:=VA F N hN (hF (by omega)) c hg
   exact⟨⟨o,fun _ _=>ho⟩⟩
  ·exact⟨⟨(cI,c),fun _ h=>absurd h hg⟩⟩
 ·exact⟨⟨(cI,c),fun h=>absurd h hN⟩⟩
noncomputable def n3:(k:Nat)→{F:aj→ae×aj // k≤6→∀c,aA c=true→GT k (F c).1∧aA (F c).2=true}
 |0=>⟨fun c=>(Classical.choice (BR c)).val,fun _ c hc=>((Classical.choice (BR c)).property hc).1⟩
 |k+1=>⟨fun c=>(Classical.choice (BS (n3 k).1 k (n3 k).2 c)).val,fun hk c hc=>((Classical.choice (BS (n3 k).1 k (n3 k).2 c)).property hk hc).1⟩
noncomputable def dT(c:aj)(d:Int):ae×aj:=(n3 d.toNat).1 c
def Cc(c:aj)(d:Int):Bool:=aA c&&(decide (0≤d)&&decide (d≤6))
theorem Ak{c:aj}{d:Int}(h:Cc c d=true):GT d.toNat (dT c d).1∧aA (dT c d).2=true:=by
 simp only[Cc,Bool.and_eq_true,decide_eq_true_eq] at h
 exact (n3 d.toNat).2 (by omega) c h.1
theorem BT{c:aj}{d:Int}(h:aA c=true)(hd:(decide (0≤d)&&decide (d≤6))=true):Cc c d=true:=by
 unfold Cc;rw[h,hd];rfl
noncomputable def q18:Qt
 | [.d .cur a0,.d (.i .i64) a1]=>some (Cc a0 a1,[.d .node (dT a0 a1).1,.d .cur (dT a0 a1).2])
 |_=>none
noncomputable def VB:Gm.Spec:=Gm.Spec.of [.bG,.ro] [false] true q18
theorem PY(F:aj→ae×aj)(N:Nat):bW Tryz.prog 18 (Kk F N false):=by
 intro R ds k r hr
 obtain⟨outs,hq,_⟩:=Gm.Spec.rD hr
 unfold Vw at hq
 split at hq
 ·simp[x8] at hq
 ·cases hq
theorem Ib:∀k:Nat,k≤6→bW Tryz.prog 18 (Kk (n3 k).1 k true)
 |0,_=>by
  have hl:∀x∈[(15,SM),(18,Kk (fun c=>(cI,c)) 0 false),(32,Cb),(38,s38),(43,s43),(44,s44),(45,s45),(46,s46),(47,s47),(48,s48)],Gm.Good Tryz.prog x:=bt.2 ⟨xS,bt.2 ⟨⟨⟨PY _ _,_,Tryz.func18,by kernel_rfl,of_decide_eq_true (by kernel_rfl)⟩,Gm.Spec.ax _ _ _ _⟩,bt.2 ⟨nP,bt.2 ⟨FO,bt.2 ⟨Gt,bt.2 ⟨PO,bt.2 ⟨PR,bt.2 ⟨PT,bt.2 ⟨PL,bt.2 ⟨Gp,gw⟩⟩⟩⟩⟩⟩⟩⟩⟩⟩
  refine aD (E:=qP (fun c=>(cI,c)) 0 false) (aL.env hl) (bQ.cq hl) Tryz.func18 (by kernel_rfl:Tryz.f18.body=some uO) [27] (by kernel_rfl) ?_
  intro ds outs h
  unfold Vw at h
  split at h
  ·simp only[Option.some.injEq,Prod.mk.injEq,x8,Bool.and_eq_true,beq_iff_eq] at h
   obtain⟨⟨_,hg,rfl⟩,h⟩:=h
   cases h
   obtain⟨n,hn⟩:=((Classical.choice (BR _)).property hg).2
   exact⟨uP,n,hn⟩
  ·cases h
 |k+1,hk=>by
  have hr:bW Tryz.prog 18 (Kk (n3 k).1 k true):=fun {R}=>Ib k (by omega) (R:=R)
  have hl:∀x∈[(15,SM),(18,Kk (n3 k).1 k true),(32,Cb),(38,s38),(43,s43),(44,s44),(45,s45),(46,s46),(47,s47),(48,s48)],Gm.Good Tryz.prog x:=bt.2 ⟨xS,bt.2 ⟨⟨⟨hr,_,Tryz.func18,by kernel_rfl,of_decide_eq_true (by kernel_rfl)⟩,Gm.Spec.ax _ _ _ _⟩,bt.2 ⟨nP,bt.2 ⟨FO,bt.2 ⟨Gt,bt.2 ⟨PO,bt.2 ⟨PR,bt.2 ⟨PT,bt.2 ⟨PL,bt.2 ⟨Gp,gw⟩⟩⟩⟩⟩⟩⟩⟩⟩⟩
  refine aD (E:=qP (n3 k).1 k true) (aL.env hl) (bQ.cq hl) Tryz.func18 (by kernel_rfl:Tryz.f18.body=some uO) [27] (by kernel_rfl) ?_
  intro ds outs h
  unfold Vw at h
  split at h
  ·simp only[Option.some.injEq,Prod.mk.injEq,x8,Bool.and_eq_true,beq_iff_eq] at h
   obtain⟨⟨_,hg,rfl⟩,h⟩:=h
   cases h
   obtain⟨n,hn⟩:=((Classical.choice (BS (n3 k).1 k (n3 k).2 _)).property hk hg).2
   exact⟨uP,n,hn⟩
  ·cases h
theorem BU:Gm.Good Tryz.prog (18,VB):=by
 refine⟨⟨iN (q:=q18) ?_,_,Tryz.func18,by kernel_rfl,of_decide_eq_true (by kernel_rfl)⟩,Gm.Spec.ax _ _ _ _⟩
 intro ds outs h
 unfold q18 at h
 split at h
 ·rename_i a0 a1
  simp only[Option.some.injEq,Prod.mk.injEq,Cc,Bool.and_eq_true,decide_eq_true_eq] at h
  obtain⟨⟨hg,h0,h6⟩,h⟩:=h
  refine⟨_,Ib a1.toNat (by omega),?_⟩
  rw[← h]
  have:x8 a1.toNat true a0 a1=true:=by simp only[x8,hg,Bool.true_and,beq_iff_eq];omega
  show some (x8 a1.toNat true a0 a1,_)=_
  rw[this];rfl
 ·cases h
theorem x9{c:aj}(hg:aA c=true):Cc c 3=true:=BT hg rfl
theorem mF{c:aj}(hg:aA c=true):aA (dT c 3).2=true:=(Ak (x9 hg)).2
theorem gU{c:aj}{n:Int}(hc:aA c=true)(hn:decide (n>(0:Int))=true):(decide ((0:Int)≤(af c n).1)&&decide ((af c n).1<n))=true:=by
 obtain⟨h1,h2,_⟩:=cu c n hc
 rw[decide_eq_true h1,decide_eq_true (h2 (of_decide_eq_true hn))];rfl
theorem aaS{t:ae}{c:aj}(h:Ca t=true)(hc:aA c=true)(hn:decide ((t.kids.length:Int)>(0:Int))=true):Ca (al (t:= .node) t.kids (Int.toNat (af c (t.kids.length:Int)).1))=true:=by
 obtain⟨h1,h2,_⟩:=cu c (t.kids.length:Int) hc
 have h2:=h2 (of_decide_eq_true hn)
 obtain⟨h3,h4⟩:=iy.1 h
 have hm:al (t:= .node) t.kids (Int.toNat (af c (t.kids.length:Int)).1)∈t.kids:=rN (t:= .node) h1 h2
 exact iy.2 ⟨dG h3 hm,Nat.le_trans (Bd hm) h4⟩
theorem mj{c:aj}{l:List BA}(hg:aA c=true)(hn:(!l.isEmpty&&Nat.ble l.length 1048576)=true)(h:(l.all fun x=>Nat.ble x.size 50)=true):Nat.ble (bI c l).1.size 50=true:=
  List.all_eq_true.1 h _ (jY c l (dX hg hn)).1
theorem kY{c:aj}(hg:aA c=true):jW (dT c 3).1=true:=GT.jW (Ak (x9 hg)).1
theorem jy{t:ae}{c:aj}(h:jW t=true)(hc:aA c=true)(hn:decide ((t.kids.length:Int)>(0:Int))=true):jW (al (t:= .node) t.kids (Int.toNat (af c (t.kids.length:Int)).1))=true:=by
 obtain⟨h1,h2⟩:=ff.1 h
 obtain⟨b1,b2,_⟩:=cu c (t.kids.length:Int) hc
 have b2:=b2 (of_decide_eq_true hn)
 exact ff.2 ⟨aaS h1 hc hn,h2.kids _ (rN (t:= .node) b1 b2)⟩
noncomputable def Al(y0:List Int)(y1:Int)(y2:Int)(y3:Int)(y4:Int)(y5:BA)(y6:List BA)(y7:List ae):St:=⟨[(0,.c (.one (.pt 0 0))),(2,.c (.one (.pt 2 0)))],[(0,⟨.cur,[.rk (.i .u8) y0,.v (.int .i64 y1),.v (.int .i64 y2)]⟩),(2,⟨.node,[.v (.int .i64 y3),.v (.int .i64 y4),.v (.string y5),.h 448 0 0 [],.h 449 0 0 []]⟩)],[(448,.live ⟨.str,.deep,0,[],y6⟩),(449,.live ⟨.node,.deep,0,[],y7⟩)]⟩
noncomputable def ia(y0:List Int)(y1:Int)(y2:Int)(y6:Int)(y7:Int)(y8:BA)(y9:List BA)(iu:List ae):St:=⟨[(0,.c (.one (.pt 0 0))),(2,.c (.one (.pt 2 0))),(3,.c (.one (.pt 3 0)))],[(0,⟨.cur,[.rk (.i .u8) y0,.v (.int .i64 y1),.v (.int .i64 y2)]⟩),(2,⟨.node,[.v (.int .i64 (0:Int)),.v (.int .i64 (0:Int)),.v (.string ByteArray.empty),.nl,.nl]⟩),(3,⟨.node,[.v (.int .i64 y6),.v (.int .i64 y7),.v (.string y8),.h 448 0 0 [],.h 449 0 0 []]⟩)],[(448,.live ⟨.str,.deep,0,[],y9⟩),(449,.live ⟨.node,.deep,0,[],iu⟩)]⟩
noncomputable def PZ(y0:Nat)(y1:Nat)(y2:Nat)(y3:Bool)(y4:List Int)(y5:Int)(y6:Int)(iu:Int)(ix:Int)(kr:BA)(o9:List BA)(yR:List ae):St:=⟨[(0,.c (.one (.pt 0 0))),(2,.c (.one (.pt 2 0))),(3,.c (.one (.pt 3 0))),(4,.c (.one (.pe 449 0 0 [(y0,4),(y1,4)] y2 0))),(74,.c (.one (.v (.bool y3))))],[(0,⟨.cur,[.rk (.i .u8) y4,.v (.int .i64 y5),.v (.int .i64 y6)]⟩),(2,⟨.node,[.v (.int .i64 (0:Int)),.v (.int .i64 (0:Int)),.v (.string ByteArray.empty),.nl,.nl]⟩),(3,⟨.node,[.v (.int .i64 iu),.v (.int .i64 ix),.v (.string kr),.h 448 0 0 [],.h 449 0 0 []]⟩)],[(448,.live ⟨.str,.deep,0,[],o9⟩),(449,.live ⟨.node,.deep,0,[],yR⟩)]⟩
noncomputable def P0(y0:Nat)(y1:Nat)(y2:Nat)(y4:Bool)(y5:List Int)(y6:Int)(y7:Int)(ix:Int)(kr:Int)(o9:BA)(yR:List BA)(Ki:List ae):St:=⟨[(0,.c (.one (.pt 0 0))),(2,.c (.one (.pt 2 0))),(3,.c (.one (.pt 3 0))),(4,.c (.one (.pe 449 0 0 [(y0,4),(y1,4)] y2 0))),(5,.c (.one (.v (.int .i64 (3:Int))))),(22,.c (.one (.v (.bool y4))))],[(0,⟨.cur,[.rk (.i .u8) y5,.v (.int .i64 y6),.v (.int .i64 y7)]⟩),(2,⟨.node,[.v (.int .i64 (0:Int)),.v (.int .i64 (0:Int)),.v (.string ByteArray.empty),.nl,.nl]⟩),(3,⟨.node,[.v (.int .i64 ix),.v (.int .i64 kr),.v (.string o9),.h 448 0 0 [],.h 449 0 0 []]⟩)],[(448,.live ⟨.str,.deep,0,[],yR⟩),(449,.live ⟨.node,.deep,0,[],Ki⟩)]⟩
noncomputable def P1(y0:Nat)(y1:Nat)(y2:Bool)(y3:List Int)(y4:Int)(y5:Int)(y9:Int)(iu:Int)(ix:BA)(kr:List BA)(o9:List ae):St:=⟨[(0,.c (.one (.pt 0 0))),(2,.c (.one (.pt 2 0))),(3,.c (.one (.pt 3 0))),(4,.c (.one (.pe 449 0 0 [(y0,4)] y1 0))),(74,.c (.one (.v (.bool y2))))],[(0,⟨.cur,[.rk (.i .u8) y3,.v (.int .i64 y4),.v (.int .i64 y5)]⟩),(2,⟨.node,[.v (.int .i64 (0:Int)),.v (.int .i64 (0:Int)),.v (.string ByteArray.empty),.nl,.nl]⟩),(3,⟨.node,[.v (.int .i64 y9),.v (.int .i64 iu),.v (.string ix),.h 448 0 0 [],.h 449 0 0 []]⟩)],[(448,.live ⟨.str,.deep,0,[],kr⟩),(449,.live ⟨.node,.deep,0,[],o9⟩)]⟩
noncomputable def Ic(y0:Nat)(y1:Nat)(y3:Bool)(y4:List Int)(y5:Int)(y6:Int)(iu:Int)(ix:Int)(kr:BA)(o9:List BA)(yR:List ae):St:=⟨[(0,.c (.one (.pt 0 0))),(2,.c (.one (.pt 2 0))),(3,.c (.one (.pt 3 0))),(4,.c (.one (.pe 449 0 0 [(y0,4)] y1 0))),(5,.c (.one (.v (.int .i64 (2:Int))))),(22,.c (.one (.v (.bool y3))))],[(0,⟨.cur,[.rk (.i .u8) y4,.v (.int .i64 y5),.v (.int .i64 y6)]⟩),(2,⟨.node,[.v (.int .i64 (0:Int)),.v (.int .i64 (0:Int)),.v (.string ByteArray.empty),.nl,.nl]⟩),(3,⟨.node,[.v (.int .i64 iu),.v (.int .i64 ix),.v (.string kr),.h 448 0 0 [],.h 449 0 0 []]⟩)],[(448,.live ⟨.str,.deep,0,[],o9⟩),(449,.live ⟨.node,.deep,0,[],yR⟩)]⟩
noncomputable def P2(y0:Nat)(y1:Bool)(y2:List Int)(y3:Int)(y4:Int)(y8:Int)(y9:Int)(iu:BA)(ix:List BA)(kr:List ae):St:=⟨[(0,.c (.one (.pt 0 0))),(2,.c (.one (.pt 2 0))),(3,.c (.one (.pt 3 0))),(4,.c (.one (.pe 449 0 0 [] y0 0))),(74,.c (.one (.v (.bool y1))))],[(0,⟨.cur,[.rk (.i .u8) y2,.v (.int .i64 y3),.v (.int .i64 y4)]⟩),(2,⟨.node,[.v (.int .i64 (0:Int)),.v (.int .i64 (0:Int)),.v (.string ByteArray.empty),.nl,.nl]⟩),(3,⟨.node,[.v (.int .i64 y8),.v (.int .i64 y9),.v (.string iu),.h 448 0 0 [],.h 449 0 0 []]⟩)],[(448,.live ⟨.str,.deep,0,[],ix⟩),(449,.live ⟨.node,.deep,0,[],kr⟩)]⟩
noncomputable def Ie(y0:Nat)(y2:Bool)(y3:List Int)(y4:Int)(y5:Int)(y9:Int)(iu:Int)(ix:BA)(kr:List BA)(o9:List ae):St:=⟨[(0,.c (.one (.pt 0 0))),(2,.c (.one (.pt 2 0))),(3,.c (.one (.pt 3 0))),(4,.c (.one (.pe 449 0 0 [] y0 0))),(5,.c (.one (.v (.int .i64 (1:Int))))),(22,.c (.one (.v (.bool y2))))],[(0,⟨.cur,[.rk (.i .u8) y3,.v (.int .i64 y4),.v (.int .i64 y5)]⟩),(2,⟨.node,[.v (.int .i64 (0:Int)),.v (.int .i64 (0:Int)),.v (.string ByteArray.empty),.nl,.nl]⟩),(3,⟨.node,[.v (.int .i64 y9),.v (.int .i64 iu),.v (.string ix),.h 448 0 0 [],.h 449 0 0 []]⟩)],[(448,.live ⟨.str,.deep,0,[],kr⟩),(449,.live ⟨.node,.deep,0,[],o9⟩)]⟩
noncomputable def P3(y0:Bool)(y1:List Int)(y2:Int)(y3:Int)(y7:Int)(y8:Int)(y9:BA)(iu:List BA)(ix:List ae):St:=⟨[(0,.c (.one (.pt 0 0))),(2,.c (.one (.pt 2 0))),(3,.c (.one (.pt 3 0))),(4,.c (.one (.pt 3 0))),(74,.c (.one (.v (.bool y0))))],[(0,⟨.cur,[.rk (.i .u8) y1,.v (.int .i64 y2),.v (.int .i64 y3)]⟩),(2,⟨.node,[.v (.int .i64 (0:Int)),.v (.int .i64 (0:Int)),.v (.string ByteArray.empty),.nl,.nl]⟩),(3,⟨.node,[.v (.int .i64 y7),.v (.int .i64 y8),.v (.string y9),.h 448 0 0 [],.h 449 0 0 []]⟩)],[(448,.live ⟨.str,.deep,0,[],iu⟩),(449,.live ⟨.node,.deep,0,[],ix⟩)]⟩
noncomputable def Ig(y1:Bool)(y2:List Int)(y3:Int)(y4:Int)(y8:Int)(y9:Int)(iu:BA)(ix:List BA)(kr:List ae):St:=⟨[(0,.c (.one (.pt 0 0))),(2,.c (.one (.pt 2 0))),(3,.c (.one (.pt 3 0))),(4,.c (.one (.pt 3 0))),(5,.c (.one (.v (.int .i64 (0:Int))))),(22,.c (.one (.v (.bool y1))))],[(0,⟨.cur,[.rk (.i .u8) y2,.v (.int .i64 y3),.v (.int .i64 y4)]⟩),(2,⟨.node,[.v (.int .i64 (0:Int)),.v (.int .i64 (0:Int)),.v (.string ByteArray.empty),.nl,.nl]⟩),(3,⟨.node,[.v (.int .i64 y8),.v (.int .i64 y9),.v (.string iu),.h 448 0 0 [],.h 449 0 0 []]⟩)],[(448,.live ⟨.str,.deep,0,[],ix⟩),(449,.live ⟨.node,.deep,0,[],kr⟩)]⟩
noncomputable def aq(b:List Int)(i h:Int):Int×aj:=af ⟨b,i,h⟩ 14
def cN:List Int:=[1,2,1000000000001]
def cO:List BA:=[bs [120],bs [31],bs [127]]
noncomputable def dk:Code:=(Tryz.f14.body).getD .skip
def iY:Nat→Kp:=fa [⟨[0,2],[],[],[]⟩,⟨[0,2,3],[],[],[]⟩,⟨[0,2,3,4],[],[],[]⟩,⟨[0,2,3,4,5],[],[],[]⟩,⟨[0,2,3,4,5,22],[],[],[]⟩,⟨[0,2,3,4,5],[],[],[]⟩,⟨[0,2,3,4,5],[],[],[]⟩,⟨[0,2,3,4,38],[],[],[]⟩,⟨[0,2,3,4,38,39],[],[],[]⟩,⟨[0,2,3],[],[],[]⟩,⟨[0,2,3,4,38,47],[],[],[]⟩,⟨[0,2,3],[],[],[]⟩,⟨[0,2,3,4,38,55],[],[],[]⟩,⟨[0,2,3],[],[],[]⟩,⟨[0,2,3,4,38,63],[],[],[]⟩,⟨[0,2,3],[],[],[]⟩,⟨[0,2,3,4,74],[],[],[]⟩,⟨[0,2,3],[],[],[]⟩,⟨[0,2],[],[],[]⟩]
noncomputable def eg:Env:=bQ.env [(15,SM),(18,VB),(32,Cb),(38,s38),(39,Ut)]
noncomputable def qc(wD:List ae)(wF:Nat)(wL:Nat)(wE:Nat)(wA:List Int)(wB:Int)(wC:Int):List ae:=
 (wD.set wF (wK (al (t:= .node) wD wF) ((ae.kids (al (t:= .node) wD wF)).set wL (wK (al (t:= .node) (ae.kids (al (t:= .node) wD wF)) wL) ((ae.kids (al (t:= .node) (ae.kids (al (t:= .node) wD wF)) wL)).set wE (oZ (al (t:= .node) (ae.kids (al (t:= .node) (ae.kids (al (t:= .node) wD wF)) wL)) wE) (IntKind.wrap .i64 (((af ((aq wA wB wC).2) (8:Int)).1)-(1:Int)))))))))
noncomputable def qd(wD:List ae)(wF:Nat)(wL:Nat)(wE:Nat)(wA:List Int)(wB:Int)(wC:Int):List ae:=
 (wD.set wF (wK (al (t:= .node) wD wF) ((ae.kids (al (t:= .node) wD wF)).set wL (wK (al (t:= .node) (ae.kids (al (t:= .node) wD wF)) wL) ((ae.kids (al (t:= .node) (ae.kids (al (t:= .node) wD wF)) wL)).set wE (wN (al (t:= .node) (ae.kids (al (t:= .node) (ae.kids (al (t:= .node) wD wF)) wL)) wE) ((bp ((aq wA wB wC).2) cN).1)))))))
noncomputable def qe(wD:List ae)(wF:Nat)(wL:Nat)(wE:Nat)(wA:List Int)(wB:Int)(wC:Int):List ae:=
 (wD.set wF (wK (al (t:= .node) wD wF) ((ae.kids (al (t:= .node) wD wF)).set wL (wK (al (t:= .node) (ae.kids (al (t:= .node) wD wF)) wL) ((ae.kids (al (t:= .node) (ae.kids (al (t:= .node) wD wF)) wL)).set wE (wS (al (t:= .node) (ae.kids (al (t:= .node) (ae.kids (al (t:= .node) wD wF)) wL)) wE) ((bI ((aq wA wB wC).2) cO).1)))))))
noncomputable def qf(wD:List ae)(wF:Nat)(wL:Nat)(wE:Nat):List ae:=
 (wD.set wF (wK (al (t:= .node) wD wF) ((ae.kids (al (t:= .node) wD wF)).set wL (wK (al (t:= .node) (ae.kids (al (t:= .node) wD wF)) wL) ((ae.kids (al (t:= .node) (ae.kids (al (t:= .node) wD wF)) wL)).set wE (o0 (al (t:= .node) (ae.kids (al (t:= .node) (ae.kids (al (t:= .node) wD wF)) wL)) wE) ((ae.keys (al (t:= .node) (ae.kids (al (t:= .node) (ae.kids (al (t:= .node) wD wF)) wL)) wE))++([(bs [97])]:List BA))))))))
noncomputable def sC(wD:List ae)(wF:Nat)(wL:Nat)(wE:Nat):List ae:=
 (((ae.kids (al (t:= .node) (ae.kids (al (t:= .node) (ae.kids (al (t:= .node) wD wF)) wL)) wE))++([(⟨(0:Int),(0:Int),ByteArray.empty,([]:List BA),([]:List ae)⟩:ae)]:List ae)).set (Int.toNat ((ae.kids (al (t:= .node) (ae.kids (al (t:= .node) (ae.kids (al (t:= .node) wD wF)) wL)) wE)).length:Int)) (⟨(0:Int),(0:Int),ByteArray.empty,([]:List BA),([]:List ae)⟩:ae))
noncomputable def qg(wD:List ae)(wF:Nat)(wL:Nat)(wE:Nat):List ae:=
 (wD.set wF (wK (al (t:= .node) wD wF) ((ae.kids (al (t:= .node) wD wF)).set wL (wK (al (t:= .node) (ae.kids (al (t:= .node) wD wF)) wL) ((ae.kids (al (t:= .node) (ae.kids (al (t:= .node) wD wF)) wL)).set wE (wK (al (t:= .node) (ae.kids (al (t:= .node) (ae.kids (al (t:= .node) wD wF)) wL)) wE) (sC wD wF wL wE)))))))
noncomputable def qh{R:Type}(n:Nat)(k:Kt R)(a0:aj)(wA:List Int)(wB:Int)(wC:Int)(wP:Int)(wQ:Int)(wR:BA)(wG:List BA)(wD:List ae):Option R:=
 (k [.d .node (⟨wP,wQ,wR,wG,wD⟩:ae),.d .cur (⟨wA,wB,wC⟩:aj)])
theorem pb{R:Type}(n:Nat)(k:Kt R)(a0:aj)(wA:List Int)(wB:Int)(wC:Int)(wP:Int)(wQ:Int)(wR:BA)(wG:List BA)(wD:List ae):ev eg iY n (bC [1,1,1,1,1,1] dk) (Al wA wB wC wP wQ wR wG wD) (aI eg [.bG] [false] true [.cell 2 27] [27] [.d .cur a0] k)=qh n k a0 wA wB wC wP wQ wR wG wD:=by
 kernel_rfl
theorem VC{R:Type}(n:Nat)(k':Kx R)(wA:List Int)(wB:Int)(wC:Int)(wH:Int)(wI:Int)(wJ:BA)(wG:List BA)(wD:List ae):ev eg iY n (bC [1,1,1,1,1,0] dk) (ia wA wB wC wH wI wJ wG wD) k'=
 (k' .normal (Al wA wB wC wH wI wJ wG wD)):=by kernel_rfl
noncomputable def fl{R:Type}(n:Nat)(k:Kt R)(a0:aj)(wA:List Int)(wB:Int)(wC:Int)(wH:Int)(wI:Int)(wJ:BA)(wG:List BA)(wD:List ae):Option R:=
 (qh n k a0 wA wB wC wH wI wJ wG wD)
theorem sD{R:Type}(n:Nat)(k:Kt R)(a0:aj)(wA:List Int)(wB:Int)(wC:Int)(wH:Int)(wI:Int)(wJ:BA)(wG:List BA)(wD:List ae):ev eg iY n (bC [1,1,1,1,1] dk) (ia wA wB wC wH wI wJ wG wD) (aI eg [.bG] [false] true [.cell 2 27] [27] [.d .cur a0] k)=fl n k a0 wA wB wC wH wI wJ wG wD:=by
 rw[show (bC [1,1,1,1,1] dk) = .seq (bC [1,1,1,1,1,0] dk) (bC [1,1,1,1,1,1] dk) from by kernel_rfl,nK,VC]
 simp only[nL,nM,pb,fl]
theorem VD{R:Type}(n:Nat)(k':Kx R)(wF:Nat)(wL:Nat)(wE:Nat)(wO:Bool)(wA:List Int)(wB:Int)(wC:Int)(wH:Int)(wI:Int)(wJ:BA)(wG:List BA)(wD:List ae):ev eg iY n (bC [1,1,1,1,1,0] dk) (PZ wF wL wE wO wA wB wC wH wI wJ wG wD) k'=
 (k' .normal (Al wA wB wC wH wI wJ wG wD)):=by kernel_rfl
noncomputable def ya{R:Type}(n:Nat)(k:Kt R)(a0:aj)(wF:Nat)(wL:Nat)(wE:Nat)(wO:Bool)(wA:List Int)(wB:Int)(wC:Int)(wH:Int)(wI:Int)(wJ:BA)(wG:List BA)(wD:List ae):Option R:=
 (qh n k a0 wA wB wC wH wI wJ wG wD)
theorem P4{R:Type}(n:Nat)(k:Kt R)(a0:aj)(wF:Nat)(wL:Nat)(wE:Nat)(wO:Bool)(wA:List Int)(wB:Int)(wC:Int)(wH:Int)(wI:Int)(wJ:BA)(wG:List BA)(wD:List ae):ev eg iY n (bC [1,1,1,1,1] dk) (PZ wF wL wE wO wA wB wC wH wI wJ wG wD) (aI eg [.bG] [false] true [.cell 2 27] [27] [.d .cur a0] k)=ya n k a0 wF wL wE wO wA wB wC wH wI wJ wG wD:=by
 rw[show (bC [1,1,1,1,1] dk) = .seq (bC [1,1,1,1,1,0] dk) (bC [1,1,1,1,1,1] dk) from by kernel_rfl,nK,VD]
 simp only[nL,nM,pb,ya]
theorem VE{R:Type}(n:Nat)(k':Kx R)(wF:Nat)(wL:Nat)(wE:Nat)(wM:Bool)(wA:List Int)(wB:Int)(wC:Int)(wH:Int)(wI:Int)(wJ:BA)(wG:List BA)(wD:List ae):ev eg iY n (bC [1,1,1,1,0] dk) (P0 wF wL wE wM wA wB wC wH wI wJ wG wD) k'=
 (cond ((fun c _=>aA c) (⟨wA,wB,wC⟩:aj) (14:Int))
 (cond (((aq wA wB wC).1)==(0:Int))
 (cond ((fun c _=>aA c) ((aq wA wB wC).2) (8:Int))
 (k' .normal (ia (aj.b ((af ((aq wA wB wC).2) (8:Int)).2)) (aj.i ((af ((aq wA wB wC).2) (8:Int)).2)) (aj.h ((af ((aq wA wB wC).2) (8:Int)).2)) wH wI wJ wG (qc wD wF wL wE wA wB wC)))
 none)
 (cond (((aq wA wB wC).1)==(1:Int))
 (cond (er ((aq wA wB wC).2) cN)
 (k' .normal (ia (aj.b ((bp ((aq wA wB wC).2) cN).2)) (aj.i ((bp ((aq wA wB wC).2) cN).2)) (aj.h ((bp ((aq wA wB wC).2) cN).2)) wH wI wJ wG (qd wD wF wL wE wA wB wC)))
 none)
 (cond (((aq wA wB wC).1)==(2:Int))
 (cond (eQ ((aq wA wB wC).2) cO)
 (k' .normal (ia (aj.b ((bI ((aq wA wB wC).2) cO).2)) (aj.i ((bI ((aq wA wB wC).2) cO).2)) (aj.h ((bI ((aq wA wB wC).2) cO).2)) wH wI wJ wG (qe wD wF wL wE wA wB wC)))
 none)
 (cond (((aq wA wB wC).1)==(3:Int))
 (cond (Nat.ble ((ae.keys (al (t:= .node) (ae.kids (al (t:= .node) (ae.kids (al (t:= .node) wD wF)) wL)) wE)).length+1) bT)
 (cond (za [(wF,4),(wL,4),(wE,3)] [(wF,4),(wL,4),(wE,3)])
 (k' .normal (ia (aj.b ((aq wA wB wC).2)) (aj.i ((aq wA wB wC).2)) (aj.h ((aq wA wB wC).2)) wH wI wJ wG (qf wD wF wL wE)))
 none)
 none)
 (cond (((aq wA wB wC).1)==(4:Int))
 (cond (Nat.ble ((ae.kids (al (t:= .node) (ae.kids (al (t:= .node) (ae.kids (al (t:= .node) wD wF)) wL)) wE)).length+1) bT)
 (cond ((decide ((0:Int)≤((ae.kids (al (t:= .node) (ae.kids (al (t:= .node) (ae.kids (al (t:= .node) wD wF)) wL)) wE)).length:Int)))&&(decide (((ae.kids (al (t:= .node) (ae.kids (al (t:= .node) (ae.kids (al (t:= .node) wD wF)) wL)) wE)).length:Int)<(((ae.kids (al (t:= .node) (ae.kids (al (t:= .node) (ae.kids (al (t:= .node) wD wF)) wL)) wE))++([(⟨(0:Int),(0:Int),ByteArray.empty,([]:List BA),([]:List ae)⟩:ae)]:List ae)).length:Int))))
 (cond (za [(wF,4),(wL,4),(wE,4)] [(wF,4),(wL,4),(wE,4)])
 (k' .normal (ia (aj.b ((aq wA wB wC).2)) (aj.i ((aq wA wB wC).2)) (aj.h ((aq wA wB wC).2)) wH wI wJ wG (qg wD wF wL wE)))
 none)
 none)
 none)
 (k' .normal (PZ wF wL wE (((aq wA wB wC).1)==(4:Int)) (aj.b ((aq wA wB wC).2)) (aj.i ((aq wA wB wC).2)) (aj.h ((aq wA wB wC).2)) wH wI wJ wG wD)))))))
 none):=by kernel_rfl
noncomputable def uf{R:Type}(n:Nat)(k:Kt R)(a0:aj)(wF:Nat)(wL:Nat)(wE:Nat)(wM:Bool)(wA:List Int)(wB:Int)(wC:Int)(wH:Int)(wI:Int)(wJ:BA)(wG:List BA)(wD:List ae):Option R:=
 (cond ((fun c _=>aA c) (⟨wA,wB,wC⟩:aj) (14:Int))
 (cond (((aq wA wB wC).1)==(0:Int))
 (cond ((fun c _=>aA c) ((aq wA wB wC).2) (8:Int))
 (fl n k a0 (aj.b ((af ((aq wA wB wC).2) (8:Int)).2)) (aj.i ((af ((aq wA wB wC).2) (8:Int)).2)) (aj.h ((af ((aq wA wB wC).2) (8:Int)).2)) wH wI wJ wG (qc wD wF wL wE wA wB wC))
 none)
 (cond (((aq wA wB wC).1)==(1:Int))
 (cond (er ((aq wA wB wC).2) cN)
 (fl n k a0 (aj.b ((bp ((aq wA wB wC).2) cN).2)) (aj.i ((bp ((aq wA wB wC).2) cN).2)) (aj.h ((bp ((aq wA wB wC).2) cN).2)) wH wI wJ wG (qd wD wF wL wE wA wB wC))
 none)
 (cond (((aq wA wB wC).1)==(2:Int))
 (cond (eQ ((aq wA wB wC).2) cO)
 (fl n k a0 (aj.b ((bI ((aq wA wB wC).2) cO).2)) (aj.i ((bI ((aq wA wB wC).2) cO).2)) (aj.h ((bI ((aq wA wB wC).2) cO).2)) wH wI wJ wG (qe wD wF wL wE wA wB wC))
 none)
 (cond (((aq wA wB wC).1)==(3:Int))
 (cond (Nat.ble ((ae.keys (al (t:= .node) (ae.kids (al (t:= .node) (ae.kids (al (t:= .node) wD wF)) wL)) wE)).length+1) bT)
 (cond (za [(wF,4),(wL,4),(wE,3)] [(wF,4),(wL,4),(wE,3)])
 (fl n k a0 (aj.b ((aq wA wB wC).2)) (aj.i ((aq wA wB wC).2)) (aj.h ((aq wA wB wC).2)) wH wI wJ wG (qf wD wF wL wE))
 none)
 none)
 (cond (((aq wA wB wC).1)==(4:Int))
 (cond (Nat.ble ((ae.kids (al (t:= .node) (ae.kids (al (t:= .node) (ae.kids (al (t:= .node) wD wF)) wL)) wE)).length+1) bT)
 (cond ((decide ((0:Int)≤((ae.kids (al (t:= .node) (ae.kids (al (t:= .node) (ae.kids (al (t:= .node) wD wF)) wL)) wE)).length:Int)))&&(decide (((ae.kids (al (t:= .node) (ae.kids (al (t:= .node) (ae.kids (al (t:= .node) wD wF)) wL)) wE)).length:Int)<(((ae.kids (al (t:= .node) (ae.kids (al (t:= .node) (ae.kids (al (t:= .node) wD wF)) wL)) wE))++([(⟨(0:Int),(0:Int),ByteArray.empty,([]:List BA),([]:List ae)⟩:ae)]:List ae)).length:Int))))
 (cond (za [(wF,4),(wL,4),(wE,4)] [(wF,4),(wL,4),(wE,4)])
 (fl n k a0 (aj.b ((aq wA wB wC).2)) (aj.i ((aq wA wB wC).2)) (aj.h ((aq wA wB wC).2)) wH wI wJ wG (qg wD wF wL wE))
 none)
 none)
 none)
 (ya n k a0 wF wL wE (((aq wA wB wC).1)==(4:Int)) (aj.b ((aq wA wB wC).2)) (aj.i ((aq wA wB wC).2)) (aj.h ((aq wA wB wC).2)) wH wI wJ wG wD))))))
 none)
theorem P5{R:Type}(n:Nat)(k:Kt R)(a0:aj)(wF:Nat)(wL:Nat)(wE:Nat)(wM:Bool)(wA:List Int)(wB:Int)(wC:Int)(wH:Int)(wI:Int)(wJ:BA)(wG:List BA)(wD:List ae):ev eg iY n (bC [1,1,1,1] dk) (P0 wF wL wE wM wA wB wC wH wI wJ wG wD) (aI eg [.bG] [false] true [.cell 2 27] [27] [.d .cur a0] k)=uf n k a0 wF wL wE wM wA wB wC wH wI wJ wG wD:=by
 rw[show (bC [1,1,1,1] dk) = .seq (bC [1,1,1,1,0] dk) (bC [1,1,1,1,1] dk) from by kernel_rfl,nK,VE]
 simp only[nL,nM,sD,P4,uf]
noncomputable def qi(wD:List ae)(wF:Nat)(wE:Nat)(wA:List Int)(wB:Int)(wC:Int):List ae:=
 (wD.set wF (wK (al (t:= .node) wD wF) ((ae.kids (al (t:= .node) wD wF)).set wE (oZ (al (t:= .node) (ae.kids (al (t:= .node) wD wF)) wE) (IntKind.wrap .i64 (((af ((aq wA wB wC).2) (8:Int)).1)-(1:Int)))))))
noncomputable def qj(wD:List ae)(wF:Nat)(wE:Nat)(wA:List Int)(wB:Int)(wC:Int):List ae:=
 (wD.set wF (wK (al (t:= .node) wD wF) ((ae.kids (al (t:= .node) wD wF)).set wE (wN (al (t:= .node) (ae.kids (al (t:= .node) wD wF)) wE) ((bp ((aq wA wB wC).2) cN).1)))))
noncomputable def qk(wD:List ae)(wF:Nat)(wE:Nat)(wA:List Int)(wB:Int)(wC:Int):List ae:=
 (wD.set wF (wK (al (t:= .node) wD wF) ((ae.kids (al (t:= .node) wD wF)).set wE (wS (al (t:= .node) (ae.kids (al (t:= .node) wD wF)) wE) ((bI ((aq wA wB wC).2) cO).1)))))
noncomputable def ql(wD:List ae)(wF:Nat)(wE:Nat):List ae:=
 (wD.set wF (wK (al (t:= .node) wD wF) ((ae.kids (al (t:= .node) wD wF)).set wE (o0 (al (t:= .node) (ae.kids (al (t:= .node) wD wF)) wE) ((ae.keys (al (t:= .node) (ae.kids (al (t:= .node) wD wF)) wE))++([(bs [97])]:List BA))))))
noncomputable def nS(wD:List ae)(wF:Nat)(wE:Nat):List ae:=
 (((ae.kids (al (t:= .node) (ae.kids (al (t:= .node) wD wF)) wE))++([(⟨(0:Int),(0:Int),ByteArray.empty,([]:List BA),([]:List ae)⟩:ae)]:List ae)).set (Int.toNat ((ae.kids (al (t:= .node) (ae.kids (al (t:= .node) wD wF)) wE)).length:Int)) (⟨(0:Int),(0:Int),ByteArray.empty,([]:List BA),([]:List ae)⟩:ae))
noncomputable def mG(wD:List ae)(wF:Nat)(wE:Nat):List ae:=
 (wD.set wF (wK (al (t:= .node) wD wF) ((ae.kids (al (t:= .node) wD wF)).set wE (wK (al (t:= .node) (ae.kids (al (t:= .node) wD wF)) wE) (nS wD wF wE)))))
theorem VF{R:Type}(n:Nat)(k':Kx R)(wF:Nat)(wE:Nat)(wO:Bool)(wA:List Int)(wB:Int)(wC:Int)(wH:Int)(wI:Int)(wJ:BA)(wG:List BA)(wD:List ae):ev eg iY n (bC [1,1,1,1,1,0] dk) (P1 wF wE wO wA wB wC wH wI wJ wG wD) k'=
 (k' .normal (Al wA wB wC wH wI wJ wG wD)):=by kernel_rfl
noncomputable def yb{R:Type}(n:Nat)(k:Kt R)(a0:aj)(wF:Nat)(wE:Nat)(wO:Bool)(wA:List Int)(wB:Int)(wC:Int)(wH:Int)(wI:Int)(wJ:BA)(wG:List BA)(wD:List ae):Option R:=
 (qh n k a0 wA wB wC wH wI wJ wG wD)
theorem P6{R:Type}(n:Nat)(k:Kt R)(a0:aj)(wF:Nat)(wE:Nat)(wO:Bool)(wA:List Int)(wB:Int)(wC:Int)(wH:Int)(wI:Int)(wJ:BA)(wG:List BA)(wD:List ae):ev eg iY n (bC [1,1,1,1,1] dk) (P1 wF wE wO wA wB wC wH wI wJ wG wD) (aI eg [.bG] [false] true [.cell 2 27] [27] [.d .cur a0] k)=yb n k a0 wF wE wO wA wB wC wH wI wJ wG wD:=by
 rw[show (bC [1,1,1,1,1] dk) = .seq (bC [1,1,1,1,1,0] dk) (bC [1,1,1,1,1,1] dk) from by kernel_rfl,nK,VF]
 simp only[nL,nM,pb,yb]
theorem VG{R:Type}(n:Nat)(k':Kx R)(wF:Nat)(wE:Nat)(wM:Bool)(wA:List Int)(wB:Int)(wC:Int)(wH:Int)(wI:Int)(wJ:BA)(wG:List BA)(wD:List ae):ev eg iY n (bC [1,1,1,1,0] dk) (Ic wF wE wM wA wB wC wH wI wJ wG wD) k'=
 (cond ((fun c _=>aA c) (⟨wA,wB,wC⟩:aj) (14:Int))
 (cond (((aq wA wB wC).1)==(0:Int))
 (cond ((fun c _=>aA c) ((aq wA wB wC).2) (8:Int))
 (k' .normal (ia (aj.b ((af ((aq wA wB wC).2) (8:Int)).2)) (aj.i ((af ((aq wA wB wC).2) (8:Int)).2)) (aj.h ((af ((aq wA wB wC).2) (8:Int)).2)) wH wI wJ wG (qi wD wF wE wA wB wC)))
 none)
 (cond (((aq wA wB wC).1)==(1:Int))
 (cond (er ((aq wA wB wC).2) cN)
 (k' .normal (ia (aj.b ((bp ((aq wA wB wC).2) cN).2)) (aj.i ((bp ((aq wA wB wC).2) cN).2)) (aj.h ((bp ((aq wA wB wC).2) cN).2)) wH wI wJ wG (qj wD wF wE wA wB wC)))
 none)
 (cond (((aq wA wB wC).1)==(2:Int))
 (cond (eQ ((aq wA wB wC).2) cO)
 (k' .normal (ia (aj.b ((bI ((aq wA wB wC).2) cO).2)) (aj.i ((bI ((aq wA wB wC).2) cO).2)) (aj.h ((bI ((aq wA wB wC).2) cO).2)) wH wI wJ wG (qk wD wF wE wA wB wC)))
 none)
 (cond (((aq wA wB wC).1)==(3:Int))
 (cond (Nat.ble ((ae.keys (al (t:= .node) (ae.kids (al (t:= .node) wD wF)) wE)).length+1) bT)
 (cond (za [(wF,4),(wE,3)] [(wF,4),(wE,3)])
 (k' .normal (ia (aj.b ((aq wA wB wC).2)) (aj.i ((aq wA wB wC).2)) (aj.h ((aq wA wB wC).2)) wH wI wJ wG (ql wD wF wE)))
 none)
 none)
 (cond (((aq wA wB wC).1)==(4:Int))
 (cond (Nat.ble ((ae.kids (al (t:= .node) (ae.kids (al (t:= .node) wD wF)) wE)).length+1) bT)
 (cond ((decide ((0:Int)≤((ae.kids (al (t:= .node) (ae.kids (al (t:= .node) wD wF)) wE)).length:Int)))&&(decide (((ae.kids (al (t:= .node) (ae.kids (al (t:= .node) wD wF)) wE)).length:Int)<(((ae.kids (al (t:= .node) (ae.kids (al (t:= .node) wD wF)) wE))++([(⟨(0:Int),(0:Int),ByteArray.empty,([]:List BA),([]:List ae)⟩:ae)]:List ae)).length:Int))))
 (cond (za [(wF,4),(wE,4)] [(wF,4),(wE,4)])
 (k' .normal (ia (aj.b ((aq wA wB wC).2)) (aj.i ((aq wA wB wC).2)) (aj.h ((aq wA wB wC).2)) wH wI wJ wG (mG wD wF wE)))
 none)
 none)
 none)
 (k' .normal (P1 wF wE (((aq wA wB wC).1)==(4:Int)) (aj.b ((aq wA wB wC).2)) (aj.i ((aq wA wB wC).2)) (aj.h ((aq wA wB wC).2)) wH wI wJ wG wD)))))))
 none):=by kernel_rfl
noncomputable def sE{R:Type}(n:Nat)(k:Kt R)(a0:aj)(wF:Nat)(wE:Nat)(wM:Bool)(wA:List Int)(wB:Int)(wC:Int)(wH:Int)(wI:Int)(wJ:BA)(wG:List BA)(wD:List ae):Option R:=
 (cond ((fun c _=>aA c) (⟨wA,wB,wC⟩:aj) (14:Int))
 (cond (((aq wA wB wC).1)==(0:Int))
 (cond ((fun c _=>aA c) ((aq wA wB wC).2) (8:Int))
 (fl n k a0 (aj.b ((af ((aq wA wB wC).2) (8:Int)).2)) (aj.i ((af ((aq wA wB wC).2) (8:Int)).2)) (aj.h ((af ((aq wA wB wC).2) (8:Int)).2)) wH wI wJ wG (qi wD wF wE wA wB wC))
 none)
 (cond (((aq wA wB wC).1)==(1:Int))
 (cond (er ((aq wA wB wC).2) cN)
 (fl n k a0 (aj.b ((bp ((aq wA wB wC).2) cN).2)) (aj.i ((bp ((aq wA wB wC).2) cN).2)) (aj.h ((bp ((aq wA wB wC).2) cN).2)) wH wI wJ wG (qj wD wF wE wA wB wC))
 none)
 (cond (((aq wA wB wC).1)==(2:Int))
 (cond (eQ ((aq wA wB wC).2) cO)
 (fl n k a0 (aj.b ((bI ((aq wA wB wC).2) cO).2)) (aj.i ((bI ((aq wA wB wC).2) cO).2)) (aj.h ((bI ((aq wA wB wC).2) cO).2)) wH wI wJ wG (qk wD wF wE wA wB wC))
 none)
 (cond (((aq wA wB wC).1)==(3:Int))
 (cond (Nat.ble ((ae.keys (al (t:= .node) (ae.kids (al (t:= .node) wD wF)) wE)).length+1) bT)
 (cond (za [(wF,4),(wE,3)] [(wF,4),(wE,3)])
 (fl n k a0 (aj.b ((aq wA wB wC).2)) (aj.i ((aq wA wB wC).2)) (aj.h ((aq wA wB wC).2)) wH wI wJ wG (ql wD wF wE))
 none)
 none)
 (cond (((aq wA wB wC).1)==(4:Int))
 (cond (Nat.ble ((ae.kids (al (t:= .node) (ae.kids (al (t:= .node) wD wF)) wE)).length+1) bT)
 (cond ((decide ((0:Int)≤((ae.kids (al (t:= .node) (ae.kids (al (t:= .node) wD wF)) wE)).length:Int)))&&(decide (((ae.kids (al (t:= .node) (ae.kids (al (t:= .node) wD wF)) wE)).length:Int)<(((ae.kids (al (t:= .node) (ae.kids (al (t:= .node) wD wF)) wE))++([(⟨(0:Int),(0:Int),ByteArray.empty,([]:List BA),([]:List ae)⟩:ae)]:List ae)).length:Int))))
 (cond (za [(wF,4),(wE,4)] [(wF,4),(wE,4)])
 (fl n k a0 (aj.b ((aq wA wB wC).2)) (aj.i ((aq wA wB wC).2)) (aj.h ((aq wA wB wC).2)) wH wI wJ wG (mG wD wF wE))
 none)
 none)
 none)
 (yb n k a0 wF wE (((aq wA wB wC).1)==(4:Int)) (aj.b ((aq wA wB wC).2)) (aj.i ((aq wA wB wC).2)) (aj.h ((aq wA wB wC).2)) wH wI wJ wG wD))))))
 none)
theorem P7{R:Type}(n:Nat)(k:Kt R)(a0:aj)(wF:Nat)(wE:Nat)(wM:Bool)(wA:List Int)(wB:Int)(wC:Int)(wH:Int)(wI:Int)(wJ:BA)(wG:List BA)(wD:List ae):ev eg iY n (bC [1,1,1,1] dk) (Ic wF wE wM wA wB wC wH wI wJ wG wD) (aI eg [.bG] [false] true [.cell 2 27] [27] [.d .cur a0] k)=sE n k a0 wF wE wM wA wB wC wH wI wJ wG wD:=by
 rw[show (bC [1,1,1,1] dk) = .seq (bC [1,1,1,1,0] dk) (bC [1,1,1,1,1] dk) from by kernel_rfl,nK,VG]
 simp only[nL,nM,sD,P6,sE]
noncomputable def mH(wD:List ae)(wE:Nat)(wA:List Int)(wB:Int)(wC:Int):List ae:=
 (wD.set wE (oZ (al (t:= .node) wD wE) (IntKind.wrap .i64 (((af ((aq wA wB wC).2) (8:Int)).1)-(1:Int)))))
noncomputable def mI(wD:List ae)(wE:Nat)(wA:List Int)(wB:Int)(wC:Int):List ae:=
 (wD.set wE (wN (al (t:= .node) wD wE) ((bp ((aq wA wB wC).2) cN).1)))
noncomputable def mJ(wD:List ae)(wE:Nat)(wA:List Int)(wB:Int)(wC:Int):List ae:=
 (wD.set wE (wS (al (t:= .node) wD wE) ((bI ((aq wA wB wC).2) cO).1)))
noncomputable def mK(wD:List ae)(wE:Nat):List ae:=
 (wD.set wE (o0 (al (t:= .node) wD wE) ((ae.keys (al (t:= .node) wD wE))++([(bs [97])]:List BA))))
noncomputable def nT(wD:List ae)(wE:Nat):List ae:=
 (((ae.kids (al (t:= .node) wD wE))++([(⟨(0:Int),(0:Int),ByteArray.empty,([]:List BA),([]:List ae)⟩:ae)]:List ae)).set (Int.toNat ((ae.kids (al (t:= .node) wD wE)).length:Int)) (⟨(0:Int),(0:Int),ByteArray.empty,([]:List BA),([]:List ae)⟩:ae))
noncomputable def mM(wD:List ae)(wE:Nat):List ae:=
 (wD.set wE (wK (al (t:= .node) wD wE) (nT wD wE)))
theorem VH{R:Type}(n:Nat)(k':Kx R)(wE:Nat)(wO:Bool)(wA:List Int)(wB:Int)(wC:Int)(wH:Int)(wI:Int)(wJ:BA)(wG:List BA)(wD:List ae):ev eg iY n (bC [1,1,1,1,1,0] dk) (P2 wE wO wA wB wC wH wI wJ wG wD) k'=
 (k' .normal (Al wA wB wC wH wI wJ wG wD)):=by kernel_rfl
noncomputable def yc{R:Type}(n:Nat)(k:Kt R)(a0:aj)(wE:Nat)(wO:Bool)(wA:List Int)(wB:Int)(wC:Int)(wH:Int)(wI:Int)(wJ:BA)(wG:List BA)(wD:List ae):Option R:=
 (qh n k a0 wA wB wC wH wI wJ wG wD)
theorem P8{R:Type}(n:Nat)(k:Kt R)(a0:aj)(wE:Nat)(wO:Bool)(wA:List Int)(wB:Int)(wC:Int)(wH:Int)(wI:Int)(wJ:BA)(wG:List BA)(wD:List ae):ev eg iY n (bC [1,1,1,1,1] dk) (P2 wE wO wA wB wC wH wI wJ wG wD) (aI eg [.bG] [false] true [.cell 2 27] [27] [.d .cur a0] k)=yc n k a0 wE wO wA wB wC wH wI wJ wG wD:=by
 rw[show (bC [1,1,1,1,1] dk) = .seq (bC [1,1,1,1,1,0] dk) (bC [1,1,1,1,1,1] dk) from by kernel_rfl,nK,VH]
 simp only[nL,nM,pb,yc]
theorem VI{R:Type}(n:Nat)(k':Kx R)(wE:Nat)(wM:Bool)(wA:List Int)(wB:Int)(wC:Int)(wH:Int)(wI:Int)(wJ:BA)(wG:List BA)(wD:List ae):ev eg iY n (bC [1,1,1,1,0] dk) (Ie wE wM wA wB wC wH wI wJ wG wD) k'=
 (cond ((fun c _=>aA c) (⟨wA,wB,wC⟩:aj) (14:Int))
 (cond (((aq wA wB wC).1)==(0:Int))
 (cond ((fun c _=>aA c) ((aq wA wB wC).2) (8:Int))
 (k' .normal (ia (aj.b ((af ((aq wA wB wC).2) (8:Int)).2)) (aj.i ((af ((aq wA wB wC).2) (8:Int)).2)) (aj.h ((af ((aq wA wB wC).2) (8:Int)).2)) wH wI wJ wG (mH wD wE wA wB wC)))
 none)
 (cond (((aq wA wB wC).1)==(1:Int))
 (cond (er ((aq wA wB wC).2) cN)
 (k' .normal (ia (aj.b ((bp ((aq wA wB wC).2) cN).2)) (aj.i ((bp ((aq wA wB wC).2) cN).2)) (aj.h ((bp ((aq wA wB wC).2) cN).2)) wH wI wJ wG (mI wD wE wA wB wC)))
 none)
 (cond (((aq wA wB wC).1)==(2:Int))
 (cond (eQ ((aq wA wB wC).2) cO)
 (k' .normal (ia (aj.b ((bI ((aq wA wB wC).2) cO).2)) (aj.i ((bI ((aq wA wB wC).2) cO).2)) (aj.h ((bI ((aq wA wB wC).2) cO).2)) wH wI wJ wG (mJ wD wE wA wB wC)))
 none)
 (cond (((aq wA wB wC).1)==(3:Int))
 (cond (Nat.ble ((ae.keys (al (t:= .node) wD wE)).length+1) bT)
 (cond (za [(wE,3)] [(wE,3)])
 (k' .normal (ia (aj.b ((aq wA wB wC).2)) (aj.i ((aq wA wB wC).2)) (aj.h ((aq wA wB wC).2)) wH wI wJ wG (mK wD wE)))
 none)
 none)
 (cond (((aq wA wB wC).1)==(4:Int))
 (cond (Nat.ble ((ae.kids (al (t:= .node) wD wE)).length+1) bT)
 (cond ((decide ((0:Int)≤((ae.kids (al (t:= .node) wD wE)).length:Int)))&&(decide (((ae.kids (al (t:= .node) wD wE)).length:Int)<(((ae.kids (al (t:= .node) wD wE))++([(⟨(0:Int),(0:Int),ByteArray.empty,([]:List BA),([]:List ae)⟩:ae)]:List ae)).length:Int))))
 (cond (za [(wE,4)] [(wE,4)])
 (k' .normal (ia (aj.b ((aq wA wB wC).2)) (aj.i ((aq wA wB wC).2)) (aj.h ((aq wA wB wC).2)) wH wI wJ wG (mM wD wE)))
 none)
 none)
 none)
 (k' .normal (P2 wE (((aq wA wB wC).1)==(4:Int)) (aj.b ((aq wA wB wC).2)) (aj.i ((aq wA wB wC).2)) (aj.h ((aq wA wB wC).2)) wH wI wJ wG wD)))))))
 none):=by kernel_rfl
noncomputable def sF{R:Type}(n:Nat)(k:Kt R)(a0:aj)(wE:Nat)(wM:Bool)(wA:List Int)(wB:Int)(wC:Int)(wH:Int)(wI:Int)(wJ:BA)(wG:List BA)(wD:List ae):Option R:=
 (cond ((fun c _=>aA c) (⟨wA,wB,wC⟩:aj) (14:Int))
 (cond (((aq wA wB wC).1)==(0:Int))
 (cond ((fun c _=>aA c) ((aq wA wB wC).2) (8:Int))
 (fl n k a0 (aj.b ((af ((aq wA wB wC).2) (8:Int)).2)) (aj.i ((af ((aq wA wB wC).2) (8:Int)).2)) (aj.h ((af ((aq wA wB wC).2) (8:Int)).2)) wH wI wJ wG (mH wD wE wA wB wC))
 none)
 (cond (((aq wA wB wC).1)==(1:Int))
 (cond (er ((aq wA wB wC).2) cN)
 (fl n k a0 (aj.b ((bp ((aq wA wB wC).2) cN).2)) (aj.i ((bp ((aq wA wB wC).2) cN).2)) (aj.h ((bp ((aq wA wB wC).2) cN).2)) wH wI wJ wG (mI wD wE wA wB wC))
 none)
 (cond (((aq wA wB wC).1)==(2:Int))
 (cond (eQ ((aq wA wB wC).2) cO)
 (fl n k a0 (aj.b ((bI ((aq wA wB wC).2) cO).2)) (aj.i ((bI ((aq wA wB wC).2) cO).2)) (aj.h ((bI ((aq wA wB wC).2) cO).2)) wH wI wJ wG (mJ wD wE wA wB wC))
 none)
 (cond (((aq wA wB wC).1)==(3:Int))
 (cond (Nat.ble ((ae.keys (al (t:= .node) wD wE)).length+1) bT)
 (cond (za [(wE,3)] [(wE,3)])
 (fl n k a0 (aj.b ((aq wA wB wC).2)) (aj.i ((aq wA wB wC).2)) (aj.h ((aq wA wB wC).2)) wH wI wJ wG (mK wD wE))
 none)
 none)
 (cond (((aq wA wB wC).1)==(4:Int))
 (cond (Nat.ble ((ae.kids (al (t:= .node) wD wE)).length+1) bT)
 (cond ((decide ((0:Int)≤((ae.kids (al (t:= .node) wD wE)).length:Int)))&&(decide (((ae.kids (al (t:= .node) wD wE)).length:Int)<(((ae.kids (al (t:= .node) wD wE))++([(⟨(0:Int),(0:Int),ByteArray.empty,([]:List BA),([]:List ae)⟩:ae)]:List ae)).length:Int))))
 (cond (za [(wE,4)] [(wE,4)])
 (fl n k a0 (aj.b ((aq wA wB wC).2)) (aj.i ((aq wA wB wC).2)) (aj.h ((aq wA wB wC).2)) wH wI wJ wG (mM wD wE))
 none)
 none)
 none)
 (yc n k a0 wE (((aq wA wB wC).1)==(4:Int)) (aj.b ((aq wA wB wC).2)) (aj.i ((aq wA wB wC).2)) (aj.h ((aq wA wB wC).2)) wH wI wJ wG wD))))))
 none)
theorem P9{R:Type}(n:Nat)(k:Kt R)(a0:aj)(wE:Nat)(wM:Bool)(wA:List Int)(wB:Int)(wC:Int)(wH:Int)(wI:Int)(wJ:BA)(wG:List BA)(wD:List ae):ev eg iY n (bC [1,1,1,1] dk) (Ie wE wM wA wB wC wH wI wJ wG wD) (aI eg [.bG] [false] true [.cell 2 27] [27] [.d .cur a0] k)=sF n k a0 wE wM wA wB wC wH wI wJ wG wD:=by
 rw[show (bC [1,1,1,1] dk) = .seq (bC [1,1,1,1,0] dk) (bC [1,1,1,1,1] dk) from by kernel_rfl,nK,VI]
 simp only[nL,nM,sD,P8,sF]
noncomputable def mN(wD:List ae):List ae:=
 ((wD++([(⟨(0:Int),(0:Int),ByteArray.empty,([]:List BA),([]:List ae)⟩:ae)]:List ae)).set (Int.toNat (wD.length:Int)) (⟨(0:Int),(0:Int),ByteArray.empty,([]:List BA),([]:List ae)⟩:ae))
theorem VJ{R:Type}(n:Nat)(k':Kx R)(wO:Bool)(wA:List Int)(wB:Int)(wC:Int)(wH:Int)(wI:Int)(wJ:BA)(wG:List BA)(wD:List ae):ev eg iY n (bC [1,1,1,1,1,0] dk) (P3 wO wA wB wC wH wI wJ wG wD) k'=
 (k' .normal (Al wA wB wC wH wI wJ wG wD)):=by kernel_rfl
noncomputable def yd{R:Type}(n:Nat)(k:Kt R)(a0:aj)(wO:Bool)(wA:List Int)(wB:Int)(wC:Int)(wH:Int)(wI:Int)(wJ:BA)(wG:List BA)(wD:List ae):Option R:=
 (qh n k a0 wA wB wC wH wI wJ wG wD)
theorem Qa{R:Type}(n:Nat)(k:Kt R)(a0:aj)(wO:Bool)(wA:List Int)(wB:Int)(wC:Int)(wH:Int)(wI:Int)(wJ:BA)(wG:List BA)(wD:List ae):ev eg iY n (bC [1,1,1,1,1] dk) (P3 wO wA wB wC wH wI wJ wG wD) (aI eg [.bG] [false] true [.cell 2 27] [27] [.d .cur a0] k)=yd n k a0 wO wA wB wC wH wI wJ wG wD:=by
 rw[show (bC [1,1,1,1,1] dk) = .seq (bC [1,1,1,1,1,0] dk) (bC [1,1,1,1,1,1] dk) from by kernel_rfl,nK,VJ]
 simp only[nL,nM,pb,yd]
theorem VK{R:Type}(n:Nat)(k':Kx R)(wM:Bool)(wA:List Int)(wB:Int)(wC:Int)(wH:Int)(wI:Int)(wJ:BA)(wG:List BA)(wD:List ae):ev eg iY n (bC [1,1,1,1,0] dk) (Ig wM wA wB wC wH wI wJ wG wD) k'=
 (cond ((fun c _=>aA c) (⟨wA,wB,wC⟩:aj) (14:Int))
 (cond (((aq wA wB wC).1)==(0:Int))
 (cond ((fun c _=>aA c) ((aq wA wB wC).2) (8:Int))
 (k' .normal (ia (aj.b ((af ((aq wA wB wC).2) (8:Int)).2)) (aj.i ((af ((aq wA wB wC).2) (8:Int)).2)) (aj.h ((af ((aq wA wB wC).2) (8:Int)).2)) (IntKind.wrap .i64 (((af ((aq wA wB wC).2) (8:Int)).1)-(1:Int))) wI wJ wG wD))
 none)
 (cond (((aq wA wB wC).1)==(1:Int))
 (cond (er ((aq wA wB wC).2) cN)
 (k' .normal (ia (aj.b ((bp ((aq wA wB wC).2) cN).2)) (aj.i ((bp ((aq wA wB wC).2) cN).2)) (aj.h ((bp ((aq wA wB wC).2) cN).2)) wH ((bp ((aq wA wB wC).2) cN).1) wJ wG wD))
 none)
 (cond (((aq wA wB wC).1)==(2:Int))
 (cond (eQ ((aq wA wB wC).2) cO)
 (k' .normal (ia (aj.b ((bI ((aq wA wB wC).2) cO).2)) (aj.i ((bI ((aq wA wB wC).2) cO).2)) (aj.h ((bI ((aq wA wB wC).2) cO).2)) wH wI ((bI ((aq wA wB wC).2) cO).1) wG wD))
 none)
 (cond (((aq wA wB wC).1)==(3:Int))
 (cond (Nat.ble (wG.length+1) bT)
 (k' .normal (ia (aj.b ((aq wA wB wC).2)) (aj.i ((aq wA wB wC).2)) (aj.h ((aq wA wB wC).2)) wH wI wJ (wG++([(bs [97])]:List BA)) wD))
 none)
 (cond (((aq wA wB wC).1)==(4:Int))
 (cond (Nat.ble (wD.length+1) bT)
 (cond ((decide ((0:Int)≤(wD.length:Int)))&&(decide ((wD.length:Int)<((wD++([(⟨(0:Int),(0:Int),ByteArray.empty,([]:List BA),([]:List ae)⟩:ae)]:List ae)).length:Int))))
 (k' .normal (ia (aj.b ((aq wA wB wC).2)) (aj.i ((aq wA wB wC).2)) (aj.h ((aq wA wB wC).2)) wH wI wJ wG (mN wD)))
 none)
 none)
 (k' .normal (P3 (((aq wA wB wC).1)==(4:Int)) (aj.b ((aq wA wB wC).2)) (aj.i ((aq wA wB wC).2)) (aj.h ((aq wA wB wC).2)) wH wI wJ wG wD)))))))
 none):=by kernel_rfl
noncomputable def sG{R:Type}(n:Nat)(k:Kt R)(a0:aj)(wM:Bool)(wA:List Int)(wB:Int)(wC:Int)(wH:Int)(wI:Int)(wJ:BA)(wG:List BA)(wD:List ae):Option R:=
 (cond ((fun c _=>aA c) (⟨wA,wB,wC⟩:aj) (14:Int))
 (cond (((aq wA wB wC).1)==(0:Int))
 (cond ((fun c _=>aA c) ((aq wA wB wC).2) (8:Int))
 (fl n k a0 (aj.b ((af ((aq wA wB wC).2) (8:Int)).2)) (aj.i ((af ((aq wA wB wC).2) (8:Int)).2)) (aj.h ((af ((aq wA wB wC).2) (8:Int)).2)) (IntKind.wrap .i64 (((af ((aq wA wB wC).2) (8:Int)).1)-(1:Int))) wI wJ wG wD)
 none)
 (cond (((aq wA wB wC).1)==(1:Int))
 (cond (er ((aq wA wB wC).2) cN)
 (fl n k a0 (aj.b ((bp ((aq wA wB wC).2) cN).2)) (aj.i ((bp ((aq wA wB wC).2) cN).2)) (aj.h ((bp ((aq wA wB wC).2) cN).2)) wH ((bp ((aq wA wB wC).2) cN).1) wJ wG wD)
 none)
 (cond (((aq wA wB wC).1)==(2:Int))
 (cond (eQ ((aq wA wB wC).2) cO)
 (fl n k a0 (aj.b ((bI ((aq wA wB wC).2) cO).2)) (aj.i ((bI ((aq wA wB wC).2) cO).2)) (aj.h ((bI ((aq wA wB wC).2) cO).2)) wH wI ((bI ((aq wA wB wC).2) cO).1) wG wD)
 none)
 (cond (((aq wA wB wC).1)==(3:Int))
 (cond (Nat.ble (wG.length+1) bT)
 (fl n k a0 (aj.b ((aq wA wB wC).2)) (aj.i ((aq wA wB wC).2)) (aj.h ((aq wA wB wC).2)) wH wI wJ (wG++([(bs [97])]:List BA)) wD)
 none)
 (cond (((aq wA wB wC).1)==(4:Int))
 (cond (Nat.ble (wD.length+1) bT)
 (cond ((decide ((0:Int)≤(wD.length:Int)))&&(decide ((wD.length:Int)<((wD++([(⟨(0:Int),(0:Int),ByteArray.empty,([]:List BA),([]:List ae)⟩:ae)]:List ae)).length:Int))))
 (fl n k a0 (aj.b ((aq wA wB wC).2)) (aj.i ((aq wA wB wC).2)) (aj.h ((aq wA wB wC).2)) wH wI wJ wG (mN wD))
 none)
 none)
 (yd n k a0 (((aq wA wB wC).1)==(4:Int)) (aj.b ((aq wA wB wC).2)) (aj.i ((aq wA wB wC).2)) (aj.h ((aq wA wB wC).2)) wH wI wJ wG wD))))))
 none)
theorem Qb{R:Type}(n:Nat)(k:Kt R)(a0:aj)(wM:Bool)(wA:List Int)(wB:Int)(wC:Int)(wH:Int)(wI:Int)(wJ:BA)(wG:List BA)(wD:List ae):ev eg iY n (bC [1,1,1,1] dk) (Ig wM wA wB wC wH wI wJ wG wD) (aI eg [.bG] [false] true [.cell 2 27] [27] [.d .cur a0] k)=sG n k a0 wM wA wB wC wH wI wJ wG wD:=by
 rw[show (bC [1,1,1,1] dk) = .seq (bC [1,1,1,1,0] dk) (bC [1,1,1,1,1] dk) from by kernel_rfl,nK,VK]
 simp only[nL,nM,sD,Qa,sG]
noncomputable def aY(a0:aj):ae×aj:=(dT a0 (3:Int))
noncomputable def kt(a0:aj):Bool×aj:=(bu ((aY a0).2) (2:Int))
noncomputable def dK(a0:aj):Int×aj:=(af ((kt a0).2) ((ae.kids ((aY a0).1)).length:Int))
noncomputable def pc(a0:aj):ae:=(al (t:= .node) (ae.kids ((aY a0).1)) (Int.toNat ((dK a0).1)))
noncomputable def ku(a0:aj):Bool×aj:=(bu ((dK a0).2) (2:Int))
noncomputable def fh(a0:aj):Int×aj:=(af ((ku a0).2) ((ae.kids (pc a0)).length:Int))
noncomputable def kx(a0:aj):Bool×aj:=(bu ((fh a0).2) (2:Int))
noncomputable def qm(a0:aj):ae:=(al (t:= .node) (ae.kids (pc a0)) (Int.toNat ((fh a0).1)))
noncomputable def kK(a0:aj):Int×aj:=(af ((kx a0).2) ((ae.kids (qm a0)).length:Int))
theorem nU{R:Type}(n:Nat)(k:Kt R)(a0:aj):aG eg iY (n+4) dk [.bG] [false] true [.cell 2 27] [27] [.d .cur a0] k=
 (cond (Cc a0 (3:Int))
 (cond (decide (((ae.kids ((aY a0).1)).length:Int)>(0:Int)))
 (cond ((fun c _=>aA c) ((aY a0).2) (2:Int))
 (cond (!((kt a0).1))
 (cond ((fun c _=>aA c) ((kt a0).2) ((ae.kids ((aY a0).1)).length:Int))
 (cond ((decide ((0:Int)≤((dK a0).1)))&&(decide (((dK a0).1)<((ae.kids ((aY a0).1)).length:Int))))
 (cond (decide (((ae.kids (pc a0)).length:Int)>(0:Int)))
 (cond ((fun c _=>aA c) ((dK a0).2) (2:Int))
 (cond (!((ku a0).1))
 (cond ((fun c _=>aA c) ((ku a0).2) ((ae.kids (pc a0)).length:Int))
 (cond ((decide ((0:Int)≤((fh a0).1)))&&(decide (((fh a0).1)<((ae.kids (pc a0)).length:Int))))
 (cond (decide (((ae.kids (qm a0)).length:Int)>(0:Int)))
 (cond ((fun c _=>aA c) ((fh a0).2) (2:Int))
 (cond (!((kx a0).1))
 (cond ((fun c _=>aA c) ((kx a0).2) ((ae.kids (qm a0)).length:Int))
 (cond ((decide ((0:Int)≤((kK a0).1)))&&(decide (((kK a0).1)<((ae.kids (qm a0)).length:Int))))
 (uf n k a0 (Int.toNat ((dK a0).1)) (Int.toNat ((fh a0).1)) (Int.toNat ((kK a0).1)) false (aj.b ((kK a0).2)) (aj.i ((kK a0).2)) (aj.h ((kK a0).2)) (ae.kind ((aY a0).1)) (ae.n ((aY a0).1)) (ae.s ((aY a0).1)) (ae.keys ((aY a0).1)) (ae.kids ((aY a0).1)))
 none)
 none)
 (sE n k a0 (Int.toNat ((dK a0).1)) (Int.toNat ((fh a0).1)) (!((kx a0).1)) (aj.b ((kx a0).2)) (aj.i ((kx a0).2)) (aj.h ((kx a0).2)) (ae.kind ((aY a0).1)) (ae.n ((aY a0).1)) (ae.s ((aY a0).1)) (ae.keys ((aY a0).1)) (ae.kids ((aY a0).1))))
 none)
 (sE n k a0 (Int.toNat ((dK a0).1)) (Int.toNat ((fh a0).1)) false (aj.b ((fh a0).2)) (aj.i ((fh a0).2)) (aj.h ((fh a0).2)) (ae.kind ((aY a0).1)) (ae.n ((aY a0).1)) (ae.s ((aY a0).1)) (ae.keys ((aY a0).1)) (ae.kids ((aY a0).1))))
 none)
 none)
 (sF n k a0 (Int.toNat ((dK a0).1)) (!((ku a0).1)) (aj.b ((ku a0).2)) (aj.i ((ku a0).2)) (aj.h ((ku a0).2)) (ae.kind ((aY a0).1)) (ae.n ((aY a0).1)) (ae.s ((aY a0).1)) (ae.keys ((aY a0).1)) (ae.kids ((aY a0).1))))
 none)
 (sF n k a0 (Int.toNat ((dK a0).1)) false (aj.b ((dK a0).2)) (aj.i ((dK a0).2)) (aj.h ((dK a0).2)) (ae.kind ((aY a0).1)) (ae.n ((aY a0).1)) (ae.s ((aY a0).1)) (ae.keys ((aY a0).1)) (ae.kids ((aY a0).1))))
 none)
 none)
 (sG n k a0 (!((kt a0).1)) (aj.b ((kt a0).2)) (aj.i ((kt a0).2)) (aj.h ((kt a0).2)) (ae.kind ((aY a0).1)) (ae.n ((aY a0).1)) (ae.s ((aY a0).1)) (ae.keys ((aY a0).1)) (ae.kids ((aY a0).1))))
 none)
 (sG n k a0 false (aj.b ((aY a0).2)) (aj.i ((aY a0).2)) (aj.h ((aY a0).2)) (ae.kind ((aY a0).1)) (ae.n ((aY a0).1)) (ae.s ((aY a0).1)) (ae.keys ((aY a0).1)) (ae.kids ((aY a0).1))))
 none):=by
  refine Eq.trans (b:=(cond (Cc a0 (3:Int))
  (cond (decide (((ae.kids ((aY a0).1)).length:Int)>(0:Int)))
   (cond ((fun c _=>aA c) ((aY a0).2) (2:Int))
    (cond (!((kt a0).1))
     (cond ((fun c _=>aA c) ((kt a0).2) ((ae.kids ((aY a0).1)).length:Int))
      (cond ((decide ((0:Int)≤((dK a0).1)))&&(decide (((dK a0).1)<((ae.kids ((aY a0).1)).length:Int))))
       (cond (decide (((ae.kids (pc a0)).length:Int)>(0:Int)))
        (cond ((fun c _=>aA c) ((dK a0).2) (2:Int))
         (cond (!((ku a0).1))
          (cond ((fun c _=>aA c) ((ku a0).2) ((ae.kids (pc a0)).length:Int))
           (cond ((decide ((0:Int)≤((fh a0).1)))&&(decide (((fh a0).1)<((ae.kids (pc a0)).length:Int))))
            (cond (decide (((ae.kids (qm a0)).length:Int)>(0:Int)))
             (cond ((fun c _=>aA c) ((fh a0).2) (2:Int))
              (cond (!((kx a0).1))
               (cond ((fun c _=>aA c) ((kx a0).2) ((ae.kids (qm a0)).length:Int))
                (cond ((decide ((0:Int)≤((kK a0).1)))&&(decide (((kK a0).1)<((ae.kids (qm a0)).length:Int))))
                 (ev eg iY n (bC [1,1,1,1] dk) (P0 (Int.toNat ((dK a0).1)) (Int.toNat ((fh a0).1)) (Int.toNat ((kK a0).1)) false (aj.b ((kK a0).2)) (aj.i ((kK a0).2)) (aj.h ((kK a0).2)) (ae.kind ((aY a0).1)) (ae.n ((aY a0).1)) (ae.s ((aY a0).1)) (ae.keys ((aY a0).1)) (ae.kids ((aY a0).1))) (aI eg [.bG] [false] true [.cell 2 27] [27] [.d .cur a0] k))
                 none)
                none)
               (ev eg iY n (bC [1,1,1,1] dk) (Ic (Int.toNat ((dK a0).1)) (Int.toNat ((fh a0).1)) (!((kx a0).1)) (aj.b ((kx a0).2)) (aj.i ((kx a0).2)) (aj.h ((kx a0).2)) (ae.kind ((aY a0).1)) (ae.n ((aY a0).1)) (ae.s ((aY a0).1)) (ae.keys ((aY a0).1)) (ae.kids ((aY a0).1))) (aI eg [.bG] [false] true [.cell 2 27] [27] [.d .cur a0] k)))
              none)
             (ev eg iY n (bC [1,1,1,1] dk) (Ic (Int.toNat ((dK a0).1)) (Int.toNat ((fh a0).1)) false (aj.b ((fh a0).2)) (aj.i ((fh a0).2)) (aj.h ((fh a0).2)) (ae.kind ((aY a0).1)) (ae.n ((aY a0).1)) (ae.s ((aY a0).1)) (ae.keys ((aY a0).1)) (ae.kids ((aY a0).1))) (aI eg [.bG] [false] true [.cell 2 27] [27] [.d .cur a0] k)))
            none)
           none)
          (ev eg iY n (bC [1,1,1,1] dk) (Ie (Int.toNat ((dK a0).1)) (!((ku a0).1)) (aj.b ((ku a0).2)) (aj.i ((ku a0).2)) (aj.h ((ku a0).2)) (ae.kind ((aY a0).1)) (ae.n ((aY a0).1)) (ae.s ((aY a0).1)) (ae.keys ((aY a0).1)) (ae.kids ((aY a0).1))) (aI eg [.bG] [false] true [.cell 2 27] [27] [.d .cur a0] k)))
         none)
        (ev eg iY n (bC [1,1,1,1] dk) (Ie (Int.toNat ((dK a0).1)) false (aj.b ((dK a0).2)) (aj.i ((dK a0).2)) (aj.h ((dK a0).2)) (ae.kind ((aY a0).1)) (ae.n ((aY a0).1)) (ae.s ((aY a0).1)) (ae.keys ((aY a0).1)) (ae.kids ((aY a0).1))) (aI eg [.bG] [false] true [.cell 2 27] [27] [.d .cur a0] k)))
       none)
      none)
     (ev eg iY n (bC [1,1,1,1] dk) (Ig (!((kt a0).1)) (aj.b ((kt a0).2)) (aj.i ((kt a0).2)) (aj.h ((kt a0).2)) (ae.kind ((aY a0).1)) (ae.n ((aY a0).1)) (ae.s ((aY a0).1)) (ae.keys ((aY a0).1)) (ae.kids ((aY a0).1))) (aI eg [.bG] [false] true [.cell 2 27] [27] [.d .cur a0] k)))
    none)
   (ev eg iY n (bC [1,1,1,1] dk) (Ig false (aj.b ((aY a0).2)) (aj.i ((aY a0).2)) (aj.h ((aY a0).2)) (ae.kind ((aY a0).1)) (ae.n ((aY a0).1)) (ae.s ((aY a0).1)) (ae.keys ((aY a0).1)) (ae.kids ((aY a0).1))) (aI eg [.bG] [false] true [.cell 2 27] [27] [.d .cur a0] k)))
  none)) (by kernel_rfl) ?_
  simp only[P5,P7,P9,Qb]
theorem Qc(a0:aj)(t:ae)(c:aj)(wF:Nat)(wL:Nat)(wE:Nat)(wM:Bool)(hg:aA c=true)(h0:jW t=true)(h1:jW (al (t:= .node) t.kids wF)=true)(h2:jW (al (t:= .node) (ae.kids (al (t:= .node) t.kids wF)) wL)=true)(h3:jW (al (t:= .node) (ae.kids (al (t:= .node) (ae.kids (al (t:= .node) t.kids wF)) wL)) wE)=true):∃o:ae×aj,(og 3 o.1=true∧aA o.2=true)∧∀{R:Type}(n:Nat)(k:Kt R),uf n k a0 wF wL wE wM c.b c.i c.h t.kind t.n t.s t.keys t.kids=k [.d .node o.1,.d .cur o.2]:=by
 cases e0:(((af c (14:Int)).1)==(0:Int))
 cases e1:(((af c (14:Int)).1)==(1:Int))
 cases e2:(((af c (14:Int)).1)==(2:Int))
 cases e3:(((af c (14:Int)).1)==(3:Int))
 cases e4:(((af c (14:Int)).1)==(4:Int))
 all_goals
  refine⟨(?_,?_),?_,?_⟩
  rotate_left 3
  ·intro R n k;simp (decide:=true) (maxDischargeDepth:=60) only[aq,cN,cO,uf,fl,qh,ya,sE,yb,sF,yc,sG,yd, *,cc,bc,iW,gT,dX,fb,cond_true,cond_false,Bool.not_true,Bool.not_false,x9,kY,mF,gU,jy,mj,km,iR,iS,me,ko,iT,o7,o8,iU,iV,mf,aK,az,Bool.and_self,qc,qd,qe,qf,sC,qg,qi,qj,qk,ql,nS,mG,mH,mI,mJ,mK,nT,mM,mN,oZ,wN,wS,o0,wK,az,fy,aK];exact rfl
  simp (decide:=true) (maxDischargeDepth:=60) only[aq,cN,cO, *,cc,bc,iW,gT,dX,fb,nR,pH,rO,pI,and_self,x9,kY,mF,gU,jy,mj,km,iR,iS,me,ko,iT,o7,o8,iU,iV,mf,aK,az,Bool.and_self,qc,qd,qe,qf,sC,qg,qi,qj,qk,ql,nS,mG,mH,mI,mJ,mK,nT,mM,mN,oZ,wN,wS,o0,wK,az,fy,aK]
theorem DV(a0:aj)(t:ae)(c:aj)(wF:Nat)(wE:Nat)(wM:Bool)(hg:aA c=true)(h0:jW t=true)(h1:jW (al (t:= .node) t.kids wF)=true)(h2:jW (al (t:= .node) (ae.kids (al (t:= .node) t.kids wF)) wE)=true):∃o:ae×aj,(og 3 o.1=true∧aA o.2=true)∧∀{R:Type}(n:Nat)(k:Kt R),sE n k a0 wF wE wM c.b c.i c.h t.kind t.n t.s t.keys t.kids=k [.d .node o.1,.d .cur o.2]:=by
 cases e0:(((af c (14:Int)).1)==(0:Int))
 cases e1:(((af c (14:Int)).1)==(1:Int))
 cases e2:(((af c (14:Int)).1)==(2:Int))
 cases e3:(((af c (14:Int)).1)==(3:Int))
 cases e4:(((af c (14:Int)).1)==(4:Int))
 all_goals
  refine⟨(?_,?_),?_,?_⟩
  rotate_left 3
  ·intro R n k;simp (decide:=true) (maxDischargeDepth:=60) only[aq,cN,cO,uf,fl,qh,ya,sE,yb,sF,yc,sG,yd, *,cc,bc,iW,gT,dX,fb,cond_true,cond_false,Bool.not_true,Bool.not_false,x9,kY,mF,gU,jy,mj,km,iR,iS,me,ko,iT,o7,o8,iU,iV,mf,aK,az,Bool.and_self,qc,qd,qe,qf,sC,qg,qi,qj,qk,ql,nS,mG,mH,mI,mJ,mK,nT,mM,mN,oZ,wN,wS,o0,wK,az,fy,aK];exact rfl
  simp (decide:=true) (maxDischargeDepth:=60) only[aq,cN,cO, *,cc,bc,iW,gT,dX,fb,nR,pH,rO,pI,and_self,x9,kY,mF,gU,jy,mj,km,iR,iS,me,ko,iT,o7,o8,iU,iV,mf,aK,az,Bool.and_self,qc,qd,qe,qf,sC,qg,qi,qj,qk,ql,nS,mG,mH,mI,mJ,mK,nT,mM,mN,oZ,wN,wS,o0,wK,az,fy,aK]
theorem DW(a0:aj)(t:ae)(c:aj)(wE:Nat)(wM:Bool)(hg:aA c=true)(h0:jW t=true)(h1:jW (al (t:= .node) t.kids wE)=true):∃o:ae×aj,(og 3 o.1=true∧aA o.2=true)∧∀{R:Type}(n:Nat)(k:Kt R),sF n k a0 wE wM c.b c.i c.h t.kind t.n t.s t.keys t.kids=k [.d .node o.1,.d .cur o.2]:=by
 cases e0:(((af c (14:Int)).1)==(0:Int))
 cases e1:(((af c (14:Int)).1)==(1:Int))
 cases e2:(((af c (14:Int)).1)==(2:Int))
 cases e3:(((af c (14:Int)).1)==(3:Int))
 cases e4:(((af c (14:Int)).1)==(4:Int))
 all_goals
  refine⟨(?_,?_),?_,?_⟩
  rotate_left 3
  ·intro R n k;simp (decide:=true) (maxDischargeDepth:=60) only[aq,cN,cO,uf,fl,qh,ya,sE,yb,sF,yc,sG,yd, *,cc,bc,iW,gT,dX,fb,cond_true,cond_false,Bool.not_true,Bool.not_false,x9,kY,mF,gU,jy,mj,km,iR,iS,me,ko,iT,o7,o8,iU,iV,mf,aK,az,Bool.and_self,qc,qd,qe,qf,sC,qg,qi,qj,qk,ql,nS,mG,mH,mI,mJ,mK,nT,mM,mN,oZ,wN,wS,o0,wK,az,fy,aK];exact rfl
  simp (decide:=true) (maxDischargeDepth:=60) only[aq,cN,cO, *,cc,bc,iW,gT,dX,fb,nR,pH,rO,pI,and_self,x9,kY,mF,gU,jy,mj,km,iR,iS,me,ko,iT,o7,o8,iU,iV,mf,aK,az,Bool.and_self,qc,qd,qe,qf,sC,qg,qi,qj,qk,ql,nS,mG,mH,mI,mJ,mK,nT,mM,mN,oZ,wN,wS,o0,wK,az,fy,aK]
theorem DX(a0:aj)(t:ae)(c:aj)(wM:Bool)(hg:aA c=true)(h0:jW t=true):∃o:ae×aj,(og 3 o.1=true∧aA o.2=true)∧∀{R:Type}(n:Nat)(k:Kt R),sG n k a0 wM c.b c.i c.h t.kind t.n t.s t.keys t.kids=k [.d .node o.1,.d .cur o.2]:=by
 cases e0:(((af c (14:Int)).1)==(0:Int))
 cases e1:(((af c (14:Int)).1)==(1:Int))
 cases e2:(((af c (14:Int)).1)==(2:Int))
 cases e3:(((af c (14:Int)).1)==(3:Int))
 cases e4:(((af c (14:Int)).1)==(4:Int))
 all_goals
  refine⟨(?_,?_),?_,?_⟩
  rotate_left 3
  ·intro R n k;simp (decide:=true) (maxDischargeDepth:=60) only[aq,cN,cO,uf,fl,qh,ya,sE,yb,sF,yc,sG,yd, *,cc,bc,iW,gT,dX,fb,cond_true,cond_false,Bool.not_true,Bool.not_false,x9,kY,mF,gU,jy,mj,km,iR,iS,me,ko,iT,o7,o8,iU,iV,mf,aK,az,Bool.and_self,qc,qd,qe,qf,sC,qg,qi,qj,qk,ql,nS,mG,mH,mI,mJ,mK,nT,mM,mN,oZ,wN,wS,o0,wK,az,fy,aK];exact rfl
  simp (decide:=true) (maxDischargeDepth:=60) only[aq,cN,cO, *,cc,bc,iW,gT,dX,fb,nR,pH,rO,pI,and_self,x9,kY,mF,gU,jy,mj,km,iR,iS,me,ko,iT,o7,o8,iU,iV,mf,aK,az,Bool.and_self,qc,qd,qe,qf,sC,qg,qi,qj,qk,ql,nS,mG,mH,mI,mJ,mK,nT,mM,mN,oZ,wN,wS,o0,wK,az,fy,aK]
def X4(a0:aj)(o:ae×aj):Prop:=(fun _ o=>og 3 o.1=true∧aA o.2=true) a0 o∧∃n:Nat,∀{R:Type}(k:Kt R),aG eg iY n dk [.bG] [false] true [.cell 2 27] [27] [.d .cur a0] k=k [.d .node o.1,.d .cur o.2]
theorem aaT(a0:aj)(hg:aA a0=true):∃o:ae×aj,(fun _ o=>og 3 o.1=true∧aA o.2=true) a0 o∧∃n:Nat,∀{R:Type}(k:Kt R),aG eg iY n dk [.bG] [false] true [.cell 2 27] [27] [.d .cur a0] k=k [.d .node o.1,.d .cur o.2]:=by
 have t0:=kY hg
 have g0:(Cc a0 (3:Int))=true:=x9 hg
 cases e0:(decide (((ae.kids ((aY a0).1)).length:Int)>(0:Int)))
 rotate_left
 have g1:((fun c _=>aA c) ((aY a0).2) (2:Int))=true:=by first | exact mF hg | exact bc _ _ hg | exact cc _ _ hg
 cases e1:(!((kt a0).1))
 rotate_left
 have g2:((fun c _=>aA c) ((kt a0).2) ((ae.kids ((aY a0).1)).length:Int))=true:=by first | exact mF hg | exact bc _ _ g1 | exact cc _ _ g1
 have g3:((decide ((0:Int)≤((dK a0).1)))&&(decide (((dK a0).1)<((ae.kids ((aY a0).1)).length:Int))))=true:=gU g2 e0
 have t1:=jy t0 g2 e0
 cases e2:(decide (((ae.kids (pc a0)).length:Int)>(0:Int)))
 rotate_left
 have g4:((fun c _=>aA c) ((dK a0).2) (2:Int))=true:=by first | exact mF hg | exact bc _ _ g2 | exact cc _ _ g2
 cases e3:(!((ku a0).1))
 rotate_left
 have g5:((fun c _=>aA c) ((ku a0).2) ((ae.kids (pc a0)).length:Int))=true:=by first | exact mF hg | exact bc _ _ g4 | exact cc _ _ g4
 have g6:((decide ((0:Int)≤((fh a0).1)))&&(decide (((fh a0).1)<((ae.kids (pc a0)).length:Int))))=true:=gU g5 e2
 have t2:=jy t1 g5 e2
 cases e4:(decide (((ae.kids (qm a0)).length:Int)>(0:Int)))
 rotate_left
 have g7:((fun c _=>aA c) ((fh a0).2) (2:Int))=true:=by first | exact mF hg | exact bc _ _ g5 | exact cc _ _ g5
 cases e5:(!((kx a0).1))
 rotate_left
 have g8:((fun c _=>aA c) ((kx a0).2) ((ae.kids (qm a0)).length:Int))=true:=by first | exact mF hg | exact bc _ _ g7 | exact cc _ _ g7
 have g9:((decide ((0:Int)≤((kK a0).1)))&&(decide (((kK a0).1)<((ae.kids (qm a0)).length:Int))))=true:=gU g8 e4
 have t3:=jy t2 g8 e4
 ·refine Exists.elim (Qc a0 ((aY a0).1) ((kK a0).2) (Int.toNat ((dK a0).1)) (Int.toNat ((fh a0).1)) (Int.toNat ((kK a0).1)) false (by first | exact mF hg | exact bc _ _ g8 | exact cc _ _ g8) t0 t1 t2 t3) fun o ho=>⟨o,ho.1,0+4,fun {R} k=> ?_⟩
  rw[nU]
  simp only[hg,e0,e1,e2,e3,e4,e5,g0,g1,g2,g3,g4,g5,g6,g7,g8,g9,cond_true,cond_false]
  exact ho.2 _ k
 ·refine Exists.elim (DX a0 ((aY a0).1) ((aY a0).2) false (by first | exact mF hg | exact bc _ _ hg | exact cc _ _ hg) t0) fun o ho=>⟨o,ho.1,0+4,fun {R} k=> ?_⟩
  rw[nU]
  simp only[hg,e0,g0,cond_true,cond_false]
  exact ho.2 _ k
 ·refine Exists.elim (DX a0 ((aY a0).1) ((kt a0).2) (!((kt a0).1)) (by first | exact mF hg | exact bc _ _ g1 | exact cc _ _ g1) t0) fun o ho=>⟨o,ho.1,0+4,fun {R} k=> ?_⟩
  rw[nU]
  simp only[hg,e0,e1,g0,g1,cond_true,cond_false]
  exact ho.2 _ k
 ·refine Exists.elim (DW a0 ((aY a0).1) ((dK a0).2) (Int.toNat ((dK a0).1)) false (by first | exact mF hg | exact bc _ _ g2 | exact cc _ _ g2) t0 t1) fun o ho=>⟨o,ho.1,0+4,fun {R} k=> ?_⟩
  rw[nU]
  simp only[hg,e0,e1,e2,g0,g1,g2,g3,cond_true,cond_false]
  exact ho.2 _ k
 ·refine Exists.elim (DW a0 ((aY a0).1) ((ku a0).2) (Int.toNat ((dK a0).1)) (!((ku a0).1)) (by first | exact mF hg | exact bc _ _ g4 | exact cc _ _ g4) t0 t1) fun o ho=>⟨o,ho.1,0+4,fun {R} k=> ?_⟩
  rw[nU]
  simp only[hg,e0,e1,e2,e3,g0,g1,g2,g3,g4,cond_true,cond_false]
  exact ho.2 _ k
 ·refine Exists.elim (DV a0 ((aY a0).1) ((fh a0).2) (Int.toNat ((dK a0).1)) (Int.toNat ((fh a0).1)) false (by first | exact mF hg | exact bc _ _ g5 | exact cc _ _ g5) t0 t1 t2) fun o ho=>⟨o,ho.1,0+4,fun {R} k=> ?_⟩
  rw[nU]
  simp only[hg,e0,e1,e2,e3,e4,g0,g1,g2,g3,g4,g5,g6,cond_true,cond_false]
  exact ho.2 _ k
 ·refine Exists.elim (DV a0 ((aY a0).1) ((kx a0).2) (Int.toNat ((dK a0).1)) (Int.toNat ((fh a0).1)) (!((kx a0).1)) (by first | exact mF hg | exact bc _ _ g7 | exact cc _ _ g7) t0 t1 t2) fun o ho=>⟨o,ho.1,0+4,fun {R} k=> ?_⟩
  rw[nU]
  simp only[hg,e0,e1,e2,e3,e4,e5,g0,g1,g2,g3,g4,g5,g6,g7,cond_true,cond_false]
  exact ho.2 _ k
theorem Qd(a0:aj):Nonempty {o:ae×aj // aA a0=true→X4 a0 o}:=by
 by_cases hg:aA a0=true
 ·obtain⟨o,ho⟩:=aaT a0 hg
  exact⟨⟨o,fun _=>ho⟩⟩
 ·exact⟨⟨((zero .node),(zero .cur)),fun h=>absurd h hg⟩⟩
noncomputable def cz(a0:aj):ae×aj:=(Classical.choice (Qd a0)).val
theorem Qe(a0:aj)(hg:aA a0=true):X4 a0 (cz a0):=(Classical.choice (Qd a0)).property hg
theorem DY(a0:aj)(hg:aA a0=true):(fun _ o=>og 3 o.1=true∧aA o.2=true) a0 (cz a0):=(Qe a0 hg).1
theorem Qf(a0:aj)(hg:aA a0=true):∃keep rounds,∀{R:Type}(k:Kt R),aG eg keep rounds dk [.bG] [false] true [.cell 2 27] [27] [.d .cur a0] k=k [.d .node ((cz a0).1),.d .cur ((cz a0).2)]:=by
 obtain⟨n,hn⟩:=(Qe a0 hg).2
 exact⟨iY,n,hn⟩
noncomputable def q14:Qt
 | [.d .cur a0]=>some ((aA a0),[.d .node ((cz a0).1),.d .cur ((cz a0).2)])
 |_=>none
noncomputable def s14:Gm.Spec:=Gm.Spec.of [.bG] [false] true q14
theorem aaU:Gm.Good Tryz.prog (14,s14):=by
 have hl:∀x∈[(15,SM),(18,VB),(32,Cb),(38,s38),(39,Ut)],Gm.Good Tryz.prog x:=bt.2 ⟨xS,bt.2 ⟨BU,bt.2 ⟨nP,bt.2 ⟨FO,bt.2 ⟨BD,gw⟩⟩⟩⟩⟩
 refine⟨⟨aD (aL.env hl) (bQ.cq hl) Tryz.func14 (by kernel_rfl:Tryz.f14.body=some dk) [27] (by kernel_rfl) ?_,_,Tryz.func14,by kernel_rfl,of_decide_eq_true (by kernel_rfl)⟩,Gm.Spec.ax _ _ _ _⟩
 intro ds outs h
 unfold q14 at h
 split at h
 ·simp only[Option.some.injEq,Prod.mk.injEq] at h;obtain⟨hg,h⟩:=h;cases h;exact Qf _ hg
 ·cases h
noncomputable def q42:Qt
 | [.d .node a0]=>some ((B8 a0),[.d (.sl (.sl .str)) (aN a0)])
 |_=>none
noncomputable def aaV:List Dt→Nat
 | [.d .node a0]=>ao a0
 |_=>0
noncomputable def afz(N:Nat):Gm.Spec:=Gm.Spec.of [.ro] [false] true (qA aaV N q42)
noncomputable def An(y0:Int)(y1:BA)(y2:Int)(y3:Int)(y4:Int)(y5:BA)(y6:List BA)(y7:List ae)(y8:List (List BA))(y9:List (List BA)):St:=⟨[(1,.c (.one (.pt 1 0))),(3,.c (.one (.h 576 0 0 []))),(4,.c (.one (.v (.int .i64 y0)))),(5,.c (.one (.v (.string y1)))),(6,.c (.one (.h 2496 0 0 []))),(7,.c (.one (.v (.int .i64 y2))))],[(1,⟨.node,[.v (.int .i64 y3),.v (.int .i64 y4),.v (.string y5),.ro .str y6,.ro .node y7]⟩)],[(576,.live ⟨(.sl .str),.deep,0,[],y8⟩),(2496,.live ⟨(.sl .str),.deep,0,[],y9⟩)]⟩
noncomputable def Qg(y0:Int)(y1:BA)(y2:Int)(y3:Bool)(y4:Int)(y5:Int)(y6:BA)(y7:List BA)(y8:List ae)(y9:List (List BA))(iu:List (List BA)):St:=⟨[(1,.c (.one (.pt 1 0))),(3,.c (.one (.h 576 0 0 []))),(4,.c (.one (.v (.int .i64 y0)))),(5,.c (.one (.v (.string y1)))),(6,.c (.one (.h 2496 0 0 []))),(7,.c (.one (.v (.int .i64 y2)))),(43,.c (.one (.v (.bool y3))))],[(1,⟨.node,[.v (.int .i64 y4),.v (.int .i64 y5),.v (.string y6),.ro .str y7,.ro .node y8]⟩)],[(576,.live ⟨(.sl .str),.deep,0,[],y9⟩),(2496,.live ⟨(.sl .str),.deep,0,[],iu⟩)]⟩
noncomputable def ye(y0:Int)(y1:Int)(y2:Int)(y3:BA)(y4:List BA)(y5:List ae)(y6:List (List BA)):St:=⟨[(1,.c (.one (.pt 1 0))),(3,.c (.one (.h 576 0 0 []))),(4,.c (.one (.v (.int .i64 y0))))],[(1,⟨.node,[.v (.int .i64 y1),.v (.int .i64 y2),.v (.string y3),.ro .str y4,.ro .node y5]⟩)],[(576,.live ⟨(.sl .str),.deep,0,[],y6⟩)]⟩
noncomputable def Ih(y0:Int)(y1:Bool)(y2:Int)(y3:Int)(y4:BA)(y5:List BA)(y6:List ae)(y7:List (List BA)):St:=⟨[(1,.c (.one (.pt 1 0))),(3,.c (.one (.h 576 0 0 []))),(4,.c (.one (.v (.int .i64 y0)))),(14,.c (.one (.v (.bool y1))))],[(1,⟨.node,[.v (.int .i64 y2),.v (.int .i64 y3),.v (.string y4),.ro .str y5,.ro .node y6]⟩)],[(576,.live ⟨(.sl .str),.deep,0,[],y7⟩)]⟩
noncomputable def tA:Code:=(Tryz.f42.body).getD .skip
def uQ:Nat→Kp:=fa [⟨[1],[],[],[]⟩,⟨[1,3],[],[],[]⟩,⟨[1,3,4],[],[],[]⟩,⟨[1,3,4,14],[],[],[]⟩,⟨[1,3,4],[],[],[]⟩,⟨[1,3,4,5],[],[],[]⟩,⟨[1,3,4,5,28],[],[],[]⟩,⟨[1,3,4,5],[],[],[]⟩,⟨[1,3,4,5,6],[],[],[]⟩,⟨[1,3,4,5,6,7],[],[],[]⟩,⟨[1,3,4,5,6,7,43],[],[],[]⟩,⟨[1,3,4,5,6,7],[],[],[]⟩,⟨[1,3,4,5,6,7],[],[],[]⟩,⟨[2],[],[],[]⟩]
noncomputable def qQ(N:Nat):Env:=bQ.env [(29,UH),(42,afz N)]
noncomputable def nt{R:Type}(N:Nat)(n:Nat)(x0:Int→Bool→(List (List BA))→Option R)(wA:Int)(wK:BA)(wD:Int)(wE:Int)(wF:BA)(wC:List BA)(wB:List ae)(wJ:List (List BA)):Nat→Int→(List (List BA))→Option R
  |0,_,_=>none
  |m+1,wI,wG=>
    (cond (decide (wI<(wJ.length:Int)))
   (cond ((decide ((0:Int)≤wI))&&(decide (wI<(wJ.length:Int))))
    (cond (Nat.ble (1+(al (t:=(.sl .str)) wJ (Int.toNat wI)).length) bT)
     (cond (Nat.ble (wG.length+1) bT)
      (nt N n x0 wA wK wD wE wF wC wB wJ m (IntKind.wrap .i64 (wI+(1:Int))) (wG++([(([wK]:List BA)++(al (t:=(.sl .str)) wJ (Int.toNat wI)))]:List (List BA))))
      none)
     none)
    none)
   (x0 wI (decide (wI<(wJ.length:Int))) wG))
theorem VL{R:Type}(N:Nat)(n:Nat)(k':Kx R)(wA:Int)(wK:BA)(wI:Int)(wD:Int)(wE:Int)(wF:BA)(wC:List BA)(wB:List ae)(wG:List (List BA))(wJ:List (List BA)):ev (qQ N) uQ n (bC [1,1,0,1,0,0,1,0,0,1,1,1,1,0,0] tA) (An wA wK wI wD wE wF wC wB wG wJ) k'=
 (cond (decide (wI<(wJ.length:Int)))
 (cond ((decide ((0:Int)≤wI))&&(decide (wI<(wJ.length:Int))))
 (cond (Nat.ble (1+(al (t:=(.sl .str)) wJ (Int.toNat wI)).length) bT)
 (cond (Nat.ble (wG.length+1) bT)
 (k' .normal (An wA wK (IntKind.wrap .i64 (wI+(1:Int))) wD wE wF wC wB (wG++([(([wK]:List BA)++(al (t:=(.sl .str)) wJ (Int.toNat wI)))]:List (List BA))) wJ))
 none)
 none)
 none)
 (k' (.exit 2) (Qg wA wK wI (decide (wI<(wJ.length:Int))) wD wE wF wC wB wG wJ))):=by kernel_rfl
theorem Qh{R:Type}(N:Nat)(n:Nat)(k':Kx R)(wA:Int)(wK:BA)(wD:Int)(wE:Int)(wF:BA)(wC:List BA)(wB:List ae)(wJ:List (List BA)):∀(m:Nat)(wI:Int)(wG:List (List BA)),iter (fun st k=>ev (qQ N) uQ n (bC [1,1,0,1,0,0,1,0,0,1,1,1,1,0,0] tA) st k) m (An wA wK wI wD wE wF wC wB wG wJ) k'=nt N n (fun(wL:Int)(wM:Bool)(wH:List (List BA))=>k' (.exit 2) (Qg wA wK wL wM wD wE wF wC wB wH wJ)) wA wK wD wE wF wC wB wJ m wI wG:=by
 intro m;induction m with
 |zero=>intros;rfl
 |succ m ih=>
  intro wI wG
  simp only[iter]
  rw[VL]
  simp only[ih,nt]
noncomputable def Ii{R:Type}(N:Nat)(n:Nat)(k':Kx R):Kx R:=(b8 2 (b8 1 (eP (qQ N) uQ n (bC [1,1,0,1,0,0,1,1] tA) k')))
theorem Qi{R:Type}(N:Nat)(n:Nat)(k':Kx R)(wA:Int)(wK:BA)(wD:Int)(wE:Int)(wF:BA)(wC:List BA)(wB:List ae)(wJ:List (List BA))(wL:Int)(wM:Bool)(wH:List (List BA)):Ii N n k' (.exit 2) (Qg wA wK wL wM wD wE wF wC wB wH wJ)=
 (k' .normal (ye (IntKind.wrap .i64 (wA+(1:Int))) wD wE wF wC wB wH)):=by kernel_rfl
noncomputable def sH{R:Type}(N:Nat)(n:Nat)(x0:Int→Bool→(List (List BA))→Option R)(wD:Int)(wE:Int)(wF:BA)(wC:List BA)(wB:List ae):Nat→Int→(List (List BA))→Option R
  |0,_,_=>none
  |m+1,wA,wG=>
    (cond (decide (wA<(wB.length:Int)))
   (cond (gj wA)
    (cond (wD==(5:Int))
     (cond (decide (wA<(wC.length:Int)))
      (cond ((decide ((0:Int)≤wA))&&(decide (wA<(wC.length:Int))))
       (cond ((decide ((0:Int)≤wA))&&(decide (wA<(wB.length:Int))))
        (cond ((B8 (eN (al (t:= .node) wB (Int.toNat wA))))&&(Nat.blt (ao (eN (al (t:= .node) wB (Int.toNat wA)))) N))
         (nt N n (fun(wL:Int)(wM:Bool)(wH:List (List BA))=>
          (sH N n x0 wD wE wF wC wB m (IntKind.wrap .i64 (wA+(1:Int))) wH)) wA (al (t:= .str) wC (Int.toNat wA)) wD wE wF wC wB (aN (eN (al (t:= .node) wB (Int.toNat wA)))) n (0:Int) wG)
         none)
        none)
       none)
      (cond ((decide ((0:Int)≤wA))&&(decide (wA<(wB.length:Int))))
       (cond ((B8 (eN (al (t:= .node) wB (Int.toNat wA))))&&(Nat.blt (ao (eN (al (t:= .node) wB (Int.toNat wA)))) N))
        (nt N n (fun(wL:Int)(wM:Bool)(wH:List (List BA))=>
         (sH N n x0 wD wE wF wC wB m (IntKind.wrap .i64 (wA+(1:Int))) wH)) wA (bw wA) wD wE wF wC wB (aN (eN (al (t:= .node) wB (Int.toNat wA)))) n (0:Int) wG)
        none)
       none))
     (cond ((decide ((0:Int)≤wA))&&(decide (wA<(wB.length:Int))))
      (cond ((B8 (eN (al (t:= .node) wB (Int.toNat wA))))&&(Nat.blt (ao (eN (al (t:= .node) wB (Int.toNat wA)))) N))
       (nt N n (fun(wL:Int)(wM:Bool)(wH:List (List BA))=>
        (sH N n x0 wD wE wF wC wB m (IntKind.wrap .i64 (wA+(1:Int))) wH)) wA (bw wA) wD wE wF wC wB (aN (eN (al (t:= .node) wB (Int.toNat wA)))) n (0:Int) wG)
       none)
      none))
    none)
   (x0 wA (decide (wA<(wB.length:Int))) wG))
theorem VM{R:Type}(N:Nat)(n:Nat)(k':Kx R)(wA:Int)(wD:Int)(wE:Int)(wF:BA)(wC:List BA)(wB:List ae)(wG:List (List BA)):ev (qQ N) uQ n (bC [1,1,0,1,0,0] tA) (ye wA wD wE wF wC wB wG) k'=
 (cond (decide (wA<(wB.length:Int)))
 (cond (gj wA)
 (cond (wD==(5:Int))
 (cond (decide (wA<(wC.length:Int)))
 (cond ((decide ((0:Int)≤wA))&&(decide (wA<(wC.length:Int))))
 (cond ((decide ((0:Int)≤wA))&&(decide (wA<(wB.length:Int))))
 (cond ((B8 (eN (al (t:= .node) wB (Int.toNat wA))))&&(Nat.blt (ao (eN (al (t:= .node) wB (Int.toNat wA)))) N))
 (nt N n (fun(wL:Int)(wM:Bool)(wH:List (List BA))=>
 (k' .normal (ye (IntKind.wrap .i64 (wA+(1:Int))) wD wE wF wC wB wH))) wA (al (t:= .str) wC (Int.toNat wA)) wD wE wF wC wB (aN (eN (al (t:= .node) wB (Int.toNat wA)))) n (0:Int) wG)
 none)
 none)
 none)
 (cond ((decide ((0:Int)≤wA))&&(decide (wA<(wB.length:Int))))
 (cond ((B8 (eN (al (t:= .node) wB (Int.toNat wA))))&&(Nat.blt (ao (eN (al (t:= .node) wB (Int.toNat wA)))) N))
 (nt N n (fun(wL:Int)(wM:Bool)(wH:List (List BA))=>
 (k' .normal (ye (IntKind.wrap .i64 (wA+(1:Int))) wD wE wF wC wB wH))) wA (bw wA) wD wE wF wC wB (aN (eN (al (t:= .node) wB (Int.toNat wA)))) n (0:Int) wG)
 none)
 none))
 (cond ((decide ((0:Int)≤wA))&&(decide (wA<(wB.length:Int))))
 (cond ((B8 (eN (al (t:= .node) wB (Int.toNat wA))))&&(Nat.blt (ao (eN (al (t:= .node) wB (Int.toNat wA)))) N))
 (nt N n (fun(wL:Int)(wM:Bool)(wH:List (List BA))=>
 (k' .normal (ye (IntKind.wrap .i64 (wA+(1:Int))) wD wE wF wC wB wH))) wA (bw wA) wD wE wF wC wB (aN (eN (al (t:= .node) wB (Int.toNat wA)))) n (0:Int) wG)
 none)
 none))
 none)
 (k' (.exit 0) (Ih wA (decide (wA<(wB.length:Int))) wD wE wF wC wB wG))):=by
  refine Eq.trans (b:=(cond (decide (wA<(wB.length:Int)))
  (cond (gj wA)
   (cond (wD==(5:Int))
    (cond (decide (wA<(wC.length:Int)))
     (cond ((decide ((0:Int)≤wA))&&(decide (wA<(wC.length:Int))))
      (cond ((decide ((0:Int)≤wA))&&(decide (wA<(wB.length:Int))))
       (cond ((B8 (eN (al (t:= .node) wB (Int.toNat wA))))&&(Nat.blt (ao (eN (al (t:= .node) wB (Int.toNat wA)))) N))
        (iter (fun st k=>ev (qQ N) uQ n (bC [1,1,0,1,0,0,1,0,0,1,1,1,1,0,0] tA) st k) n (An wA (al (t:= .str) wC (Int.toNat wA)) (0:Int) wD wE wF wC wB wG (aN (eN (al (t:= .node) wB (Int.toNat wA))))) (Ii N n k'))
        none)
       none)
      none)
     (cond ((decide ((0:Int)≤wA))&&(decide (wA<(wB.length:Int))))
      (cond ((B8 (eN (al (t:= .node) wB (Int.toNat wA))))&&(Nat.blt (ao (eN (al (t:= .node) wB (Int.toNat wA)))) N))
       (iter (fun st k=>ev (qQ N) uQ n (bC [1,1,0,1,0,0,1,0,0,1,1,1,1,0,0] tA) st k) n (An wA (bw wA) (0:Int) wD wE wF wC wB wG (aN (eN (al (t:= .node) wB (Int.toNat wA))))) (Ii N n k'))
       none)
      none))
    (cond ((decide ((0:Int)≤wA))&&(decide (wA<(wB.length:Int))))
     (cond ((B8 (eN (al (t:= .node) wB (Int.toNat wA))))&&(Nat.blt (ao (eN (al (t:= .node) wB (Int.toNat wA)))) N))
      (iter (fun st k=>ev (qQ N) uQ n (bC [1,1,0,1,0,0,1,0,0,1,1,1,1,0,0] tA) st k) n (An wA (bw wA) (0:Int) wD wE wF wC wB wG (aN (eN (al (t:= .node) wB (Int.toNat wA))))) (Ii N n k'))
      none)
     none))
   none)
  (k' (.exit 0) (Ih wA (decide (wA<(wB.length:Int))) wD wE wF wC wB wG)))) (by kernel_rfl) ?_
  simp only[Qh,Qi]
theorem Qj{R:Type}(N:Nat)(n:Nat)(k':Kx R)(wD:Int)(wE:Int)(wF:BA)(wC:List BA)(wB:List ae):∀(m:Nat)(wA:Int)(wG:List (List BA)),iter (fun st k=>ev (qQ N) uQ n (bC [1,1,0,1,0,0] tA) st k) m (ye wA wD wE wF wC wB wG) k'=sH N n (fun(wN:Int)(wO:Bool)(wH:List (List BA))=>k' (.exit 0) (Ih wN wO wD wE wF wC wB wH)) wD wE wF wC wB m wA wG:=by
 intro m;induction m with
 |zero=>intros;rfl
 |succ m ih=>
  intro wA wG
  simp only[iter]
  rw[VM]
  simp only[ih,sH]
noncomputable def X5{R:Type}(N:Nat)(n:Nat)(k':Kx R):Kx R:=(b8 0 (eP (qQ N) uQ n (bC [1,1,1] tA) k'))
theorem Qk{R:Type}(N:Nat)(n:Nat)(k:Kt R)(a0:ae)(wD:Int)(wE:Int)(wF:BA)(wC:List BA)(wB:List ae)(wN:Int)(wO:Bool)(wH:List (List BA)):X5 N n (aI (qQ N) [.ro] [false] true [.tmp 2] [66] [.d .node a0] k) (.exit 0) (Ih wN wO wD wE wF wC wB wH)=
 (k [.d (.sl (.sl .str)) wH]):=by kernel_rfl
theorem VN{R:Type}(N:Nat)(n:Nat)(k:Kt R)(a0:ae):aG (qQ N) uQ n tA [.ro] [false] true [.tmp 2] [66] [.d .node a0] k=
 (sH N n (fun(wN:Int)(wO:Bool)(wH:List (List BA))=>
 (k [.d (.sl (.sl .str)) wH])) (ae.kind a0) (ae.n a0) (ae.s a0) (ae.keys a0) (ae.kids a0) n (0:Int) [([]:List BA)]):=by
 refine Eq.trans (b:=(iter (fun st k=>ev (qQ N) uQ n (bC [1,1,0,1,0,0] tA) st k) n (ye (0:Int) (ae.kind a0) (ae.n a0) (ae.s a0) (ae.keys a0) (ae.kids a0) ([([]:List BA)]:List (List BA))) (X5 N n (aI (qQ N) [.ro] [false] true [.tmp 2] [66] [.d .node a0] k)))) (by kernel_rfl) ?_
 simp only[Qj,Qk]
theorem Ql(N:Nat)(a0:ae)(hg:B8 a0=true)(hm:aaV [.d .node a0]=N):∃keep rounds,∀{R:Type}(k:Kt R),aG (qQ N) keep rounds tA [.ro] [false] true [.tmp 2] [66] [.d .node a0] k=k [.d (.sl (.sl .str)) (aN a0)]:=by
 have hm:ao a0=N:=hm
 subst hm
 have fP:=hg
 simp only[B8,Bool.and_eq_true] at hg
 obtain⟨hg,Eu⟩:=hg
 have Eu:=iD Eu
 rw[bf] at hg
 simp only[Bool.and_eq_true] at hg
 obtain⟨_,_,_,lQ,lg⟩:=hg
 have p9:=aR lQ
 have ot:=aR lg
 have xo:a0.kids.length+1≤ao a0:=by
  rw[bV]
  have:∀l:List ae,l.length≤p5 ao l:=fun l=>by
   induction l with
   |nil=>exact Nat.zero_le _
   |cons y r ih=>
    have e1:p5 ao (y::r)=ao y+p5 ao r:=by simp[p5]
    have:=bV y
    rw[List.length_cons];omega
  have:=this a0.kids
  omega
 refine⟨uQ,ao a0+1,fun {R} k=> ?_⟩
 rw[VN]
 show _=k [.d (.sl (.sl .str)) (aN a0)]
 have hlen:=oX a0
 rw[iO,List.length_cons] at hlen
 have inner:∀(x:ae)(j:Nat)(part:BA)(out:List (List BA))(fin:Int→Bool→List (List BA)→Option R),x∈a0.kids→out.length+(aN x).length≤ao a0→
   nt (ao a0) (ao a0+1) fin (j:Int) part a0.kind a0.n a0.s a0.keys a0.kids (aN x) (ao a0+1) (0:Int) out=fin ((aN x).length:Int) false (out++(aN x).map fun p=>part::p):=by
  intro x j part out fin hx hB
  have hxl:=bN hx
  have hxn:=oX x
  refine Eq.trans (oR (xs:=aN x) (F:=fun m j' out=>nt (ao a0) (ao a0+1) fin (j:Int) part a0.kind a0.n a0.s a0.keys a0.kids (aN x) m (j':Int) out) (f:=fun out p=>out++[part::p]) (good:=fun out=>fin ((aN x).length:Int) false out) (fun j' o=>o.length≤out.length+j')
   (fun j' o p hp hi=>by simp only[List.length_append,List.length_cons,List.length_nil];omega) (fun m j' o p hp hi=> ?_) (fun m o hi=>by simp only[nt,iX,cond_false]) (aN x).length 0 (ao a0+1) out (by omega) (by omega) (by omega)) ?_
  ·obtain⟨h1,h0,hw,ht⟩:=idx (aP hp) (by omega)
   have hj:=aP hp
   have anS:=tW x p (List.mem_of_getElem? hp)
   have ji:Nat.ble (o.length+1) bT=true:=Nat.ble_eq_true_of_le (by have:(bT:Nat)=4294967296:=rfl;omega)
   have afA:Nat.ble (1+p.length) bT=true:=Nat.ble_eq_true_of_le (by have:(bT:Nat)=4294967296:=rfl;omega)
   simp only[nt,h1,h0,hw,ht,bm (t:= .sl .str) hp,Bool.and_self,cond_true,ji,afA]
   rfl
  ·rw[List.drop_zero]
   congr 1
   have:∀(l:List (List BA))(o:List (List BA)),l.foldl (fun out p=>out++[part::p]) o=o++l.map fun p=>part::p:=by
    intro l
    induction l with
    |nil=>intro o;simp
    |cons y r ih=>intro o;rw[List.foldl_cons,ih];simp
   exact this _ _
 refine Eq.trans (My (kids:=a0.kids) (kind:=a0.kind) (keys:=a0.keys) (B:=ao a0) (F:=fun m j out=>sH (ao a0) (ao a0+1) _ a0.kind a0.n a0.s a0.keys a0.kids m (j:Int) out) (good:=fun out=>k [.d (.sl (.sl .str)) out])
  (fun m j out x hx hB=> ?_) (fun m out=>by simp only[sH,iX,cond_false]) a0.kids.length 0 (ao a0+1) [[]] (by omega) (by omega) (by rw[List.drop_zero,List.length_cons,List.length_nil];omega)) ?_
 ·obtain⟨h1,h0,hw,ht⟩:=idx (aP hx) (by omega)
  have hj:=aP hx
  have DZ:=List.mem_of_getElem? hx
  have hb:Nat.blt (ao x) (ao a0)=true:=by
   have:=bN (x:=a0) DZ
   rw[Nat.blt_eq];exact this
  have hgx:=TV fP DZ
  have YZ:gj (j:Int)=true:=lG (by omega) (by omega)
  simp only[sH,h1,h0,hw,ht,YZ,bm (t:= .node) hx,Bool.and_self,cond_true,az,aK,hgx,hb]
  unfold xm
  cases a0.kind==(5:Int)
  ·simp only[cond_false];exact inner x j _ out _ DZ hB
  by_cases hl:(j:Int)<(a0.keys.length:Int)
  ·simp only[decide_eq_true hl,Bool.and_self,cond_true];exact inner x j _ out _ DZ hB
  ·simp only[decide_eq_false hl,cond_true,cond_false];exact inner x j _ out _ DZ hB
 ·rw[List.drop_zero,iO];rfl
noncomputable def s42:Gm.Spec:=Gm.Spec.of [.ro] [false] true q42
theorem aaW:Gm.Good Tryz.prog (42,s42):=by
 refine⟨⟨gJ aaV fun N hr=> ?_,_,Tryz.func42,by kernel_rfl,of_decide_eq_true (by kernel_rfl)⟩,Gm.Spec.ax _ _ _ _⟩
 have hl:∀x∈[(29,UH),(42,afz N)],Gm.Good Tryz.prog x:=bt.2 ⟨BH,bt.2 ⟨⟨⟨hr,_,Tryz.func42,by kernel_rfl,of_decide_eq_true (by kernel_rfl)⟩,Gm.Spec.ax _ _ _ _⟩,gw⟩⟩
 intro R
 refine aD (E:=qQ N) (aL.env hl) (bQ.cq hl) Tryz.func42 (by kernel_rfl:Tryz.f42.body=some tA) [66] (by kernel_rfl) ?_
 intro ds outs h
 obtain⟨h,hm⟩:=dg h
 unfold q42 at h
 split at h
 ·simp only[Option.some.injEq,Prod.mk.injEq] at h;obtain⟨hg,h⟩:=h;cases h;exact Ql N _ hg hm
 ·cases h
noncomputable def Qm:Code:=(Tryz.f17.body).getD .skip
def VO:Nat→Kp:=fa [⟨[0,3],[],[],[]⟩,⟨[0,5],[],[],[]⟩,⟨[0,6],[],[],[]⟩,⟨[0,6,19],[],[],[]⟩,⟨[0,6,19,20],[],[],[]⟩,⟨[0,4],[],[],[]⟩,⟨[0,6,27],[],[],[]⟩,⟨[0,4],[],[],[]⟩,⟨[0,4],[],[],[]⟩]
noncomputable def VP:Env:=bQ.env [(32,Cb),(39,Ut),(42,s42),(43,s43)]
theorem BV{R:Type}(n:Nat)(k:Kt R)(a0:aj)(a1:ae):aG VP VO n Qm [.bG,.ro] [false] true [.tmp 4] [24] [.d .cur a0,.d .node a1] k=
 (cond (B8 (eN a1))
 (cond ((fun c _=>aA c) a0 ((aN (eN a1)).length:Int))
 (cond ((decide ((0:Int)≤((af a0 ((aN (eN a1)).length:Int)).1)))&&(decide (((af a0 ((aN (eN a1)).length:Int)).1)<((aN (eN a1)).length:Int))))
 (cond (Nat.ble (0+(al (t:=(.sl .str)) (aN (eN a1)) (Int.toNat ((af a0 ((aN (eN a1)).length:Int)).1))).length) bT)
 (cond ((fun c _=>aA c) ((af a0 ((aN (eN a1)).length:Int)).2) (5:Int))
 (cond (((af ((af a0 ((aN (eN a1)).length:Int)).2) (5:Int)).1)==(0:Int))
 (cond (aA ((af ((af a0 ((aN (eN a1)).length:Int)).2) (5:Int)).2))
 (cond (Nat.ble ((([]:List BA)++(al (t:=(.sl .str)) (aN (eN a1)) (Int.toNat ((af a0 ((aN (eN a1)).length:Int)).1)))).length+1) bT)
 (k [.d (.sl .str) ((([]:List BA)++(al (t:=(.sl .str)) (aN (eN a1)) (Int.toNat ((af a0 ((aN (eN a1)).length:Int)).1))))++([((iI ((af ((af a0 ((aN (eN a1)).length:Int)).2) (5:Int)).2)).1)]:List BA)),.d .cur ((iI ((af ((af a0 ((aN (eN a1)).length:Int)).2) (5:Int)).2)).2)])
 none)
 none)
 (cond (((af ((af a0 ((aN (eN a1)).length:Int)).2) (5:Int)).1)==(1:Int))
 (cond (eQ ((af ((af a0 ((aN (eN a1)).length:Int)).2) (5:Int)).2) ([(bs [48]),(bs [49]),(bs [45]),(bs [48,48]),(bs [57])]:List BA))
 (cond (Nat.ble ((([]:List BA)++(al (t:=(.sl .str)) (aN (eN a1)) (Int.toNat ((af a0 ((aN (eN a1)).length:Int)).1)))).length+1) bT)
 (k [.d (.sl .str) ((([]:List BA)++(al (t:=(.sl .str)) (aN (eN a1)) (Int.toNat ((af a0 ((aN (eN a1)).length:Int)).1))))++([((bI ((af ((af a0 ((aN (eN a1)).length:Int)).2) (5:Int)).2) ([(bs [48]),(bs [49]),(bs [45]),(bs [48,48]),(bs [57])]:List BA)).1)]:List BA)),.d .cur ((bI ((af ((af a0 ((aN (eN a1)).length:Int)).2) (5:Int)).2) ([(bs [48]),(bs [49]),(bs [45]),(bs [48,48]),(bs [57])]:List BA)).2)])
 none)
 none)
 (k [.d (.sl .str) (([]:List BA)++(al (t:=(.sl .str)) (aN (eN a1)) (Int.toNat ((af a0 ((aN (eN a1)).length:Int)).1)))),.d .cur ((af ((af a0 ((aN (eN a1)).length:Int)).2) (5:Int)).2)])))
 none)
 none)
 none)
 none)
 none):=by kernel_rfl
def X6(a0:aj)(a1:ae)(o:List BA×aj):Prop:=(fun _ t o=>sm t o.1∧aA o.2=true) a0 a1 o∧∃n:Nat,∀{R:Type}(k:Kt R),aG VP VO n Qm [.bG,.ro] [false] true [.tmp 4] [24] [.d .cur a0,.d .node a1] k=k [.d (.sl .str) o.1,.d .cur o.2]
theorem aaX(a0:aj)(a1:ae)(hg:(fun(c:aj)(t:ae)=>aA c&&pT t) a0 a1=true):∃o:List BA×aj,(fun _ t o=>sm t o.1∧aA o.2=true) a0 a1 o∧∃n:Nat,∀{R:Type}(k:Kt R),aG VP VO n Qm [.bG,.ro] [false] true [.tmp 4] [24] [.d .cur a0,.d .node a1] k=k [.d (.sl .str) o.1,.d .cur o.2]:=by
 obtain⟨hc,ht⟩:=Bool.and_eq_true_iff.1 (show (aA a0&&pT a1)=true from hg)
 have hzz:=(kW.1 ht).2
 have hp:=Ud ht
 obtain⟨b0,b1,g1⟩:=cu a0 ((aN a1).length:Int) hc
 have b1:=b1 (DA a1)
 have hix:=Ms b0 b1
 have hw:=Ue ht (rN (t:= .sl .str) b0 b1)
 have hn:=qz ByteArray.size (al (t:= .sl .str) (aN a1) (Int.toNat (af a0 ((aN a1).length:Int)).1))
 have l1:Nat.ble (0+(al (t:= .sl .str) (aN a1) (Int.toNat (af a0 ((aN a1).length:Int)).1)).length) bT=true:=Nat.ble_eq_true_of_le (by have:(bT:Nat)=4294967296:=rfl;omega)
 have l2:Nat.ble ((al (t:= .sl .str) (aN a1) (Int.toNat (af a0 ((aN a1).length:Int)).1)).length+1) bT=true:=Nat.ble_eq_true_of_le (by have:(bT:Nat)=4294967296:=rfl;omega)
 obtain⟨_,_,g2⟩:=cu (af a0 ((aN a1).length:Int)).2 5 g1
 cases e0:((af (af a0 ((aN a1).length:Int)).2 5).1==(0:Int))
 rotate_left
 ·obtain⟨hz,g3⟩:=Ia _ g2
  refine⟨(?az0,?bz0),?FM,0,?FN⟩
  case FN=>
   intro R k
   rw[BV]
   simp only[aK,hp,hc,hix,l1,l2,g1,g2,e0,List.nil_append,cond_true,cond_false]
   exact rfl
  case FM=>exact⟨xN ht hw (by omega),g3⟩
 cases e1:((af (af a0 ((aN a1).length:Int)).2 5).1==(1:Int))
 ·refine⟨(?az1,?bz1),?gz1,0,?rz1⟩
  case rz1=>
   intro R k
   rw[BV]
   simp only[aK,hp,hc,hix,l1,l2,g1,g2,e0,e1,List.nil_append,cond_true,cond_false]
   exact rfl
  case gz1=>exact⟨M6 hw,g2⟩
 ·have hk:=dX (l:=([(bs [48]),(bs [49]),(bs [45]),(bs [48,48]),(bs [57])]:List BA)) g2 rfl
  obtain⟨AR,g3⟩:=jY _ _ hk
  have hz:=iD (List.all_eq_true.1 (show (([(bs [48]),(bs [49]),(bs [45]),(bs [48,48]),(bs [57])]:List BA).all fun x=>Nat.ble x.size 3)=true from rfl) _ AR)
  refine⟨(?az2,?bz2),?gz2,0,?rz2⟩
  case rz2=>
   intro R k
   rw[BV]
   simp only[aK,hp,hc,hix,l1,l2,g1,g2,e0,e1,hk,List.nil_append,cond_true,cond_false]
   exact rfl
  case gz2=>exact⟨xN ht hw (by omega),g3⟩
theorem Qn(a0:aj)(a1:ae):Nonempty {o:List BA×aj // (fun(c:aj)(t:ae)=>aA c&&pT t) a0 a1=true→X6 a0 a1 o}:=by
 by_cases hg:(fun(c:aj)(t:ae)=>aA c&&pT t) a0 a1=true
 ·obtain⟨o,ho⟩:=aaX a0 a1 hg
  exact⟨⟨o,fun _=>ho⟩⟩
 ·exact⟨⟨([],(zero .cur)),fun h=>absurd h hg⟩⟩
noncomputable def cw(a0:aj)(a1:ae):List BA×aj:=(Classical.choice (Qn a0 a1)).val
theorem Qo(a0:aj)(a1:ae)(hg:(fun(c:aj)(t:ae)=>aA c&&pT t) a0 a1=true):X6 a0 a1 (cw a0 a1):=(Classical.choice (Qn a0 a1)).property hg
theorem Ij(a0:aj)(a1:ae)(hg:(fun(c:aj)(t:ae)=>aA c&&pT t) a0 a1=true):(fun _ t o=>sm t o.1∧aA o.2=true) a0 a1 (cw a0 a1):=(Qo a0 a1 hg).1
theorem Qp(a0:aj)(a1:ae)(hg:(fun(c:aj)(t:ae)=>aA c&&pT t) a0 a1=true):∃keep rounds,∀{R:Type}(k:Kt R),aG VP keep rounds Qm [.bG,.ro] [false] true [.tmp 4] [24] [.d .cur a0,.d .node a1] k=k [.d (.sl .str) ((cw a0 a1).1),.d .cur ((cw a0 a1).2)]:=by
 obtain⟨n,hn⟩:=(Qo a0 a1 hg).2
 exact⟨VO,n,hn⟩
noncomputable def q17:Qt
 | [.d .cur a0,.d .node a1]=>some (((fun(c:aj)(t:ae)=>aA c&&pT t) a0 a1),[.d (.sl .str) ((cw a0 a1).1),.d .cur ((cw a0 a1).2)])
 |_=>none
noncomputable def s17:Gm.Spec:=Gm.Spec.of [.bG,.ro] [false] true q17
theorem Qq:Gm.Good Tryz.prog (17,s17):=by
 have hl:∀x∈[(32,Cb),(39,Ut),(42,s42),(43,s43)],Gm.Good Tryz.prog x:=bt.2 ⟨nP,bt.2 ⟨BD,bt.2 ⟨aaW,bt.2 ⟨Gt,gw⟩⟩⟩⟩
 refine⟨⟨aD (aL.env hl) (bQ.cq hl) Tryz.func17 (by kernel_rfl:Tryz.f17.body=some Qm) [24] (by kernel_rfl) ?_,_,Tryz.func17,by kernel_rfl,of_decide_eq_true (by kernel_rfl)⟩,Gm.Spec.ax _ _ _ _⟩
 intro ds outs h
 unfold q17 at h
 split at h
 ·simp only[Option.some.injEq,Prod.mk.injEq] at h;obtain⟨hg,h⟩:=h;cases h;exact Qp _ _ hg
 ·cases h
end Go.Proofs.YtalnkjjnohgjkaaGreat
