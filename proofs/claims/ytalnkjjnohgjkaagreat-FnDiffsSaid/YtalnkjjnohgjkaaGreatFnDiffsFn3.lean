/- What the functions compute, part 3. No conditions. -/
import Derived.Test.YtalnkjjnohgjkaaGreatFnDiffsFn2
import Derived.Ground.NamesProg
import Derived.Shelf.Sort.Plain
import Derived.Shelf.Slices.In.SortNone
import Derived.Shelf.Slices.CompactS
namespace Go.Proofs.YtalnkjjnohgjkaaGreat
open Go Go.Gm
noncomputable def Ik(y0:List BA)(y1:List BA)(y2:Int)(y3:Int):St:=⟨[(0,.c (.one (.ro .str y0))),(1,.c (.one (.ro .str y1))),(12,.c (.one (.v (.int .i64 y2)))),(13,.c (.one (.v (.int .i64 y3))))],[],[]⟩
noncomputable def Qr:St:=⟨[(4,.c (.one (.v (.bool false))))],[],[]⟩
noncomputable def Qs(y0:List BA)(y1:List BA)(y2:Int)(y3:Int)(y4:Bool):St:=⟨[(0,.c (.one (.ro .str y0))),(1,.c (.one (.ro .str y1))),(12,.c (.one (.v (.int .i64 y2)))),(13,.c (.one (.v (.int .i64 y3)))),(14,.c (.one (.v (.bool y4))))],[],[]⟩
noncomputable def Gu:Code:=(Tryz.f30.body).getD .skip
def Km:Nat→Kp:=fa [⟨[0,1],[],[],[]⟩,⟨[0,1,10],[],[],[]⟩,⟨[4],[],[],[]⟩,⟨[0,1,12,13],[],[],[]⟩,⟨[0,1,12,13,14],[],[],[]⟩,⟨[0,1,5,12,13],[],[],[]⟩,⟨[0,1,12,13,24],[],[],[]⟩,⟨[4],[],[],[]⟩,⟨[0,1,12,13],[],[],[]⟩,⟨[4],[],[],[]⟩]
noncomputable def BW:Env:=bQ.env []
noncomputable def yf{R:Type}(n:Nat)(x0:Option R)(x1:Int→Bool→Option R)(wC:List BA)(wA:List BA)(wR:Int):Nat→Int→Option R
  |0,_=>none
  |m+1,wJ=>
    (cond (decide (wJ<wR))
   (cond ((decide ((0:Int)≤wJ))&&(decide (wJ<(wC.length:Int))))
    (cond ((decide ((0:Int)≤wJ))&&(decide (wJ<(wA.length:Int))))
     (cond (!(cy (al (t:= .str) wC (Int.toNat wJ)) (al (t:= .str) wA (Int.toNat wJ))))
      (x0)
      (yf n x0 x1 wC wA wR m (IntKind.wrap .i64 (wJ+(1:Int)))))
     none)
    none)
   (x1 wJ (decide (wJ<wR))))
theorem VQ{R:Type}(n:Nat)(k':Kx R)(wC:List BA)(wA:List BA)(wR:Int)(wJ:Int):ev BW Km n (bC [1,1,0,1,0,0] Gu) (Ik wC wA wR wJ) k'=
 (cond (decide (wJ<wR))
 (cond ((decide ((0:Int)≤wJ))&&(decide (wJ<(wC.length:Int))))
 (cond ((decide ((0:Int)≤wJ))&&(decide (wJ<(wA.length:Int))))
 (cond (!(cy (al (t:= .str) wC (Int.toNat wJ)) (al (t:= .str) wA (Int.toNat wJ))))
 (k' .ret Qr)
 (k' .normal (Ik wC wA wR (IntKind.wrap .i64 (wJ+(1:Int))))))
 none)
 none)
 (k' (.exit 0) (Qs wC wA wR wJ (decide (wJ<wR))))):=by kernel_rfl
theorem Qu{R:Type}(n:Nat)(k':Kx R)(wC:List BA)(wA:List BA)(wR:Int):∀(m:Nat)(wJ:Int),iter (fun st k=>ev BW Km n (bC [1,1,0,1,0,0] Gu) st k) m (Ik wC wA wR wJ) k'=yf n (k' .ret Qr) (fun(wW:Int)(wX:Bool)=>k' (.exit 0) (Qs wC wA wR wW wX)) wC wA wR m wJ:=by
 intro m;induction m with
 |zero=>intros;rfl
 |succ m ih=>
  intro wJ
  simp only[iter]
  rw[VQ]
  simp only[ih,yf]
noncomputable def Qv{R:Type}(n:Nat)(k':Kx R):Kx R:=(b8 0 (eP BW Km n (bC [1,1,1] Gu) k'))
theorem Qw{R:Type}(n:Nat)(k:Kt R)(a0:List BA)(a1:List BA):Qv n (aI BW [.ro,.ro] [false] true [.tmp 4] [4] [.d (.sl .str) a0,.d (.sl .str) a1] k) .ret Qr=
 (k [.d .bool false]):=by kernel_rfl
theorem Qx{R:Type}(n:Nat)(k:Kt R)(a0:List BA)(a1:List BA)(wC:List BA)(wA:List BA)(wR:Int)(wW:Int)(wX:Bool):Qv n (aI BW [.ro,.ro] [false] true [.tmp 4] [4] [.d (.sl .str) a0,.d (.sl .str) a1] k) (.exit 0) (Qs wC wA wR wW wX)=
 (k [.d .bool true]):=by kernel_rfl
theorem VR{R:Type}(n:Nat)(k:Kt R)(a0:List BA)(a1:List BA):aG BW Km n Gu [.ro,.ro] [false] true [.tmp 4] [4] [.d (.sl .str) a0,.d (.sl .str) a1] k=
 (cond ((a0.length:Int) !=(a1.length:Int))
 (k [.d .bool false])
 (yf n (k [.d .bool false]) (fun(wW:Int)(wX:Bool)=>
 (k [.d .bool true])) a0 a1 (a0.length:Int) n (0:Int))):=by
 refine Eq.trans (b:=(cond ((a0.length:Int) !=(a1.length:Int))
 (k [.d .bool false])
 (iter (fun st k=>ev BW Km n (bC [1,1,0,1,0,0] Gu) st k) n (Ik a0 a1 (a0.length:Int) (0:Int)) (Qv n (aI BW [.ro,.ro] [false] true [.tmp 4] [4] [.d (.sl .str) a0,.d (.sl .str) a1] k))))) (by kernel_rfl) ?_
 simp only[Qu,Qw,Qx]
theorem Qy(a0:List BA)(a1:List BA)(hg:fk a0=true):∃keep rounds,∀{R:Type}(k:Kt R),aG BW keep rounds Gu [.ro,.ro] [false] true [.tmp 4] [4] [.d (.sl .str) a0,.d (.sl .str) a1] k=k [.d .bool (iM a0 a1)]:=by
 have hl:=ng hg
 refine⟨Km,a0.length+1,fun k=> ?_⟩
 rw[VR]
 by_cases hc:a0.length=a1.length
 ·have tD:((a0.length:Int) !=(a1.length:Int))=false:=by simp[hc]
  simp only[tD,cond_false]
  refine Eq.trans (jq (n:=a0.length) (F:=fun m i=>yf (a0.length+1) _ _ a0 a1 (a0.length:Int) m i) (p:=fun j=>cy (al (t:= .str) a0 j) (al (t:= .str) a1 j)) (good:=k [.d .bool true]) (bad:=k [.d .bool false])
   (fun m j hj=> ?_) (fun m=>by simp only[yf,iX,cond_false]) a0.length 0 (a0.length+1) (by omega) (by omega)) ?_
  ·obtain⟨h1,h0,hw,ht⟩:=idx hj (by omega)
   obtain⟨h2,_,_,_⟩:=idx (show j<a1.length by omega) (by omega)
   simp only[yf,h1,h0,h2,hw,ht,Bool.and_self,cond_true]
   cases cy (al (t:= .str) a0 j) (al (t:= .str) a1 j)<;>rfl
  ·rw[rH hc (fun j x y hx hy=>by rw[bm (t:= .str) hx,bm (t:= .str) hy,←A8])]
   cases iM a0 a1<;>rfl
 ·simp only[A9 hc,cond_true]
  rw[A7 (fun e=>hc (by rw[e]))]
noncomputable def q30:Qt
 | [.d (.sl .str) a0,.d (.sl .str) a1]=>some (((fun(x y:List BA)=>fk x) a0 a1),[.d .bool (iM a0 a1)])
 |_=>none
noncomputable def s30:Gm.Spec:=Gm.Spec.of [.ro,.ro] [false] true q30
theorem Qz:Gm.Good Tryz.prog (30,s30):=by
 have hl:∀x∈([]:List (Nat×Gm.Spec)),Gm.Good Tryz.prog x:=fun _ h=>by cases h
 refine⟨⟨aD (aL.env hl) (bQ.cq hl) Tryz.func30 (by kernel_rfl:Tryz.f30.body=some Gu) [4] (by kernel_rfl) ?_,_,Tryz.func30,by kernel_rfl,of_decide_eq_true (by kernel_rfl)⟩,Gm.Spec.ax _ _ _ _⟩
 intro ds outs h
 unfold q30 at h
 split at h
 ·simp only[Option.some.injEq,Prod.mk.injEq] at h;obtain⟨hg,h⟩:=h;cases h;exact Qy _ _ hg
 ·cases h
noncomputable def q9:Qt
 | [.d .node a0,.d .node a1]=>some ((pQ ag a0 a1),[.d .bool (iM a0 a1)])
 |_=>none
noncomputable def mu9:List Dt→Nat
 | [.d .node a0,.d .node a1]=>eF a0 a1
 |_=>0
noncomputable def s9r(N:Nat):Gm.Spec:=Gm.Spec.of [.ro,.ro] [false] true (qA mu9 N q9)
noncomputable def s9:Gm.Spec:=Gm.Spec.of [.ro,.ro] [false] true q9
noncomputable def q31:Qt
 | [.d (.sl .node) a0,.d (.sl .node) a1,.fi 9 []]=>some ((pQ (dS ag) a0 a1),[.d .bool (iM a0 a1)])
 |_=>none
noncomputable def QA:List Dt→Nat
 | [.d (.sl .node) a0,.d (.sl .node) a1,.fi 9 []]=>kh a0 a1
 |_=>0
noncomputable def afF(N:Nat):Gm.Spec:=Gm.Spec.of [.ro,.ro,.fn] [false] true (qA QA N q31)
noncomputable def f9c:Code:=(Tryz.f9.body).getD .skip
def f9k:Nat→Kp:=fa [⟨[2,3],[],[],[]⟩,⟨[4],[],[],[]⟩]
noncomputable def f9e(N:Nat):Env:=bQ.env [(9,s9r N),(30,s30),(31,afF N)]
theorem aaY{R:Type}(N:Nat)(n:Nat)(k:Kt R)(a0:ae)(a1:ae):aG (f9e N) f9k n f9c [.ro,.ro] [false] true [.tmp 4] [4] [.d .node a0,.d .node a1] k=
 (cond ((ae.kind a0)==(ae.kind a1))
 (cond ((ae.n a0)==(ae.n a1))
 (cond (cy (ae.s a0) (ae.s a1))
 (cond ((fun(x y:List BA)=>fk x) (ae.keys a0) (ae.keys a1))
 (cond (iM (ae.keys a0) (ae.keys a1))
 (cond ((pQ (dS ag) (ae.kids a0) (ae.kids a1))&&(Nat.blt (kh (ae.kids a0) (ae.kids a1)) N))
 (k [.d .bool (iM (ae.kids a0) (ae.kids a1))])
 none)
 (k [.d .bool false]))
 none)
 (k [.d .bool false]))
 (k [.d .bool false]))
 (k [.d .bool false])):=by kernel_rfl
theorem VS(N:Nat)(a0:ae)(a1:ae)(hg:pQ ag a0 a1=true)(hm:mu9 [.d .node a0,.d .node a1]=N):∃keep rounds,∀{R:Type}(k:Kt R),aG (f9e N) keep rounds f9c [.ro,.ro] [false] true [.tmp 4] [4] [.d .node a0,.d .node a1] k=k [.d .bool (iM a0 a1)]:=by
 have hm:eF a0 a1=N:=hm
 subst hm
 have m1:Nat.blt (kh a0.kids a1.kids) (eF a0 a1)=true:=by rw[Nat.blt_eq];simp only[kh,eF,bV];omega
 simp only[pQ,bf,Bool.and_eq_true] at hg
 have gk:fk a0.keys=true:=lF hg.1.2.2.2.1
 refine⟨f9k,0,fun {R} k=> ?_⟩
 rw[aaY,Db]
 simp only[pQ,gk,hg,m1,Bool.and_self,Bool.true_and,cond_true]
 cases (a0.kind==a1.kind)<;>cases (a0.n==a1.n)<;>cases cy a0.s a1.s<;>cases iM a0.keys a1.keys<;>rfl
noncomputable def Il(y0:List ae)(y1:List ae)(y2:Int)(y3:Int):St:=⟨[(1,.c (.one (.ro .node y0))),(2,.c (.one (.pJ 9 []))),(15,.c (.one (.ro .node y1))),(16,.c (.one (.v (.int .i64 y2)))),(17,.c (.one (.v (.int .i64 y3))))],[],[]⟩
noncomputable def QB:St:=⟨[(6,.c (.one (.v (.bool false))))],[],[]⟩
noncomputable def QC(y0:List ae)(y1:List ae)(y2:Int)(y3:Int)(y4:Bool):St:=⟨[(1,.c (.one (.ro .node y0))),(2,.c (.one (.pJ 9 []))),(15,.c (.one (.ro .node y1))),(16,.c (.one (.v (.int .i64 y2)))),(17,.c (.one (.v (.int .i64 y3)))),(18,.c (.one (.v (.bool y4))))],[],[]⟩
noncomputable def Gv:Code:=(Tryz.f31.body).getD .skip
def Kn:Nat→Kp:=fa [⟨[0,1,2],[],[],[]⟩,⟨[0,1,2,14],[],[],[]⟩,⟨[6],[],[],[]⟩,⟨[1,2,15,16,17],[],[],[]⟩,⟨[1,2,15,16,17,18],[],[],[]⟩,⟨[1,2,7,8,15,16,17],[],[],[]⟩,⟨[1,2,8,9,15,16,17],[],[],[]⟩,⟨[1,2,15,16,17,30],[],[],[]⟩,⟨[6],[],[],[]⟩,⟨[1,2,15,16,17],[],[],[]⟩,⟨[6],[],[],[]⟩]
noncomputable def yS(N:Nat):Env:=bQ.env [(9,s9r N)]
noncomputable def yg{R:Type}(N:Nat)(n:Nat)(x0:Option R)(x1:Int→Bool→Option R)(wA:List ae)(wQ:List ae)(wS:Int):Nat→Int→Option R
  |0,_=>none
  |m+1,wE=>
    (cond (decide (wE<wS))
   (cond ((decide ((0:Int)≤wE))&&(decide (wE<(wQ.length:Int))))
    (cond ((decide ((0:Int)≤wE))&&(decide (wE<(wA.length:Int))))
     (cond ((pQ ag (eN (al (t:= .node) wQ (Int.toNat wE))) (eN (al (t:= .node) wA (Int.toNat wE))))&&(Nat.blt (eF (eN (al (t:= .node) wQ (Int.toNat wE))) (eN (al (t:= .node) wA (Int.toNat wE)))) N))
      (cond (!(iM (eN (al (t:= .node) wQ (Int.toNat wE))) (eN (al (t:= .node) wA (Int.toNat wE)))))
       (x0)
       (yg N n x0 x1 wA wQ wS m (IntKind.wrap .i64 (wE+(1:Int)))))
      none)
     none)
    none)
   (x1 wE (decide (wE<wS))))
theorem VT{R:Type}(N:Nat)(n:Nat)(k':Kx R)(wA:List ae)(wQ:List ae)(wS:Int)(wE:Int):ev (yS N) Kn n (bC [1,1,0,1,0,0] Gv) (Il wA wQ wS wE) k'=
 (cond (decide (wE<wS))
 (cond ((decide ((0:Int)≤wE))&&(decide (wE<(wQ.length:Int))))
 (cond ((decide ((0:Int)≤wE))&&(decide (wE<(wA.length:Int))))
 (cond ((pQ ag (eN (al (t:= .node) wQ (Int.toNat wE))) (eN (al (t:= .node) wA (Int.toNat wE))))&&(Nat.blt (eF (eN (al (t:= .node) wQ (Int.toNat wE))) (eN (al (t:= .node) wA (Int.toNat wE)))) N))
 (cond (!(iM (eN (al (t:= .node) wQ (Int.toNat wE))) (eN (al (t:= .node) wA (Int.toNat wE)))))
 (k' .ret QB)
 (k' .normal (Il wA wQ wS (IntKind.wrap .i64 (wE+(1:Int))))))
 none)
 none)
 none)
 (k' (.exit 0) (QC wA wQ wS wE (decide (wE<wS))))):=by kernel_rfl
theorem QD{R:Type}(N:Nat)(n:Nat)(k':Kx R)(wA:List ae)(wQ:List ae)(wS:Int):∀(m:Nat)(wE:Int),iter (fun st k=>ev (yS N) Kn n (bC [1,1,0,1,0,0] Gv) st k) m (Il wA wQ wS wE) k'=yg N n (k' .ret QB) (fun(wY:Int)(wZ:Bool)=>k' (.exit 0) (QC wA wQ wS wY wZ)) wA wQ wS m wE:=by
 intro m;induction m with
 |zero=>intros;rfl
 |succ m ih=>
  intro wE
  simp only[iter]
  rw[VT]
  simp only[ih,yg]
noncomputable def QE{R:Type}(N:Nat)(n:Nat)(k':Kx R):Kx R:=(b8 0 (eP (yS N) Kn n (bC [1,1,1] Gv) k'))
theorem QF{R:Type}(N:Nat)(n:Nat)(k:Kt R)(a0:List ae)(a1:List ae):QE N n (aI (yS N) [.ro,.ro,.fn] [false] true [.tmp 6] [4] [.d (.sl .node) a0,.d (.sl .node) a1,.fi 9 []] k) .ret QB=
 (k [.d .bool false]):=by kernel_rfl
theorem QG{R:Type}(N:Nat)(n:Nat)(k:Kt R)(a0:List ae)(a1:List ae)(wA:List ae)(wQ:List ae)(wS:Int)(wY:Int)(wZ:Bool):QE N n (aI (yS N) [.ro,.ro,.fn] [false] true [.tmp 6] [4] [.d (.sl .node) a0,.d (.sl .node) a1,.fi 9 []] k) (.exit 0) (QC wA wQ wS wY wZ)=
 (k [.d .bool true]):=by kernel_rfl
theorem VU{R:Type}(N:Nat)(n:Nat)(k:Kt R)(a0:List ae)(a1:List ae):aG (yS N) Kn n Gv [.ro,.ro,.fn] [false] true [.tmp 6] [4] [.d (.sl .node) a0,.d (.sl .node) a1,.fi 9 []] k=
 (cond ((a0.length:Int) !=(a1.length:Int))
 (k [.d .bool false])
 (yg N n (k [.d .bool false]) (fun(wY:Int)(wZ:Bool)=>
 (k [.d .bool true])) a1 a0 (a0.length:Int) n (0:Int))):=by
 refine Eq.trans (b:=(cond ((a0.length:Int) !=(a1.length:Int))
 (k [.d .bool false])
 (iter (fun st k=>ev (yS N) Kn n (bC [1,1,0,1,0,0] Gv) st k) n (Il a1 a0 (a0.length:Int) (0:Int)) (QE N n (aI (yS N) [.ro,.ro,.fn] [false] true [.tmp 6] [4] [.d (.sl .node) a0,.d (.sl .node) a1,.fi 9 []] k))))) (by kernel_rfl) ?_
 simp only[QD,QF,QG]
theorem QH(N:Nat)(a0:List ae)(a1:List ae)(hg:pQ (dS ag) a0 a1=true)(hm:QA [.d (.sl .node) a0,.d (.sl .node) a1,.fi 9 []]=N):∃keep rounds,∀{R:Type}(k:Kt R),aG (yS N) keep rounds Gv [.ro,.ro,.fn] [false] true [.tmp 6] [4] [.d (.sl .node) a0,.d (.sl .node) a1,.fi 9 []] k=k [.d .bool (iM a0 a1)]:=by
 have hm:kh a0 a1=N:=hm
 subst hm
 simp only[pQ,Bool.and_eq_true] at hg
 obtain⟨fP,hg1⟩:=hg
 have hl:a0.length≤1048576:=aR fP
 refine⟨Kn,a0.length+1,fun {R} k=> ?_⟩
 rw[VU]
 by_cases hc:a0.length=a1.length
 ·have tD:((a0.length:Int) !=(a1.length:Int))=false:=by simp[hc]
  simp only[tD,cond_false]
  refine Eq.trans (jq (n:=a0.length) (F:=fun m i=>yg (kh a0 a1) (a0.length+1) _ _ a1 a0 (a0.length:Int) m i) (p:=fun j=>iM (al (t:= .node) a0 j) (al (t:= .node) a1 j)) (good:=k [.d .bool true]) (bad:=k [.d .bool false])
   (fun m j hj=> ?_) (fun m=>by simp only[yg,iX,cond_false]) a0.length 0 (a0.length+1) (by omega) (by omega)) ?_
  ·obtain⟨h1,h0,hw,ht⟩:=idx hj (by omega)
   obtain⟨h2,_,_,_⟩:=idx (show j<a1.length by omega) (by omega)
   have ha:=w5 (t:= .node) fP hj
   have hb:=w5 (t:= .node) hg1 (show j<a1.length by omega)
   have SJ:Nat.blt (eF (al (t:= .node) a0 j) (al (t:= .node) a1 j)) (kh a0 a1)=true:=by
    obtain⟨x,hx,_⟩:=cH hj
    have:=rK (f:=ao) (List.mem_of_getElem? hx)
    rw[bm (t:= .node) hx,Nat.blt_eq];simp only[eF,kh];omega
   simp only[yg,h1,h0,h2,hw,ht,Bool.and_self,cond_true,pQ,az,aK,ha,hb,SJ]
   cases iM (al (t:= .node) a0 j) (al (t:= .node) a1 j)<;>rfl
  ·rw[rH hc (fun j x y hx hy=>by rw[bm (t:= .node) hx,bm (t:= .node) hy])]
   cases iM a0 a1<;>rfl
 ·simp only[A9 hc,cond_true]
  rw[A7 (fun e=>hc (by rw[e]))]
theorem aaZ:∀x∈([⟨9,[.ro,.ro],[false],true,mu9,q9⟩,⟨31,[.ro,.ro,.fn],[false],true,QA,q31⟩]:List Rc),Gm.bW Tryz.prog x.f (Gm.Spec.of x.ms x.rs x.ow x.q):=by
 refine tg _ fun N hr=> ?_
 have SG:Gm.bW Tryz.prog 9 (Gm.Spec.of [.ro,.ro] [false] true (qA mu9 N q9)):=fun {R}=>hr _ (.head _)
 have hr2:Gm.bW Tryz.prog 31 (Gm.Spec.of [.ro,.ro,.fn] [false] true (qA QA N q31)):=fun {R}=>hr _ (.tail _ (.head _))
 refine bt.2 ⟨?_,bt.2 ⟨?_,gw⟩⟩
 ·have hl:∀x∈([(9,s9r N),(30,s30),(31,afF N)]:List (Nat×Gm.Spec)),Gm.Good Tryz.prog x:=bt.2 ⟨⟨⟨SG,_,Tryz.func9,by kernel_rfl,of_decide_eq_true (by kernel_rfl)⟩,Gm.Spec.ax _ _ _ _⟩,bt.2 ⟨Qz,bt.2 ⟨⟨⟨hr2,_,Tryz.func31,by kernel_rfl,of_decide_eq_true (by kernel_rfl)⟩,Gm.Spec.ax _ _ _ _⟩,gw⟩⟩⟩
  show Gm.bW Tryz.prog 9 (Gm.Spec.of [.ro,.ro] [false] true (zM mu9 N q9))
  intro R
  refine aD (E:=f9e N) (aL.env hl) (bQ.cq hl) Tryz.func9 (by kernel_rfl:Tryz.f9.body=some f9c) [4] (by kernel_rfl) ?_
  intro ds outs h
  obtain⟨h,hm⟩:=dg h
  unfold q9 at h
  split at h
  ·simp only[Option.some.injEq,Prod.mk.injEq] at h;obtain⟨hg,h⟩:=h;cases h;exact VS N _ _ hg hm
  ·cases h
 ·have hl:∀x∈([(9,s9r N)]:List (Nat×Gm.Spec)),Gm.Good Tryz.prog x:=bt.2 ⟨⟨⟨SG,_,Tryz.func9,by kernel_rfl,of_decide_eq_true (by kernel_rfl)⟩,Gm.Spec.ax _ _ _ _⟩,gw⟩
  show Gm.bW Tryz.prog 31 (Gm.Spec.of [.ro,.ro,.fn] [false] true (zM QA N q31))
  intro R
  refine aD (E:=yS N) (aL.env hl) (bQ.cq hl) Tryz.func31 (by kernel_rfl:Tryz.f31.body=some Gv) [4] (by kernel_rfl) ?_
  intro ds outs h
  obtain⟨h,hm⟩:=dg h
  unfold q31 at h
  split at h
  ·simp only[Option.some.injEq,Prod.mk.injEq] at h;obtain⟨hg,h⟩:=h;cases h;exact QH N _ _ hg hm
  ·cases h
theorem QI:Gm.Good Tryz.prog (9,s9):=⟨⟨fun {R}=>aaZ _ (.head _),_,Tryz.func9,by kernel_rfl,of_decide_eq_true (by kernel_rfl)⟩,Gm.Spec.ax _ _ _ _⟩
noncomputable def q24:Qt
 | [.d .node a0,.d .node a1]=>some ((pQ ag a0 a1),[.d .bool (iM a0 a1)])
 |_=>none
noncomputable def aa1:List Dt→Nat
 | [.d .node a0,.d .node a1]=>eF a0 a1
 |_=>0
noncomputable def afG(N:Nat):Gm.Spec:=Gm.Spec.of [.ro,.ro] [false] true (qA aa1 N q24)
noncomputable def Im(y0:Int)(y1:Int)(y2:Int)(y3:BA)(y4:List BA)(y5:List ae)(y6:Int)(y7:Int)(y8:BA)(y9:List BA)(iu:List ae):St:=⟨[(2,.c (.one (.pt 2 0))),(3,.c (.one (.pt 3 0))),(5,.c (.one (.v (.int .i64 y0))))],[(2,⟨.node,[.v (.int .i64 y1),.v (.int .i64 y2),.v (.string y3),.ro .str y4,.ro .node y5]⟩),(3,⟨.node,[.v (.int .i64 y6),.v (.int .i64 y7),.v (.string y8),.ro .str y9,.ro .node iu]⟩)],[]⟩
noncomputable def Ao:St:=⟨[(4,.c (.one (.v (.bool false))))],[],[]⟩
noncomputable def QJ(y0:Int)(y1:Bool)(y2:Int)(y3:Int)(y4:BA)(y5:List BA)(y6:List ae)(y7:Int)(y8:Int)(y9:BA)(iu:List BA)(ix:List ae):St:=⟨[(2,.c (.one (.pt 2 0))),(3,.c (.one (.pt 3 0))),(5,.c (.one (.v (.int .i64 y0)))),(48,.c (.one (.v (.bool y1))))],[(2,⟨.node,[.v (.int .i64 y2),.v (.int .i64 y3),.v (.string y4),.ro .str y5,.ro .node y6]⟩),(3,⟨.node,[.v (.int .i64 y7),.v (.int .i64 y8),.v (.string y9),.ro .str iu,.ro .node ix]⟩)],[]⟩
noncomputable def Io(y0:Int)(y1:Int)(y2:Int)(y3:BA)(y4:List BA)(y5:List ae)(y6:Int)(y7:Int)(y8:BA)(y9:List BA)(iu:List ae):St:=⟨[(2,.c (.one (.pt 2 0))),(3,.c (.one (.pt 3 0))),(6,.c (.one (.v (.int .i64 y0))))],[(2,⟨.node,[.v (.int .i64 y1),.v (.int .i64 y2),.v (.string y3),.ro .str y4,.ro .node y5]⟩),(3,⟨.node,[.v (.int .i64 y6),.v (.int .i64 y7),.v (.string y8),.ro .str y9,.ro .node iu]⟩)],[]⟩
noncomputable def QK(y0:Int)(y1:Bool)(y2:Int)(y3:Int)(y4:BA)(y5:List BA)(y6:List ae)(y7:Int)(y8:Int)(y9:BA)(iu:List BA)(ix:List ae):St:=⟨[(2,.c (.one (.pt 2 0))),(3,.c (.one (.pt 3 0))),(6,.c (.one (.v (.int .i64 y0)))),(66,.c (.one (.v (.bool y1))))],[(2,⟨.node,[.v (.int .i64 y2),.v (.int .i64 y3),.v (.string y4),.ro .str y5,.ro .node y6]⟩),(3,⟨.node,[.v (.int .i64 y7),.v (.int .i64 y8),.v (.string y9),.ro .str iu,.ro .node ix]⟩)],[]⟩
noncomputable def yh:Code:=(Tryz.f24.body).getD .skip
def yT:Nat→Kp:=fa [⟨[2,3],[],[],[]⟩,⟨[2,3,43],[],[],[]⟩,⟨[4],[],[],[]⟩,⟨[2,3,5],[],[],[]⟩,⟨[2,3,5,48],[],[],[]⟩,⟨[2,3,5],[],[],[]⟩,⟨[2,3,5,61],[],[],[]⟩,⟨[4],[],[],[]⟩,⟨[2,3,6],[],[],[]⟩,⟨[2,3,6,66],[],[],[]⟩,⟨[2,3,6],[],[],[]⟩,⟨[2,3,6,80],[],[],[]⟩,⟨[4],[],[],[]⟩,⟨[4],[],[],[]⟩]
noncomputable def pd(N:Nat):Env:=bQ.env [(24,afG N)]
noncomputable def yi{R:Type}(N:Nat)(n:Nat)(x0:Option R)(x1:Int→Bool→Option R)(wK:Int)(wL:Int)(wM:BA)(wG:List BA)(wD:List ae)(wN:Int)(wO:Int)(wP:BA)(wI:List BA)(wH:List ae):Nat→Int→Option R
  |0,_=>none
  |m+1,wB=>
    (cond (decide (wB<(wG.length:Int)))
   (cond ((decide ((0:Int)≤wB))&&(decide (wB<(wG.length:Int))))
    (cond ((decide ((0:Int)≤wB))&&(decide (wB<(wI.length:Int))))
     (cond (!(cy (al (t:= .str) wG (Int.toNat wB)) (al (t:= .str) wI (Int.toNat wB))))
      (x0)
      (yi N n x0 x1 wK wL wM wG wD wN wO wP wI wH m (IntKind.wrap .i64 (wB+(1:Int)))))
     none)
    none)
   (x1 wB (decide (wB<(wG.length:Int)))))
theorem VV{R:Type}(N:Nat)(n:Nat)(k':Kx R)(wB:Int)(wK:Int)(wL:Int)(wM:BA)(wG:List BA)(wD:List ae)(wN:Int)(wO:Int)(wP:BA)(wI:List BA)(wH:List ae):ev (pd N) yT n (bC [1,1,0,1,0,0] yh) (Im wB wK wL wM wG wD wN wO wP wI wH) k'=
 (cond (decide (wB<(wG.length:Int)))
 (cond ((decide ((0:Int)≤wB))&&(decide (wB<(wG.length:Int))))
 (cond ((decide ((0:Int)≤wB))&&(decide (wB<(wI.length:Int))))
 (cond (!(cy (al (t:= .str) wG (Int.toNat wB)) (al (t:= .str) wI (Int.toNat wB))))
 (k' .ret Ao)
 (k' .normal (Im (IntKind.wrap .i64 (wB+(1:Int))) wK wL wM wG wD wN wO wP wI wH)))
 none)
 none)
 (k' (.exit 0) (QJ wB (decide (wB<(wG.length:Int))) wK wL wM wG wD wN wO wP wI wH))):=by kernel_rfl
theorem QL{R:Type}(N:Nat)(n:Nat)(k':Kx R)(wK:Int)(wL:Int)(wM:BA)(wG:List BA)(wD:List ae)(wN:Int)(wO:Int)(wP:BA)(wI:List BA)(wH:List ae):∀(m:Nat)(wB:Int),iter (fun st k=>ev (pd N) yT n (bC [1,1,0,1,0,0] yh) st k) m (Im wB wK wL wM wG wD wN wO wP wI wH) k'=yi N n (k' .ret Ao) (fun(wT:Int)(uA:Bool)=>k' (.exit 0) (QJ wT uA wK wL wM wG wD wN wO wP wI wH)) wK wL wM wG wD wN wO wP wI wH m wB:=by
 intro m;induction m with
 |zero=>intros;rfl
 |succ m ih=>
  intro wB
  simp only[iter]
  rw[VV]
  simp only[ih,yi]
noncomputable def ug{R:Type}(N:Nat)(n:Nat)(x0:Option R)(x1:Int→Bool→Option R)(wK:Int)(wL:Int)(wM:BA)(wG:List BA)(wD:List ae)(wN:Int)(wO:Int)(wP:BA)(wI:List BA)(wH:List ae):Nat→Int→Option R
  |0,_=>none
  |m+1,wF=>
    (cond (decide (wF<(wD.length:Int)))
   (cond ((decide ((0:Int)≤wF))&&(decide (wF<(wD.length:Int))))
    (cond ((decide ((0:Int)≤wF))&&(decide (wF<(wH.length:Int))))
     (cond ((pQ ag (eN (al (t:= .node) wD (Int.toNat wF))) (eN (al (t:= .node) wH (Int.toNat wF))))&&(Nat.blt (eF (eN (al (t:= .node) wD (Int.toNat wF))) (eN (al (t:= .node) wH (Int.toNat wF)))) N))
      (cond (!(iM (eN (al (t:= .node) wD (Int.toNat wF))) (eN (al (t:= .node) wH (Int.toNat wF)))))
       (x0)
       (ug N n x0 x1 wK wL wM wG wD wN wO wP wI wH m (IntKind.wrap .i64 (wF+(1:Int)))))
      none)
     none)
    none)
   (x1 wF (decide (wF<(wD.length:Int)))))
theorem VW{R:Type}(N:Nat)(n:Nat)(k':Kx R)(wF:Int)(wK:Int)(wL:Int)(wM:BA)(wG:List BA)(wD:List ae)(wN:Int)(wO:Int)(wP:BA)(wI:List BA)(wH:List ae):ev (pd N) yT n (bC [1,1,1,0,1,0,0] yh) (Io wF wK wL wM wG wD wN wO wP wI wH) k'=
 (cond (decide (wF<(wD.length:Int)))
 (cond ((decide ((0:Int)≤wF))&&(decide (wF<(wD.length:Int))))
 (cond ((decide ((0:Int)≤wF))&&(decide (wF<(wH.length:Int))))
 (cond ((pQ ag (eN (al (t:= .node) wD (Int.toNat wF))) (eN (al (t:= .node) wH (Int.toNat wF))))&&(Nat.blt (eF (eN (al (t:= .node) wD (Int.toNat wF))) (eN (al (t:= .node) wH (Int.toNat wF)))) N))
 (cond (!(iM (eN (al (t:= .node) wD (Int.toNat wF))) (eN (al (t:= .node) wH (Int.toNat wF)))))
 (k' .ret Ao)
 (k' .normal (Io (IntKind.wrap .i64 (wF+(1:Int))) wK wL wM wG wD wN wO wP wI wH)))
 none)
 none)
 none)
 (k' (.exit 2) (QK wF (decide (wF<(wD.length:Int))) wK wL wM wG wD wN wO wP wI wH))):=by kernel_rfl
theorem D0{R:Type}(N:Nat)(n:Nat)(k':Kx R)(wK:Int)(wL:Int)(wM:BA)(wG:List BA)(wD:List ae)(wN:Int)(wO:Int)(wP:BA)(wI:List BA)(wH:List ae):∀(m:Nat)(wF:Int),iter (fun st k=>ev (pd N) yT n (bC [1,1,1,0,1,0,0] yh) st k) m (Io wF wK wL wM wG wD wN wO wP wI wH) k'=ug N n (k' .ret Ao) (fun(wU:Int)(wV:Bool)=>k' (.exit 2) (QK wU wV wK wL wM wG wD wN wO wP wI wH)) wK wL wM wG wD wN wO wP wI wH m wF:=by
 intro m;induction m with
 |zero=>intros;rfl
 |succ m ih=>
  intro wF
  simp only[iter]
  rw[VW]
  simp only[ih,ug]
noncomputable def QM{R:Type}(N:Nat)(n:Nat)(k':Kx R):Kx R:=(b8 2 (eP (pd N) yT n (bC [1,1,1,1] yh) k'))
theorem D1{R:Type}(N:Nat)(n:Nat)(k:Kt R)(a0:ae)(a1:ae):QM N n (aI (pd N) [.ro,.ro] [false] true [.tmp 4] [4] [.d .node a0,.d .node a1] k) .ret Ao=
 (k [.d .bool false]):=by kernel_rfl
theorem D2{R:Type}(N:Nat)(n:Nat)(k:Kt R)(a0:ae)(a1:ae)(wK:Int)(wL:Int)(wM:BA)(wG:List BA)(wD:List ae)(wN:Int)(wO:Int)(wP:BA)(wI:List BA)(wH:List ae)(wU:Int)(wV:Bool):QM N n (aI (pd N) [.ro,.ro] [false] true [.tmp 4] [4] [.d .node a0,.d .node a1] k) (.exit 2) (QK wU wV wK wL wM wG wD wN wO wP wI wH)=
 (k [.d .bool true]):=by kernel_rfl
noncomputable def QN{R:Type}(N:Nat)(n:Nat)(k':Kx R):Kx R:=(b8 0 (eP (pd N) yT n (bC [1,1,1] yh) k'))
theorem QO{R:Type}(N:Nat)(n:Nat)(k:Kt R)(a0:ae)(a1:ae):QN N n (aI (pd N) [.ro,.ro] [false] true [.tmp 4] [4] [.d .node a0,.d .node a1] k) .ret Ao=
 (k [.d .bool false]):=by kernel_rfl
theorem QP{R:Type}(N:Nat)(n:Nat)(k:Kt R)(a0:ae)(a1:ae)(wK:Int)(wL:Int)(wM:BA)(wG:List BA)(wD:List ae)(wN:Int)(wO:Int)(wP:BA)(wI:List BA)(wH:List ae)(wT:Int)(uA:Bool):QN N n (aI (pd N) [.ro,.ro] [false] true [.tmp 4] [4] [.d .node a0,.d .node a1] k) (.exit 0) (QJ wT uA wK wL wM wG wD wN wO wP wI wH)=
 (ug N n (k [.d .bool false]) (fun(wU:Int)(wV:Bool)=>
 (k [.d .bool true])) wK wL wM wG wD wN wO wP wI wH n (0:Int)):=by
 refine Eq.trans (b:=(iter (fun st k=>ev (pd N) yT n (bC [1,1,1,0,1,0,0] yh) st k) n (Io (0:Int) wK wL wM wG wD wN wO wP wI wH) (QM N n (aI (pd N) [.ro,.ro] [false] true [.tmp 4] [4] [.d .node a0,.d .node a1] k)))) (by kernel_rfl) ?_
 simp only[D0,D1,D2]
theorem VX{R:Type}(N:Nat)(n:Nat)(k:Kt R)(a0:ae)(a1:ae):aG (pd N) yT n yh [.ro,.ro] [false] true [.tmp 4] [4] [.d .node a0,.d .node a1] k=
 (cond ((ae.kind a0) !=(ae.kind a1))
 (k [.d .bool false])
 (cond ((ae.n a0) !=(ae.n a1))
 (k [.d .bool false])
 (cond (!(cy (ae.s a0) (ae.s a1)))
 (k [.d .bool false])
 (cond (((ae.keys a0).length:Int) !=((ae.keys a1).length:Int))
 (k [.d .bool false])
 (cond (((ae.kids a0).length:Int) !=((ae.kids a1).length:Int))
 (k [.d .bool false])
 (yi N n (k [.d .bool false]) (fun(wT:Int)(uA:Bool)=>
 (ug N n (k [.d .bool false]) (fun(wU:Int)(wV:Bool)=>
 (k [.d .bool true])) (ae.kind a0) (ae.n a0) (ae.s a0) (ae.keys a0) (ae.kids a0) (ae.kind a1) (ae.n a1) (ae.s a1) (ae.keys a1) (ae.kids a1) n (0:Int))) (ae.kind a0) (ae.n a0) (ae.s a0) (ae.keys a0) (ae.kids a0) (ae.kind a1) (ae.n a1) (ae.s a1) (ae.keys a1) (ae.kids a1) n (0:Int))))))):=by
  refine Eq.trans (b:=(cond ((ae.kind a0) !=(ae.kind a1))
  (k [.d .bool false])
  (cond ((ae.n a0) !=(ae.n a1))
   (k [.d .bool false])
   (cond (!(cy (ae.s a0) (ae.s a1)))
    (k [.d .bool false])
    (cond (((ae.keys a0).length:Int) !=((ae.keys a1).length:Int))
     (k [.d .bool false])
     (cond (((ae.kids a0).length:Int) !=((ae.kids a1).length:Int))
      (k [.d .bool false])
      (iter (fun st k=>ev (pd N) yT n (bC [1,1,0,1,0,0] yh) st k) n (Im (0:Int) (ae.kind a0) (ae.n a0) (ae.s a0) (ae.keys a0) (ae.kids a0) (ae.kind a1) (ae.n a1) (ae.s a1) (ae.keys a1) (ae.kids a1)) (QN N n (aI (pd N) [.ro,.ro] [false] true [.tmp 4] [4] [.d .node a0,.d .node a1] k))))))))) (by kernel_rfl) ?_
  simp only[QL,QO,QP,D0,D1,D2]
theorem QQ(N:Nat)(a0:ae)(a1:ae)(hg:pQ ag a0 a1=true)(hm:aa1 [.d .node a0,.d .node a1]=N):∃keep rounds,∀{R:Type}(k:Kt R),aG (pd N) keep rounds yh [.ro,.ro] [false] true [.tmp 4] [4] [.d .node a0,.d .node a1] k=k [.d .bool (iM a0 a1)]:=by
 have hm:eF a0 a1=N:=hm
 subst hm
 simp only[pQ,Bool.and_eq_true] at hg
 obtain⟨fP,hg1⟩:=hg
 have EI:=fP
 have hq1:=hg1
 rw[bf] at EI hq1
 simp only[Bool.and_eq_true] at EI hq1
 have lk:=aR EI.2.2.2.1
 have li:=aR EI.2.2.2.2
 refine⟨yT,a0.keys.length+a0.kids.length+1,fun {R} k=> ?_⟩
 rw[VX,Db]
 by_cases hk:a0.keys.length=a1.keys.length
 rotate_left
 ·rw[A7 (x:=a0.keys) (y:=a1.keys) (fun e=>hk (by rw[e])),A9 hk]
  simp only[bne]
  cases (a0.kind==a1.kind)<;>cases (a0.n==a1.n)<;>cases cy a0.s a1.s<;>rfl
 by_cases hi:a0.kids.length=a1.kids.length
 rotate_left
 ·rw[A7 (x:=a0.kids) (y:=a1.kids) (fun e=>hi (by rw[e])),A9 hi,show ((a0.keys.length:Int) !=(a1.keys.length:Int))=false by simp[hk]]
  simp only[bne]
  cases (a0.kind==a1.kind)<;>cases (a0.n==a1.n)<;>cases cy a0.s a1.s<;>cases iM a0.keys a1.keys<;>rfl
 rw[show ((a0.keys.length:Int) !=(a1.keys.length:Int))=false by simp[hk],show ((a0.kids.length:Int) !=(a1.kids.length:Int))=false by simp[hi]]
 simp only[bne,cond_false]
 cases (a0.kind==a1.kind)
 ·rfl
 cases (a0.n==a1.n)
 ·rfl
 cases cy a0.s a1.s
 ·rfl
 simp only[Bool.not_true,cond_false,Bool.true_and]
 refine Eq.trans (jq (n:=a0.keys.length) (F:=fun m i=>yi (eF a0 a1) (a0.keys.length+a0.kids.length+1) _ _ _ _ _ a0.keys _ _ _ _ a1.keys _ m i) (p:=fun j=>cy (al (t:= .str) a0.keys j) (al (t:= .str) a1.keys j)) (good:=_) (bad:=k [.d .bool false])
  (fun m j hj=> ?_) (fun m=>by simp only[yi,iX,cond_false];rfl) a0.keys.length 0 (a0.keys.length+a0.kids.length+1) (by omega) (by omega)) ?_
 ·obtain⟨h1,h0,hw,ht⟩:=idx hj (by omega)
  obtain⟨h2,_,_,_⟩:=idx (show j<a1.keys.length by omega) (by omega)
  simp only[yi,h1,h0,h2,hw,ht,Bool.and_self,cond_true]
  cases cy (al (t:= .str) a0.keys j) (al (t:= .str) a1.keys j)<;>rfl
 rw[rH hk (fun j x y hx hy=>by rw[bm (t:= .str) hx,bm (t:= .str) hy,←A8])]
 cases iM a0.keys a1.keys
 ·rfl
 simp only[cond_true,Bool.true_and]
 refine Eq.trans (jq (n:=a0.kids.length) (F:=fun m i=>ug (eF a0 a1) (a0.keys.length+a0.kids.length+1) _ _ _ _ _ _ a0.kids _ _ _ _ a1.kids m i) (p:=fun j=>iM (al (t:= .node) a0.kids j) (al (t:= .node) a1.kids j)) (good:=k [.d .bool true]) (bad:=k [.d .bool false])
  (fun m j hj=> ?_) (fun m=>by simp only[ug,iX,cond_false]) a0.kids.length 0 (a0.keys.length+a0.kids.length+1) (by omega) (by omega)) ?_
 ·obtain⟨h1,h0,hw,ht⟩:=idx hj (by omega)
  obtain⟨h2,_,_,_⟩:=idx (show j<a1.kids.length by omega) (by omega)
  have ha:=w5 (t:= .node) EI.2.2.2.2 hj
  have hb:=w5 (t:= .node) hq1.2.2.2.2 (show j<a1.kids.length by omega)
  have SJ:Nat.blt (eF (al (t:= .node) a0.kids j) (al (t:= .node) a1.kids j)) (eF a0 a1)=true:=by
   obtain⟨x,hx,_⟩:=cH hj
   have:=rK (f:=ao) (List.mem_of_getElem? hx)
   rw[bm (t:= .node) hx,Nat.blt_eq];simp only[eF,bV a0];omega
  simp only[ug,h1,h0,h2,hw,ht,Bool.and_self,cond_true,pQ,az,aK,ha,hb,SJ]
  cases iM (al (t:= .node) a0.kids j) (al (t:= .node) a1.kids j)<;>rfl
 ·rw[rH hi (fun j x y hx hy=>by rw[bm (t:= .node) hx,bm (t:= .node) hy])]
  cases iM a0.kids a1.kids<;>rfl
noncomputable def s24:Gm.Spec:=Gm.Spec.of [.ro,.ro] [false] true q24
theorem QR:Gm.Good Tryz.prog (24,s24):=by
 refine⟨⟨gJ aa1 fun N hr=> ?_,_,Tryz.func24,by kernel_rfl,of_decide_eq_true (by kernel_rfl)⟩,Gm.Spec.ax _ _ _ _⟩
 have hl:∀x∈[(24,afG N)],Gm.Good Tryz.prog x:=bt.2 ⟨⟨⟨hr,_,Tryz.func24,by kernel_rfl,of_decide_eq_true (by kernel_rfl)⟩,Gm.Spec.ax _ _ _ _⟩,gw⟩
 intro R
 refine aD (E:=pd N) (aL.env hl) (bQ.cq hl) Tryz.func24 (by kernel_rfl:Tryz.f24.body=some yh) [4] (by kernel_rfl) ?_
 intro ds outs h
 obtain⟨h,hm⟩:=dg h
 unfold q24 at h
 split at h
 ·simp only[Option.some.injEq,Prod.mk.injEq] at h;obtain⟨hg,h⟩:=h;cases h;exact QQ N _ _ hg hm
 ·cases h
noncomputable def Ip(y0:List BA)(y1:List BA)(y2:Int):St:=⟨[(0,.c (.one (.ro .str y0))),(1,.c (.one (.ro .str y1))),(5,.c (.one (.v (.int .i64 y2))))],[],[]⟩
noncomputable def QS:St:=⟨[(4,.c (.one (.v (.bool false))))],[],[]⟩
noncomputable def Ap(y0:List BA)(y1:List BA)(y2:Int)(y3:Bool):St:=⟨[(0,.c (.one (.ro .str y0))),(1,.c (.one (.ro .str y1))),(5,.c (.one (.v (.int .i64 y2)))),(15,.c (.one (.v (.bool y3))))],[],[]⟩
noncomputable def Gw:Code:=(Tryz.f58.body).getD .skip
def Ko:Nat→Kp:=fa [⟨[0,1],[],[],[]⟩,⟨[0,1,5],[],[],[]⟩,⟨[0,1,5,15],[],[],[]⟩,⟨[0,1,5],[],[],[]⟩,⟨[0,1,5,26],[],[],[]⟩,⟨[4],[],[],[]⟩,⟨[4],[],[],[]⟩]
noncomputable def yU:Env:=bQ.env []
noncomputable def qn{R:Type}(n:Nat)(x0:Option R)(x1:Int→Bool→Option R)(x2:Int→Option R)(wC:List BA)(wA:List BA):Nat→Int→Option R
  |0,_=>none
  |m+1,wB=>
    (cond (decide (wB<(wC.length:Int)))
   (cond (decide (wB<(wA.length:Int)))
    (cond ((decide ((0:Int)≤wB))&&(decide (wB<(wC.length:Int))))
     (cond ((decide ((0:Int)≤wB))&&(decide (wB<(wA.length:Int))))
      (cond (!(cy (al (t:= .str) wC (Int.toNat wB)) (al (t:= .str) wA (Int.toNat wB))))
       (x0)
       (qn n x0 x1 x2 wC wA m (IntKind.wrap .i64 (wB+(1:Int)))))
      none)
     none)
    (x1 wB (decide (wB<(wA.length:Int)))))
   (x2 wB))
theorem VY{R:Type}(n:Nat)(k':Kx R)(wC:List BA)(wA:List BA)(wB:Int):ev yU Ko n (bC [1,0,1,0,0] Gw) (Ip wC wA wB) k'=
 (cond (decide (wB<(wC.length:Int)))
 (cond (decide (wB<(wA.length:Int)))
 (cond ((decide ((0:Int)≤wB))&&(decide (wB<(wC.length:Int))))
 (cond ((decide ((0:Int)≤wB))&&(decide (wB<(wA.length:Int))))
 (cond (!(cy (al (t:= .str) wC (Int.toNat wB)) (al (t:= .str) wA (Int.toNat wB))))
 (k' .ret QS)
 (k' .normal (Ip wC wA (IntKind.wrap .i64 (wB+(1:Int))))))
 none)
 none)
 (k' (.exit 0) (Ap wC wA wB (decide (wB<(wA.length:Int))))))
 (k' (.exit 0) (Ap wC wA wB false))):=by kernel_rfl
theorem QT{R:Type}(n:Nat)(k':Kx R)(wC:List BA)(wA:List BA):∀(m:Nat)(wB:Int),iter (fun st k=>ev yU Ko n (bC [1,0,1,0,0] Gw) st k) m (Ip wC wA wB) k'=qn n (k' .ret QS) (fun(wT:Int)(uB:Bool)=>k' (.exit 0) (Ap wC wA wT uB)) (fun(wT:Int)=>k' (.exit 0) (Ap wC wA wT false)) wC wA m wB:=by
 intro m;induction m with
 |zero=>intros;rfl
 |succ m ih=>
  intro wB
  simp only[iter]
  rw[VY]
  simp only[ih,qn]
noncomputable def Iq{R:Type}(n:Nat)(k':Kx R):Kx R:=(b8 0 (eP yU Ko n (bC [1,1] Gw) k'))
theorem QU{R:Type}(n:Nat)(k:Kt R)(a0:List BA)(a1:List BA):Iq n (aI yU [.ro,.ro] [false] true [.tmp 4] [4] [.d (.sl .str) a0,.d (.sl .str) a1] k) .ret QS=
 (k [.d .bool false]):=by kernel_rfl
theorem QV{R:Type}(n:Nat)(k:Kt R)(a0:List BA)(a1:List BA)(wC:List BA)(wA:List BA)(wT:Int)(uB:Bool):Iq n (aI yU [.ro,.ro] [false] true [.tmp 4] [4] [.d (.sl .str) a0,.d (.sl .str) a1] k) (.exit 0) (Ap wC wA wT uB)=
 (k [.d .bool (decide ((wC.length:Int)<(wA.length:Int)))]):=by kernel_rfl
theorem QW{R:Type}(n:Nat)(k:Kt R)(a0:List BA)(a1:List BA)(wC:List BA)(wA:List BA)(wT:Int):Iq n (aI yU [.ro,.ro] [false] true [.tmp 4] [4] [.d (.sl .str) a0,.d (.sl .str) a1] k) (.exit 0) (Ap wC wA wT false)=
 (k [.d .bool (decide ((wC.length:Int)<(wA.length:Int)))]):=by kernel_rfl
theorem VZ{R:Type}(n:Nat)(k:Kt R)(a0:List BA)(a1:List BA):aG yU Ko n Gw [.ro,.ro] [false] true [.tmp 4] [4] [.d (.sl .str) a0,.d (.sl .str) a1] k=
 (qn n (k [.d .bool false]) (fun(wT:Int)(uB:Bool)=>
 (k [.d .bool (decide ((a0.length:Int)<(a1.length:Int)))])) (fun(wT:Int)=>
 (k [.d .bool (decide ((a0.length:Int)<(a1.length:Int)))])) a0 a1 n (0:Int)):=by
 refine Eq.trans (b:=(iter (fun st k=>ev yU Ko n (bC [1,0,1,0,0] Gw) st k) n (Ip a0 a1 (0:Int)) (Iq n (aI yU [.ro,.ro] [false] true [.tmp 4] [4] [.d (.sl .str) a0,.d (.sl .str) a1] k)))) (by kernel_rfl) ?_
 simp only[QT,QU,QV,QW]
theorem QX(a0:List BA)(a1:List BA)(hg:gFr a0 a1=true):∃keep rounds,∀{R:Type}(k:Kt R),aG yU keep rounds Gw [.ro,.ro] [false] true [.tmp 4] [4] [.d (.sl .str) a0,.d (.sl .str) a1] k=k [.d .bool (kT a0 a1)]:=by
 simp only[gFr,Bool.and_eq_true] at hg
 have l0:=ng hg.1
 have l1:=ng hg.2
 refine⟨Ko,a0.length+a1.length+1,fun {R} k=> ?_⟩
 rw[VZ]
 unfold kT
 by_cases bU:a0.length<a1.length
 ·rw[decide_eq_true (show (a0.length:Int)<(a1.length:Int) by omega)]
  refine Eq.trans (jq (n:=a0.length) (F:=fun m i=>qn (a0.length+a1.length+1) _ _ _ a0 a1 m i) (p:=fun j=>cy (al (t:= .str) a0 j) (al (t:= .str) a1 j)) (good:=k [.d .bool true]) (bad:=k [.d .bool false])
   (fun m j hj=> ?_) (fun m=>by simp only[qn,iX,cond_false]) a0.length 0 (a0.length+a1.length+1) (by omega) (by omega)) ?_
  ·obtain⟨h1,h0,hw,ht⟩:=idx hj (by omega)
   obtain⟨h2,_,_,_⟩:=idx (show j<a1.length by omega) (by omega)
   simp only[qn,h1,h0,h2,hw,ht,Bool.and_self,cond_true]
   cases cy (al (t:= .str) a0 j) (al (t:= .str) a1 j)<;>rfl
  ·rw[Fw (by omega)]
   cases iM (a1.take a0.length) a0<;>rfl
 ·rw[decide_eq_false (show ¬((a0.length:Int)<(a1.length:Int)) by omega)]
  refine Eq.trans (jq (n:=a1.length) (F:=fun m i=>qn (a0.length+a1.length+1) _ _ _ a0 a1 m i) (p:=fun j=>cy (al (t:= .str) a0 j) (al (t:= .str) a1 j)) (good:=k [.d .bool false]) (bad:=k [.d .bool false])
   (fun m j hj=> ?_) (fun m=> ?_) a1.length 0 (a0.length+a1.length+1) (by omega) (by omega)) ?_
  ·obtain⟨h1,h0,hw,ht⟩:=idx hj (by omega)
   obtain⟨h2,_,_,_⟩:=idx (show j<a0.length by omega) (by omega)
   simp only[qn,h1,h0,h2,hw,ht,Bool.and_self,cond_true]
   cases cy (al (t:= .str) a0 j) (al (t:= .str) a1 j)<;>rfl
  ·have hn:decide ((a1.length:Int)<(a1.length:Int))=false:=decide_eq_false (by omega)
   simp only[qn,hn,cond_false]
   cases decide ((a1.length:Int)<(a0.length:Int))<;>rfl
  ·cases rE (fun j=>cy (al (t:= .str) a0 j) (al (t:= .str) a1 j)) 0 a1.length<;>rfl
noncomputable def q58:Qt
 | [.d (.sl .str) a0,.d (.sl .str) a1]=>some ((gFr a0 a1),[.d .bool (kT a0 a1)])
 |_=>none
noncomputable def s58:Gm.Spec:=Gm.Spec.of [.ro,.ro] [false] true q58
theorem aa2:Gm.Good Tryz.prog (58,s58):=by
 have hl:∀x∈([]:List (Nat×Gm.Spec)),Gm.Good Tryz.prog x:=fun _ h=>by cases h
 refine⟨⟨aD (aL.env hl) (bQ.cq hl) Tryz.func58 (by kernel_rfl:Tryz.f58.body=some Gw) [4] (by kernel_rfl) ?_,_,Tryz.func58,by kernel_rfl,of_decide_eq_true (by kernel_rfl)⟩,Gm.Spec.ax _ _ _ _⟩
 intro ds outs h
 unfold q58 at h
 split at h
 ·simp only[Option.some.injEq,Prod.mk.injEq] at h;obtain⟨hg,h⟩:=h;cases h;exact QX _ _ hg
 ·cases h
noncomputable def aa3:Code:=(Tryz.f56.body).getD .skip
def afI:Nat→Kp:=fa [⟨[1,4,6,7,8],[],[],[]⟩,⟨[7,8,10,11],[],[],[]⟩,⟨[7,8,10,20],[],[],[]⟩,⟨[8,9],[],[],[]⟩,⟨[8,9],[],[],[]⟩]
noncomputable def afJ:Env:=bQ.env [(16,s16),(27,x3)]
theorem V0{R:Type}(n:Nat)(k:Kt R)(a0:ae)(a1:List BA)(a2:ae)(a3:ae):aG afJ afI n aa3 [.ro,.ro,.ro,.ro] [false,false] false [.cell 8 27,.tmp 9] [27,4] [.d .node a0,.d (.sl .str) a1,.d .node a2,.d .node a3] k=
 (cond (gP (eN a0) a1 (eN a2))
 (cond (!((aW (eN a0) a1 (eN a2)).2))
 (cond (ag (eN a3))
 (k [.d .node (eN a3),.d .bool false])
 none)
 (k [.d .node (eN ((aW (eN a0) a1 (eN a2)).1)),.d .bool true]))
 none):=by kernel_rfl
theorem QY(a0:ae)(a1:List BA)(a2:ae)(a3:ae)(hg:r3 a0 a1 a2 a3=true):∃keep rounds,∀{R:Type}(k:Kt R),aG afJ keep rounds aa3 [.ro,.ro,.ro,.ro] [false,false] false [.cell 8 27,.tmp 9] [27,4] [.d .node a0,.d (.sl .str) a1,.d .node a2,.d .node a3] k=k [.d .node ((tn a0 a1 a2 a3).1),.d .bool ((tn a0 a1 a2 a3).2)]:=by
 simp only[r3,Bool.and_eq_true] at hg
 refine⟨afI,0,fun {R} k=> ?_⟩
 rw[V0]
 simp only[az,aK,hg.1,hg.2,cond_true]
 show _=k [.d .node (tn a0 a1 a2 a3).1,.d .bool (tn a0 a1 a2 a3).2]
 unfold tn
 cases (aW a0 a1 a2).2<;>rfl
noncomputable def q56:Qt
 | [.d .node a0,.d (.sl .str) a1,.d .node a2,.d .node a3]=>some ((r3 a0 a1 a2 a3),[.d .node ((tn a0 a1 a2 a3).1),.d .bool ((tn a0 a1 a2 a3).2)])
 |_=>none
noncomputable def s56:Gm.Spec:=Gm.Spec.of [.ro,.ro,.ro,.ro] [false,false] false q56
theorem aa4:Gm.Good Tryz.prog (56,s56):=by
 have hl:∀x∈[(16,s16),(27,x3)],Gm.Good Tryz.prog x:=bt.2 ⟨Gr,bt.2 ⟨jZ,gw⟩⟩
 refine⟨⟨aD (aL.env hl) (bQ.cq hl) Tryz.func56 (by kernel_rfl:Tryz.f56.body=some aa3) [27,4] (by kernel_rfl) ?_,_,Tryz.func56,by kernel_rfl,of_decide_eq_true (by kernel_rfl)⟩,Gm.Spec.ax _ _ _ _⟩
 intro ds outs h
 unfold q56 at h
 split at h
 ·simp only[Option.some.injEq,Prod.mk.injEq] at h;obtain⟨hg,h⟩:=h;cases h;exact QY _ _ _ _ hg
 ·cases h
noncomputable def aa5:Code:=(Tryz.f62.body).getD .skip
def afK:Nat→Kp:=fa [⟨[2,3,4],[],[],[]⟩,⟨[2,3,4,17],[],[],[]⟩,⟨[2,3,4,17,18],[],[],[]⟩,⟨[4,5],[],[],[]⟩,⟨[2,3,4,17,28],[],[],[]⟩,⟨[4,5],[],[],[]⟩,⟨[2,3,4,17,36],[],[],[]⟩,⟨[2,3,4,41],[],[],[]⟩,⟨[4,5],[],[],[]⟩,⟨[3,4,6,7],[],[],[]⟩,⟨[3,4,6,53],[],[],[]⟩,⟨[4,5],[],[],[]⟩,⟨[4,5],[],[],[]⟩,⟨[2,3,4,63],[],[],[]⟩,⟨[2,3,4,8,9],[],[],[]⟩,⟨[4,5],[],[],[]⟩,⟨[2,3,4,10,11],[],[],[]⟩,⟨[2,3,4,10,99],[],[],[]⟩,⟨[4,5],[],[],[]⟩,⟨[2,3,4,10,103],[],[],[]⟩,⟨[2,3,4,10,12],[],[],[]⟩,⟨[2,3,4,10,13],[],[],[]⟩,⟨[2,3,4,10,13,14,15],[],[],[]⟩,⟨[2,3,4,10,14,132],[],[],[]⟩,⟨[4,5],[],[],[]⟩,⟨[2,3,4,10],[],[],[]⟩,⟨[4,5],[],[],[]⟩]
noncomputable def afL:Env:=bQ.env [(9,s9),(23,pU),(30,s30),(72,s72),(73,s73),(74,s74)]
theorem V1{R:Type}(n:Nat)(k:Kt R)(a0:ae)(a1:ai):aG afL afK n aa5 [.ro,.ro] [false,false] true [.cell 4 27,.tmp 5] [27,4] [.d .node a0,.d .pop a1] k=
 (cond ((ai.kind a1)==(1:Int))
 (cond (gP (eN a0) (ai.path a1) (eN (ai.x a1)))
 (k [.d .node (eN ((aW (eN a0) (ai.path a1) (eN (ai.x a1))).1)),.d .bool ((aW (eN a0) (ai.path a1) (eN (ai.x a1))).2)])
 none)
 (cond ((ai.kind a1)==(2:Int))
 (cond ((fun(x:ae)(y:List BA)=>ag x&&dS bH y) (eN a0) (ai.path a1))
 (k [.d .node (eN ((aC (eN a0) (ai.path a1)).1)),.d .bool ((aC (eN a0) (ai.path a1)).2)])
 none)
 (cond ((ai.kind a1)==(3:Int))
 (cond (((ai.path a1).length:Int)==(0:Int))
 (cond (ag (eN (ai.x a1)))
 (k [.d .node (eN (ai.x a1)),.d .bool true])
 none)
 (cond ((fun(x:ae)(y:List BA)=>ag x&&dS bH y) (eN a0) (ai.path a1))
 (cond (!((aC (eN a0) (ai.path a1)).2))
 (k [.d .node (⟨(0:Int),(0:Int),ByteArray.empty,([]:List BA),([]:List ae)⟩:ae),.d .bool false])
 (cond (gP (eN ((aC (eN a0) (ai.path a1)).1)) (ai.path a1) (eN (ai.x a1)))
 (k [.d .node (eN ((aW (eN ((aC (eN a0) (ai.path a1)).1)) (ai.path a1) (eN (ai.x a1))).1)),.d .bool ((aW (eN ((aC (eN a0) (ai.path a1)).1)) (ai.path a1) (eN (ai.x a1))).2)])
 none))
 none))
 (cond ((ai.kind a1)==(4:Int))
 (cond ((fun(x:ae)(y:List BA)=>ag x&&dS bH y) (eN a0) (ai.path a1))
 (cond (ag (eN a0))
 (cond ((br (eN a0) (ai.path a1)).2)
 (cond (pQ ag (eN ((br (eN a0) (ai.path a1)).1)) (eN (ai.x a1)))
 (k [.d .node (eN a0),.d .bool (iM (eN ((br (eN a0) (ai.path a1)).1)) (eN (ai.x a1)))])
 none)
 (k [.d .node (eN a0),.d .bool false]))
 none)
 none)
 (cond ((fun(x:ae)(y:List BA)=>ag x&&dS bH y) (eN a0) (ai.src a1))
 (cond (!((br (eN a0) (ai.src a1)).2))
 (k [.d .node (⟨(0:Int),(0:Int),ByteArray.empty,([]:List BA),([]:List ae)⟩:ae),.d .bool false])
 (cond ((ai.kind a1) !=(5:Int))
 (cond ((ai.kind a1) !=(6:Int))
 (k [.d .node (⟨(0:Int),(0:Int),ByteArray.empty,([]:List BA),([]:List ae)⟩:ae),.d .bool false])
 (cond ((ai.kind a1)==(5:Int))
 (cond (decide (((ai.path a1).length:Int)>((ai.src a1).length:Int)))
 (cond ((decide ((0:Int)≤((ai.src a1).length:Int)))&&(decide (((ai.src a1).length:Int)≤((ai.path a1).length:Int))))
 (cond ((fun(x y:List BA)=>fk x) (((ai.path a1).take (Int.toNat ((ai.src a1).length:Int))).drop 0) (ai.src a1))
 (cond ((fun(x:ae)(y:List BA)=>ag x&&dS bH y) (eN a0) (ai.src a1))
 (cond (iM (((ai.path a1).take (Int.toNat ((ai.src a1).length:Int))).drop 0) (ai.src a1))
 (k [.d .node (⟨(0:Int),(0:Int),ByteArray.empty,([]:List BA),([]:List ae)⟩:ae),.d .bool false])
 (cond (!((aC (eN a0) (ai.src a1)).2))
 (k [.d .node (⟨(0:Int),(0:Int),ByteArray.empty,([]:List BA),([]:List ae)⟩:ae),.d .bool false])
 (cond (gP (eN ((aC (eN a0) (ai.src a1)).1)) (ai.path a1) (eN ((br (eN a0) (ai.src a1)).1)))
 (k [.d .node (eN ((aW (eN ((aC (eN a0) (ai.src a1)).1)) (ai.path a1) (eN ((br (eN a0) (ai.src a1)).1))).1)),.d .bool ((aW (eN ((aC (eN a0) (ai.src a1)).1)) (ai.path a1) (eN ((br (eN a0) (ai.src a1)).1))).2)])
 none)))
 none)
 none)
 none)
 (cond ((fun(x:ae)(y:List BA)=>ag x&&dS bH y) (eN a0) (ai.src a1))
 (cond (!((aC (eN a0) (ai.src a1)).2))
 (k [.d .node (⟨(0:Int),(0:Int),ByteArray.empty,([]:List BA),([]:List ae)⟩:ae),.d .bool false])
 (cond (gP (eN ((aC (eN a0) (ai.src a1)).1)) (ai.path a1) (eN ((br (eN a0) (ai.src a1)).1)))
 (k [.d .node (eN ((aW (eN ((aC (eN a0) (ai.src a1)).1)) (ai.path a1) (eN ((br (eN a0) (ai.src a1)).1))).1)),.d .bool ((aW (eN ((aC (eN a0) (ai.src a1)).1)) (ai.path a1) (eN ((br (eN a0) (ai.src a1)).1))).2)])
 none))
 none))
 (cond (gP (eN a0) (ai.path a1) (eN ((br (eN a0) (ai.src a1)).1)))
 (k [.d .node (eN ((aW (eN a0) (ai.path a1) (eN ((br (eN a0) (ai.src a1)).1))).1)),.d .bool ((aW (eN a0) (ai.path a1) (eN ((br (eN a0) (ai.src a1)).1))).2)])
 none)))
 (cond ((ai.kind a1)==(5:Int))
 (cond (decide (((ai.path a1).length:Int)>((ai.src a1).length:Int)))
 (cond ((decide ((0:Int)≤((ai.src a1).length:Int)))&&(decide (((ai.src a1).length:Int)≤((ai.path a1).length:Int))))
 (cond ((fun(x y:List BA)=>fk x) (((ai.path a1).take (Int.toNat ((ai.src a1).length:Int))).drop 0) (ai.src a1))
 (cond ((fun(x:ae)(y:List BA)=>ag x&&dS bH y) (eN a0) (ai.src a1))
 (cond (iM (((ai.path a1).take (Int.toNat ((ai.src a1).length:Int))).drop 0) (ai.src a1))
 (k [.d .node (⟨(0:Int),(0:Int),ByteArray.empty,([]:List BA),([]:List ae)⟩:ae),.d .bool false])
 (cond (!((aC (eN a0) (ai.src a1)).2))
 (k [.d .node (⟨(0:Int),(0:Int),ByteArray.empty,([]:List BA),([]:List ae)⟩:ae),.d .bool false])
 (cond (gP (eN ((aC (eN a0) (ai.src a1)).1)) (ai.path a1) (eN ((br (eN a0) (ai.src a1)).1)))
 (k [.d .node (eN ((aW (eN ((aC (eN a0) (ai.src a1)).1)) (ai.path a1) (eN ((br (eN a0) (ai.src a1)).1))).1)),.d .bool ((aW (eN ((aC (eN a0) (ai.src a1)).1)) (ai.path a1) (eN ((br (eN a0) (ai.src a1)).1))).2)])
 none)))
 none)
 none)
 none)
 (cond ((fun(x:ae)(y:List BA)=>ag x&&dS bH y) (eN a0) (ai.src a1))
 (cond (!((aC (eN a0) (ai.src a1)).2))
 (k [.d .node (⟨(0:Int),(0:Int),ByteArray.empty,([]:List BA),([]:List ae)⟩:ae),.d .bool false])
 (cond (gP (eN ((aC (eN a0) (ai.src a1)).1)) (ai.path a1) (eN ((br (eN a0) (ai.src a1)).1)))
 (k [.d .node (eN ((aW (eN ((aC (eN a0) (ai.src a1)).1)) (ai.path a1) (eN ((br (eN a0) (ai.src a1)).1))).1)),.d .bool ((aW (eN ((aC (eN a0) (ai.src a1)).1)) (ai.path a1) (eN ((br (eN a0) (ai.src a1)).1))).2)])
 none))
 none))
 (cond (gP (eN a0) (ai.path a1) (eN ((br (eN a0) (ai.src a1)).1)))
 (k [.d .node (eN ((aW (eN a0) (ai.path a1) (eN ((br (eN a0) (ai.src a1)).1))).1)),.d .bool ((aW (eN a0) (ai.path a1) (eN ((br (eN a0) (ai.src a1)).1))).2)])
 none))))
 none))))):=by kernel_rfl
theorem QZ(a0:ae)(a1:ai)(hg:B9 a0 a1=true):∃keep rounds,∀{R:Type}(k:Kt R),aG afL keep rounds aa5 [.ro,.ro] [false,false] true [.cell 4 27,.tmp 5] [27,4] [.d .node a0,.d .pop a1] k=k [.d .node ((cB a0 a1).1),.d .bool ((cB a0 a1).2)]:=by
 have yF:=hg
 simp only[B9,Bool.and_eq_true] at hg
 obtain⟨fP,hp⟩:=hg
 obtain⟨h1,h2,h3⟩:=rZ hp
 have c1:ag (aC a0 a1.path).1=true:=(lf fP).1
 have c2:ag (aC a0 a1.src).1=true:=(lf fP).1
 have t1:ag (br a0 a1.path).1=true:=ni fP
 have t2:ag (br a0 a1.src).1=true:=ni fP
 have g1:gP a0 a1.path a1.x=true:=by simp only[gP,fP,h1,h3,Bool.and_self]
 have g2:gP (aC a0 a1.path).1 a1.path a1.x=true:=by simp only[gP,c1,h1,h3,Bool.and_self]
 have g3:gP (aC a0 a1.src).1 a1.path (br a0 a1.src).1=true:=by simp only[gP,c2,h1,t2,Bool.and_self]
 have g4:gP a0 a1.path (br a0 a1.src).1=true:=by simp only[gP,fP,h1,t2,Bool.and_self]
 have l1:=aR h1
 have l2:=aR h2
 have gl:fk (a1.path.take a1.src.length)=true:=w8 (by rw[List.length_take];omega)
 have n0:decide ((0:Int)≤(a1.src.length:Int))=true:=decide_eq_true (by omega)
 refine⟨afK,0,fun {R} k=> ?_⟩
 rw[V1]
 simp only[az,aK,fP,h1,h2,h3,c1,c2,t1,t2,g1,g2,g3,g4,pQ,Bool.and_self,cond_true,Int.toNat_natCast,List.drop_zero,gl,n0,Bool.true_and]
 show _=k [.d .node (cB a0 a1).1,.d .bool (cB a0 a1).2]
 unfold cB kT
 simp only[bne]
 cases a1.kind==(1:Int)
 rotate_left
 ·rfl
 cases a1.kind==(2:Int)
 rotate_left
 ·rfl
 cases a1.kind==(3:Int)
 rotate_left
 ·cases (a1.path.length:Int)==(0:Int)
  ·cases (aC a0 a1.path).2<;>rfl
  ·rfl
 cases a1.kind==(4:Int)
 rotate_left
 ·cases (br a0 a1.path).2<;>rfl
 cases (br a0 a1.src).2
 ·rfl
 cases a1.kind==(5:Int)
 ·cases a1.kind==(6:Int)<;>rfl
 by_cases hl:(a1.path.length:Int)>(a1.src.length:Int)
 ·rw[decide_eq_true hl,decide_eq_true (show (a1.src.length:Int)≤(a1.path.length:Int) by omega)]
  simp only[cond_true,cond_false,Bool.not_true,Bool.not_false]
  cases iM (a1.path.take a1.src.length) a1.src
  ·cases (aC a0 a1.src).2<;>rfl
  ·rfl
 ·rw[decide_eq_false hl]
  simp only[cond_true,cond_false,Bool.not_true,Bool.not_false]
  cases (aC a0 a1.src).2<;>rfl
noncomputable def q62:Qt
 | [.d .node a0,.d .pop a1]=>some ((B9 a0 a1),[.d .node ((cB a0 a1).1),.d .bool ((cB a0 a1).2)])
 |_=>none
noncomputable def s62:Gm.Spec:=Gm.Spec.of [.ro,.ro] [false,false] true q62
theorem aa6:Gm.Good Tryz.prog (62,s62):=by
 have hl:∀x∈[(9,s9),(23,pU),(30,s30),(72,s72),(73,s73),(74,s74)],Gm.Good Tryz.prog x:=bt.2 ⟨QI,bt.2 ⟨ic,bt.2 ⟨Qz,bt.2 ⟨aau,bt.2 ⟨aaG,bt.2 ⟨Z8,gw⟩⟩⟩⟩⟩⟩
 refine⟨⟨aD (aL.env hl) (bQ.cq hl) Tryz.func62 (by kernel_rfl:Tryz.f62.body=some aa5) [27,4] (by kernel_rfl) ?_,_,Tryz.func62,by kernel_rfl,of_decide_eq_true (by kernel_rfl)⟩,Gm.Spec.ax _ _ _ _⟩
 intro ds outs h
 unfold q62 at h
 split at h
 ·simp only[Option.some.injEq,Prod.mk.injEq] at h;obtain⟨hg,h⟩:=h;cases h;exact QZ _ _ hg
 ·cases h
noncomputable def aa7:Code:=(Tryz.f37.body).getD .skip
def afM:Nat→Kp:=fa [⟨[2,3,4],[],[],[]⟩,⟨[2,4,6,7],[],[],[]⟩,⟨[2,4,6,15],[],[],[]⟩,⟨[4,5],[],[],[]⟩,⟨[4,5],[],[],[]⟩]
noncomputable def afN:Env:=bQ.env [(23,pU),(62,s62)]
theorem V2{R:Type}(n:Nat)(k:Kt R)(a0:ae)(a1:ai):aG afN afM n aa7 [.ro,.ro] [false,false] true [.cell 4 27,.tmp 5] [27,4] [.d .node a0,.d .pop a1] k=
 (cond (B9 (eN a0) (⟨(ai.kind a1),(ai.path a1),(ai.src a1),(eN (ai.x a1))⟩:ai))
 (cond (!((cB (eN a0) (⟨(ai.kind a1),(ai.path a1),(ai.src a1),(eN (ai.x a1))⟩:ai)).2))
 (cond (ag (eN a0))
 (k [.d .node (eN a0),.d .bool false])
 none)
 (k [.d .node (eN ((cB (eN a0) (⟨(ai.kind a1),(ai.path a1),(ai.src a1),(eN (ai.x a1))⟩:ai)).1)),.d .bool true]))
 none):=by kernel_rfl
theorem Q0(a0:ae)(a1:ai)(hg:B9 a0 a1=true):∃keep rounds,∀{R:Type}(k:Kt R),aG afN keep rounds aa7 [.ro,.ro] [false,false] true [.cell 4 27,.tmp 5] [27,4] [.d .node a0,.d .pop a1] k=k [.d .node ((aU a0 a1).1),.d .bool ((aU a0 a1).2)]:=by
 have fP:ag a0=true:=by simp only[B9,Bool.and_eq_true] at hg;exact hg.1
 refine⟨afM,0,fun {R} k=> ?_⟩
 rw[V2]
 simp only[az,aK,Bj,hg,fP,cond_true]
 show _=k [.d .node (aU a0 a1).1,.d .bool (aU a0 a1).2]
 unfold aU
 cases (cB a0 a1).2<;>rfl
noncomputable def q37:Qt
 | [.d .node a0,.d .pop a1]=>some ((B9 a0 a1),[.d .node ((aU a0 a1).1),.d .bool ((aU a0 a1).2)])
 |_=>none
noncomputable def s37:Gm.Spec:=Gm.Spec.of [.ro,.ro] [false,false] true q37
theorem aa8:Gm.Good Tryz.prog (37,s37):=by
 have hl:∀x∈[(23,pU),(62,s62)],Gm.Good Tryz.prog x:=bt.2 ⟨ic,bt.2 ⟨aa6,gw⟩⟩
 refine⟨⟨aD (aL.env hl) (bQ.cq hl) Tryz.func37 (by kernel_rfl:Tryz.f37.body=some aa7) [27,4] (by kernel_rfl) ?_,_,Tryz.func37,by kernel_rfl,of_decide_eq_true (by kernel_rfl)⟩,Gm.Spec.ax _ _ _ _⟩
 intro ds outs h
 unfold q37 at h
 split at h
 ·simp only[Option.some.injEq,Prod.mk.injEq] at h;obtain⟨hg,h⟩:=h;cases h;exact Q0 _ _ hg
 ·cases h
noncomputable def aa9:Code:=(Tryz.f33.body).getD .skip
def afO:Nat→Kp:=fa [⟨[2,3,4],[],[],[]⟩,⟨[2,3,4,6],[],[],[]⟩,⟨[2,3,4,6,30],[],[],[]⟩,⟨[2,3,4,6,30,31],[],[],[]⟩,⟨[4,7,8],[],[],[]⟩,⟨[4,5],[],[],[]⟩,⟨[2,3,4,6,30,44],[],[],[]⟩,⟨[4,9,10],[],[],[]⟩,⟨[4,5],[],[],[]⟩,⟨[2,3,4,6,30,55],[],[],[]⟩,⟨[2,3,4,6,60],[],[],[]⟩,⟨[4,5],[],[],[]⟩,⟨[2,3,4,6,11,12],[],[],[]⟩,⟨[2,3,4,6,11,72],[],[],[]⟩,⟨[4,5],[],[],[]⟩,⟨[4,13,14],[],[],[]⟩,⟨[4,5],[],[],[]⟩,⟨[2,3,4,6,30,86],[],[],[]⟩,⟨[3,4,6,15,16],[],[],[]⟩,⟨[4,5],[],[],[]⟩,⟨[2,3,4,6,30,103],[],[],[]⟩,⟨[2,3,4,6,17],[],[],[]⟩,⟨[2,3,4,6,17,19,20],[],[],[]⟩,⟨[2,3,4,6,17,19,127],[],[],[]⟩,⟨[4,5],[],[],[]⟩,⟨[4,21,22],[],[],[]⟩,⟨[4,5],[],[],[]⟩,⟨[2,3,4,6,140],[],[],[]⟩,⟨[2,3,4,6,23,24],[],[],[]⟩,⟨[2,3,4,6,23,150],[],[],[]⟩,⟨[4,5],[],[],[]⟩,⟨[4,25,26],[],[],[]⟩,⟨[4,5],[],[],[]⟩,⟨[4,5],[],[],[]⟩]
noncomputable def afP:Env:=bQ.env [(16,s16),(24,s24),(27,x3),(55,s55),(56,s56),(57,s57),(58,s58)]
theorem V3{R:Type}(n:Nat)(k:Kt R)(a0:ae)(a1:ai):aG afP afO n aa9 [.ro,.ro] [false,false] false [.cell 4 27,.tmp 5] [27,4] [.d .node a0,.d .pop a1] k=
 (cond (ag (eN a0))
 (cond ((ai.kind a1)==(1:Int))
 (cond (gP (eN a0) (ai.path a1) (eN (ai.x a1)))
 (k [.d .node (eN ((aW (eN a0) (ai.path a1) (eN (ai.x a1))).1)),.d .bool ((aW (eN a0) (ai.path a1) (eN (ai.x a1))).2)])
 none)
 (cond ((ai.kind a1)==(2:Int))
 (cond ((fun(x:ae)(y:List BA)=>ag x&&dS bH y) (eN a0) (ai.path a1))
 (k [.d .node (eN ((aC (eN a0) (ai.path a1)).1)),.d .bool ((aC (eN a0) (ai.path a1)).2)])
 none)
 (cond ((ai.kind a1)==(3:Int))
 (cond (((ai.path a1).length:Int)==(0:Int))
 (cond (ag (eN (ai.x a1)))
 (k [.d .node (eN (ai.x a1)),.d .bool true])
 none)
 (cond ((fun(x:ae)(y:List BA)=>ag x&&dS bH y) (eN a0) (ai.path a1))
 (cond (!((aC (eN a0) (ai.path a1)).2))
 (k [.d .node (eN a0),.d .bool false])
 (cond (r3 (eN ((aC (eN a0) (ai.path a1)).1)) (ai.path a1) (eN (ai.x a1)) (eN a0))
 (k [.d .node (eN ((tn (eN ((aC (eN a0) (ai.path a1)).1)) (ai.path a1) (eN (ai.x a1)) (eN a0)).1)),.d .bool ((tn (eN ((aC (eN a0) (ai.path a1)).1)) (ai.path a1) (eN (ai.x a1)) (eN a0)).2)])
 none))
 none))
 (cond ((ai.kind a1)==(4:Int))
 (cond ((fun(x:ae)(y:List BA)=>ag x&&dS bH y) (eN a0) (ai.path a1))
 (cond ((br (eN a0) (ai.path a1)).2)
 (cond (pQ ag (eN ((br (eN a0) (ai.path a1)).1)) (eN (ai.x a1)))
 (k [.d .node (eN a0),.d .bool (iM (eN ((br (eN a0) (ai.path a1)).1)) (eN (ai.x a1)))])
 none)
 (k [.d .node (eN a0),.d .bool false]))
 none)
 (cond ((ai.kind a1)==(5:Int))
 (cond ((fun(x:ae)(y:List BA)=>ag x&&dS bH y) (eN a0) (ai.src a1))
 (cond ((fun(x:ae)(y:List BA)=>ag x&&dS bH y) (eN a0) (ai.src a1))
 (cond (!((aC (eN a0) (ai.src a1)).2))
 (k [.d .node (eN a0),.d .bool false])
 (cond (gFr (ai.src a1) (ai.path a1))
 (cond (kT (ai.src a1) (ai.path a1))
 (k [.d .node (eN a0),.d .bool false])
 (cond (r3 (eN ((aC (eN a0) (ai.src a1)).1)) (ai.path a1) (eN ((br (eN a0) (ai.src a1)).1)) (eN a0))
 (k [.d .node (eN ((tn (eN ((aC (eN a0) (ai.src a1)).1)) (ai.path a1) (eN ((br (eN a0) (ai.src a1)).1)) (eN a0)).1)),.d .bool ((tn (eN ((aC (eN a0) (ai.src a1)).1)) (ai.path a1) (eN ((br (eN a0) (ai.src a1)).1)) (eN a0)).2)])
 none))
 none))
 none)
 none)
 (cond ((ai.kind a1)==(6:Int))
 (cond ((fun(x:ae)(y:List BA)=>ag x&&dS bH y) (eN a0) (ai.src a1))
 (cond (!((br (eN a0) (ai.src a1)).2))
 (k [.d .node (eN a0),.d .bool false])
 (cond (gP (eN a0) (ai.path a1) (eN ((br (eN a0) (ai.src a1)).1)))
 (k [.d .node (eN ((aW (eN a0) (ai.path a1) (eN ((br (eN a0) (ai.src a1)).1))).1)),.d .bool ((aW (eN a0) (ai.path a1) (eN ((br (eN a0) (ai.src a1)).1))).2)])
 none))
 none)
 (k [.d .node (eN a0),.d .bool false])))))))
 none):=by kernel_rfl
theorem Q5(a0:ae)(a1:ai)(hg:B9 a0 a1=true):∃keep rounds,∀{R:Type}(k:Kt R),aG afP keep rounds aa9 [.ro,.ro] [false,false] false [.cell 4 27,.tmp 5] [27,4] [.d .node a0,.d .pop a1] k=k [.d .node ((aU a0 a1).1),.d .bool ((aU a0 a1).2)]:=by
 have yF:=hg
 simp only[B9,Bool.and_eq_true] at hg
 obtain⟨fP,hp⟩:=hg
 obtain⟨h1,h2,h3⟩:=rZ hp
 have c1:ag (aC a0 a1.path).1=true:=(lf fP).1
 have c2:ag (aC a0 a1.src).1=true:=(lf fP).1
 have t1:ag (br a0 a1.path).1=true:=ni fP
 have t2:ag (br a0 a1.src).1=true:=ni fP
 have g1:gP a0 a1.path a1.x=true:=by simp only[gP,fP,h1,h3,Bool.and_self]
 have g2:gP (aC a0 a1.path).1 a1.path a1.x=true:=by simp only[gP,c1,h1,h3,Bool.and_self]
 have g3:gP (aC a0 a1.src).1 a1.path (br a0 a1.src).1=true:=by simp only[gP,c2,h1,t2,Bool.and_self]
 have g4:gP a0 a1.path (br a0 a1.src).1=true:=by simp only[gP,fP,h1,t2,Bool.and_self]
 have l1:=aR h1
 have l2:=aR h2
 have w2:r3 (aC a0 a1.path).1 a1.path a1.x a0=true:=by simp only[r3,g2,fP,Bool.and_self]
 have w3:r3 (aC a0 a1.src).1 a1.path (br a0 a1.src).1 a0=true:=by simp only[r3,g3,fP,Bool.and_self]
 have gf:gFr a1.src a1.path=true:=by simp only[gFr,lF h1,lF h2,Bool.and_self]
 refine⟨afO,0,fun {R} k=> ?_⟩
 rw[V3]
 simp only[az,aK,fP,h1,h2,h3,c1,c2,t1,t2,g1,g2,g3,g4,pQ,Bool.and_self,cond_true,w2,w3,gf]
 show _=k [.d .node (aU a0 a1).1,.d .bool (aU a0 a1).2]
 unfold aU cB
 cases a1.kind==(1:Int)
 rotate_left
 ·simp only[cond_true];rw[xw]
 cases a1.kind==(2:Int)
 rotate_left
 ·simp only[cond_true,cond_false];rw[Fv]
 cases a1.kind==(3:Int)
 rotate_left
 ·simp only[cond_true,cond_false]
  cases (a1.path.length:Int)==(0:Int)
  ·cases (aC a0 a1.path).2
   ·rfl
   ·simp only[cond_true,cond_false,Bool.not_true,tn]
  ·rfl
 cases a1.kind==(4:Int)
 rotate_left
 ·simp only[cond_true,cond_false]
  cases (br a0 a1.path).2
  ·rfl
  ·cases iM (br a0 a1.path).1 a1.x<;>rfl
 cases a1.kind==(5:Int)
 rotate_left
 ·simp only[cond_true,cond_false]
  cases ht:(br a0 a1.src).2
  ·rw[Zs ht];rfl
  ·cases (aC a0 a1.src).2
   ·cases kT a1.src a1.path<;>rfl
   ·cases kT a1.src a1.path
    ·simp only[cond_true,cond_false,Bool.not_true,tn]
    ·rfl
 cases a1.kind==(6:Int)
 ·simp only[cond_true,cond_false]
  cases (br a0 a1.src).2<;>rfl
 ·simp only[cond_true,cond_false]
  cases (br a0 a1.src).2
  ·rfl
  ·simp only[cond_true,cond_false,Bool.not_true,Bool.not_false];rw[xw]
noncomputable def q33:Qt
 | [.d .node a0,.d .pop a1]=>some ((B9 a0 a1),[.d .node ((aU a0 a1).1),.d .bool ((aU a0 a1).2)])
 |_=>none
noncomputable def s33:Gm.Spec:=Gm.Spec.of [.ro,.ro] [false,false] false q33
theorem aa':Gm.Good Tryz.prog (33,s33):=by
 have hl:∀x∈[(16,s16),(24,s24),(27,x3),(55,s55),(56,s56),(57,s57),(58,s58)],Gm.Good Tryz.prog x:=bt.2 ⟨Gr,bt.2 ⟨QR,bt.2 ⟨jZ,bt.2 ⟨aaK,bt.2 ⟨aa4,bt.2 ⟨OE,bt.2 ⟨aa2,gw⟩⟩⟩⟩⟩⟩⟩
 refine⟨⟨aD (aL.env hl) (bQ.cq hl) Tryz.func33 (by kernel_rfl:Tryz.f33.body=some aa9) [27,4] (by kernel_rfl) ?_,_,Tryz.func33,by kernel_rfl,of_decide_eq_true (by kernel_rfl)⟩,Gm.Spec.ax _ _ _ _⟩
 intro ds outs h
 unfold q33 at h
 split at h
 ·simp only[Option.some.injEq,Prod.mk.injEq] at h;obtain⟨hg,h⟩:=h;cases h;exact Q5 _ _ hg
 ·cases h
noncomputable def Q6:Code:=(Tryz.f34.body).getD .skip
def V4:Nat→Kp:=fa [⟨[0,3,4],[],[],[]⟩,⟨[0,3,4,5],[],[],[]⟩,⟨[0,3,4,5,16],[],[],[]⟩,⟨[0,3,4,5],[],[],[]⟩,⟨[0,3,4,5,27],[],[],[]⟩,⟨[0,4,5,6],[],[],[]⟩,⟨[0,4,5],[],[],[]⟩,⟨[0,4],[],[],[]⟩,⟨[0,4,5,40],[],[],[]⟩,⟨[0,4,5],[],[],[]⟩,⟨[0,4],[],[],[]⟩]
noncomputable def V5:Env:=bQ.env [(15,SM),(17,s17),(18,VB),(32,Cb),(57,s57)]
theorem j8{R:Type}(n:Nat)(k:Kt R)(a0:aj)(a1:ae):aG V5 V4 n Q6 [.bG,.ro] [false] true [.cell 4 33] [33] [.d .cur a0,.d .node a1] k=
 (cond ((fun c _=>aA c) a0 (7:Int))
 (cond ((fun(c:aj)(t:ae)=>aA c&&pT t) ((af a0 (7:Int)).2) (eN a1))
 (cond (decide (((af a0 (7:Int)).1)≥(5:Int)))
 (cond ((fun(c:aj)(t:ae)=>aA c&&pT t) ((cw ((af a0 (7:Int)).2) (eN a1)).2) (eN a1))
 (cond (((af a0 (7:Int)).1)==(4:Int))
 (cond ((fun c _=>aA c) ((cw ((cw ((af a0 (7:Int)).2) (eN a1)).2) (eN a1)).2) (2:Int))
 (cond ((bu ((cw ((cw ((af a0 (7:Int)).2) (eN a1)).2) (eN a1)).2) (2:Int)).1)
 (cond ((fun(x:ae)(y:List BA)=>ag x&&dS bH y) (eN a1) ((cw ((af a0 (7:Int)).2) (eN a1)).1))
 (k [.d .pop (⟨((af a0 (7:Int)).1),((cw ((af a0 (7:Int)).2) (eN a1)).1),((cw ((cw ((af a0 (7:Int)).2) (eN a1)).2) (eN a1)).1),(eN ((br (eN a1) ((cw ((af a0 (7:Int)).2) (eN a1)).1)).1))⟩:ai),.d .cur ((bu ((cw ((cw ((af a0 (7:Int)).2) (eN a1)).2) (eN a1)).2) (2:Int)).2)])
 none)
 (cond (decide (((af a0 (7:Int)).1)≤(4:Int)))
 (cond (Cc ((bu ((cw ((cw ((af a0 (7:Int)).2) (eN a1)).2) (eN a1)).2) (2:Int)).2) (1:Int))
 (k [.d .pop (⟨((af a0 (7:Int)).1),((cw ((af a0 (7:Int)).2) (eN a1)).1),((cw ((cw ((af a0 (7:Int)).2) (eN a1)).2) (eN a1)).1),(eN ((dT ((bu ((cw ((cw ((af a0 (7:Int)).2) (eN a1)).2) (eN a1)).2) (2:Int)).2) (1:Int)).1))⟩:ai),.d .cur ((dT ((bu ((cw ((cw ((af a0 (7:Int)).2) (eN a1)).2) (eN a1)).2) (2:Int)).2) (1:Int)).2)])
 none)
 (k [.d .pop (⟨((af a0 (7:Int)).1),((cw ((af a0 (7:Int)).2) (eN a1)).1),((cw ((cw ((af a0 (7:Int)).2) (eN a1)).2) (eN a1)).1),(⟨(0:Int),(0:Int),ByteArray.empty,([]:List BA),([]:List ae)⟩:ae)⟩:ai),.d .cur ((bu ((cw ((cw ((af a0 (7:Int)).2) (eN a1)).2) (eN a1)).2) (2:Int)).2)])))
 none)
 (cond (decide (((af a0 (7:Int)).1)≤(4:Int)))
 (cond (Cc ((cw ((cw ((af a0 (7:Int)).2) (eN a1)).2) (eN a1)).2) (1:Int))
 (k [.d .pop (⟨((af a0 (7:Int)).1),((cw ((af a0 (7:Int)).2) (eN a1)).1),((cw ((cw ((af a0 (7:Int)).2) (eN a1)).2) (eN a1)).1),(eN ((dT ((cw ((cw ((af a0 (7:Int)).2) (eN a1)).2) (eN a1)).2) (1:Int)).1))⟩:ai),.d .cur ((dT ((cw ((cw ((af a0 (7:Int)).2) (eN a1)).2) (eN a1)).2) (1:Int)).2)])
 none)
 (k [.d .pop (⟨((af a0 (7:Int)).1),((cw ((af a0 (7:Int)).2) (eN a1)).1),((cw ((cw ((af a0 (7:Int)).2) (eN a1)).2) (eN a1)).1),(⟨(0:Int),(0:Int),ByteArray.empty,([]:List BA),([]:List ae)⟩:ae)⟩:ai),.d .cur ((cw ((cw ((af a0 (7:Int)).2) (eN a1)).2) (eN a1)).2)])))
 none)
 (cond (((af a0 (7:Int)).1)==(4:Int))
 (cond ((fun c _=>aA c) ((cw ((af a0 (7:Int)).2) (eN a1)).2) (2:Int))
 (cond ((bu ((cw ((af a0 (7:Int)).2) (eN a1)).2) (2:Int)).1)
 (cond ((fun(x:ae)(y:List BA)=>ag x&&dS bH y) (eN a1) ((cw ((af a0 (7:Int)).2) (eN a1)).1))
 (k [.d .pop (⟨((af a0 (7:Int)).1),((cw ((af a0 (7:Int)).2) (eN a1)).1),([]:List BA),(eN ((br (eN a1) ((cw ((af a0 (7:Int)).2) (eN a1)).1)).1))⟩:ai),.d .cur ((bu ((cw ((af a0 (7:Int)).2) (eN a1)).2) (2:Int)).2)])
 none)
 (cond (decide (((af a0 (7:Int)).1)≤(4:Int)))
 (cond (Cc ((bu ((cw ((af a0 (7:Int)).2) (eN a1)).2) (2:Int)).2) (1:Int))
 (k [.d .pop (⟨((af a0 (7:Int)).1),((cw ((af a0 (7:Int)).2) (eN a1)).1),([]:List BA),(eN ((dT ((bu ((cw ((af a0 (7:Int)).2) (eN a1)).2) (2:Int)).2) (1:Int)).1))⟩:ai),.d .cur ((dT ((bu ((cw ((af a0 (7:Int)).2) (eN a1)).2) (2:Int)).2) (1:Int)).2)])
 none)
 (k [.d .pop (⟨((af a0 (7:Int)).1),((cw ((af a0 (7:Int)).2) (eN a1)).1),([]:List BA),(⟨(0:Int),(0:Int),ByteArray.empty,([]:List BA),([]:List ae)⟩:ae)⟩:ai),.d .cur ((bu ((cw ((af a0 (7:Int)).2) (eN a1)).2) (2:Int)).2)])))
 none)
 (cond (decide (((af a0 (7:Int)).1)≤(4:Int)))
 (cond (Cc ((cw ((af a0 (7:Int)).2) (eN a1)).2) (1:Int))
 (k [.d .pop (⟨((af a0 (7:Int)).1),((cw ((af a0 (7:Int)).2) (eN a1)).1),([]:List BA),(eN ((dT ((cw ((af a0 (7:Int)).2) (eN a1)).2) (1:Int)).1))⟩:ai),.d .cur ((dT ((cw ((af a0 (7:Int)).2) (eN a1)).2) (1:Int)).2)])
 none)
 (k [.d .pop (⟨((af a0 (7:Int)).1),((cw ((af a0 (7:Int)).2) (eN a1)).1),([]:List BA),(⟨(0:Int),(0:Int),ByteArray.empty,([]:List BA),([]:List ae)⟩:ae)⟩:ai),.d .cur ((cw ((af a0 (7:Int)).2) (eN a1)).2)]))))
 none)
 none):=by kernel_rfl
def X7(a0:aj)(a1:ae)(o:ai×aj):Prop:=(fun _ t o=>M7 t o.1∧aA o.2=true) a0 a1 o∧∃n:Nat,∀{R:Type}(k:Kt R),aG V5 V4 n Q6 [.bG,.ro] [false] true [.cell 4 33] [33] [.d .cur a0,.d .node a1] k=k [.d .pop o.1,.d .cur o.2]
theorem abb(a0:aj)(a1:ae)(hg:(fun(c:aj)(t:ae)=>aA c&&pT t) a0 a1=true):∃o:ai×aj,(fun _ t o=>M7 t o.1∧aA o.2=true) a0 a1 o∧∃n:Nat,∀{R:Type}(k:Kt R),aG V5 V4 n Q6 [.bG,.ro] [false] true [.cell 4 33] [33] [.d .cur a0,.d .node a1] k=k [.d .pop o.1,.d .cur o.2]:=by
 obtain⟨hc,ht⟩:=Bool.and_eq_true_iff.1 (show (aA a0&&pT a1)=true from hg)
 have sx:=(kW.1 ht).1
 obtain⟨b0,b1,g1⟩:=cu a0 7 hc
 have b1:=b1 (by omega)
 have hk:gj (af a0 7).1=true:=lG (by omega) (by omega)
 have wy:∀c,aA c=true→(aA c&&pT a1)=true:=fun c h=>by rw[h,ht];rfl
 have W:∀c,aA c=true→sm a1 (cw c a1).1∧aA (cw c a1).2=true:=fun c h=>Ij c a1 (wy c h)
 have D:∀c,aA c=true→Cc c 1=true∧gXx a1 (dT c 1).1∧aA (dT c 1).2=true:=fun c h=>by
  have d:=BT (d:=1) h rfl
  exact⟨d,aec (Ak d).1,(Ak d).2⟩
 obtain⟨w1,g2⟩:=W _ g1
 have m1:=w1.1
 cases e0:(decide (((af a0 (7:Int)).1)≥(5:Int)))
 ·skip
  cases e1:(((af a0 (7:Int)).1)==(4:Int))
  ·skip
   cases e2:(decide (((af a0 (7:Int)).1)≤(4:Int)))
   ·skip
    refine⟨(?ax3,?bx3),?gx3,0,?rx3⟩
    case rx3=>
     intro R k
     rw[j8]
     simp (maxDischargeDepth:=60) only[hc,ht,sx,hk,g1,w1,g2,m1,wy,(fun c h=>(W c h).1),(fun c h=>(W c h).2),(fun c h=>(D c h).1),(fun c h=>(D c h).2.1),(fun c h=>(D c h).2.2),bc,aK,fg,dD,cD,cZ,and_self,Bool.and_self,cond_true,cond_false,e0,e1,e2]
     exact rfl
    case gx3=>simp (maxDischargeDepth:=60) only[hc,ht,sx,hk,g1,w1,g2,m1,wy,(fun c h=>(W c h).1),(fun c h=>(W c h).2),(fun c h=>(D c h).1),(fun c h=>(D c h).2.1),(fun c h=>(D c h).2.2),bc,aK,fg,dD,cD,cZ,and_self,Bool.and_self,cond_true,cond_false,e0,e1,e2]
   refine⟨(?ax4,?bx4),?gx4,0,?rx4⟩
   case rx4=>
    intro R k
    rw[j8]
    simp (maxDischargeDepth:=60) only[hc,ht,sx,hk,g1,w1,g2,m1,wy,(fun c h=>(W c h).1),(fun c h=>(W c h).2),(fun c h=>(D c h).1),(fun c h=>(D c h).2.1),(fun c h=>(D c h).2.2),bc,aK,fg,dD,cD,cZ,and_self,Bool.and_self,cond_true,cond_false,e0,e1,e2]
    exact rfl
   case gx4=>simp (maxDischargeDepth:=60) only[hc,ht,sx,hk,g1,w1,g2,m1,wy,(fun c h=>(W c h).1),(fun c h=>(W c h).2),(fun c h=>(D c h).1),(fun c h=>(D c h).2.1),(fun c h=>(D c h).2.2),bc,aK,fg,dD,cD,cZ,and_self,Bool.and_self,cond_true,cond_false,e0,e1,e2]
  cases e5:((bu ((cw ((af a0 (7:Int)).2) a1).2) (2:Int)).1)
  ·skip
   cases e6:(decide (((af a0 (7:Int)).1)≤(4:Int)))
   ·skip
    refine⟨(?ax7,?bx7),?gx7,0,?rx7⟩
    case rx7=>
     intro R k
     rw[j8]
     simp (maxDischargeDepth:=60) only[hc,ht,sx,hk,g1,w1,g2,m1,wy,(fun c h=>(W c h).1),(fun c h=>(W c h).2),(fun c h=>(D c h).1),(fun c h=>(D c h).2.1),(fun c h=>(D c h).2.2),bc,aK,fg,dD,cD,cZ,and_self,Bool.and_self,cond_true,cond_false,e0,e1,e5,e6]
     exact rfl
    case gx7=>simp (maxDischargeDepth:=60) only[hc,ht,sx,hk,g1,w1,g2,m1,wy,(fun c h=>(W c h).1),(fun c h=>(W c h).2),(fun c h=>(D c h).1),(fun c h=>(D c h).2.1),(fun c h=>(D c h).2.2),bc,aK,fg,dD,cD,cZ,and_self,Bool.and_self,cond_true,cond_false,e0,e1,e5,e6]
   refine⟨(?ax8,?bx8),?gx8,0,?rx8⟩
   case rx8=>
    intro R k
    rw[j8]
    simp (maxDischargeDepth:=60) only[hc,ht,sx,hk,g1,w1,g2,m1,wy,(fun c h=>(W c h).1),(fun c h=>(W c h).2),(fun c h=>(D c h).1),(fun c h=>(D c h).2.1),(fun c h=>(D c h).2.2),bc,aK,fg,dD,cD,cZ,and_self,Bool.and_self,cond_true,cond_false,e0,e1,e5,e6]
    exact rfl
   case gx8=>simp (maxDischargeDepth:=60) only[hc,ht,sx,hk,g1,w1,g2,m1,wy,(fun c h=>(W c h).1),(fun c h=>(W c h).2),(fun c h=>(D c h).1),(fun c h=>(D c h).2.1),(fun c h=>(D c h).2.2),bc,aK,fg,dD,cD,cZ,and_self,Bool.and_self,cond_true,cond_false,e0,e1,e5,e6]
  refine⟨(?ax9,?bx9),?gx9,0,?rx9⟩
  case rx9=>
   intro R k
   rw[j8]
   simp (maxDischargeDepth:=60) only[hc,ht,sx,hk,g1,w1,g2,m1,wy,(fun c h=>(W c h).1),(fun c h=>(W c h).2),(fun c h=>(D c h).1),(fun c h=>(D c h).2.1),(fun c h=>(D c h).2.2),bc,aK,fg,dD,cD,cZ,and_self,Bool.and_self,cond_true,cond_false,e0,e1,e5]
   exact rfl
  case gx9=>simp (maxDischargeDepth:=60) only[hc,ht,sx,hk,g1,w1,g2,m1,wy,(fun c h=>(W c h).1),(fun c h=>(W c h).2),(fun c h=>(D c h).1),(fun c h=>(D c h).2.1),(fun c h=>(D c h).2.2),bc,aK,fg,dD,cD,cZ,and_self,Bool.and_self,cond_true,cond_false,e0,e1,e5]
 cases SN:(((af a0 (7:Int)).1)==(4:Int))
 ·skip
  cases e11:(decide (((af a0 (7:Int)).1)≤(4:Int)))
  ·skip
   refine⟨(?an4,?an5),?ajx,0,?ajy⟩
   case ajy=>
    intro R k
    rw[j8]
    simp (maxDischargeDepth:=60) only[hc,ht,sx,hk,g1,w1,g2,m1,wy,(fun c h=>(W c h).1),(fun c h=>(W c h).2),(fun c h=>(D c h).1),(fun c h=>(D c h).2.1),(fun c h=>(D c h).2.2),bc,aK,fg,dD,cD,cZ,and_self,Bool.and_self,cond_true,cond_false,e0,SN,e11]
    exact rfl
   case ajx=>simp (maxDischargeDepth:=60) only[hc,ht,sx,hk,g1,w1,g2,m1,wy,(fun c h=>(W c h).1),(fun c h=>(W c h).2),(fun c h=>(D c h).1),(fun c h=>(D c h).2.1),(fun c h=>(D c h).2.2),bc,aK,fg,dD,cD,cZ,and_self,Bool.and_self,cond_true,cond_false,e0,SN,e11]
  refine⟨(?an6,?an7),?ajz,0,?ajA⟩
  case ajA=>
   intro R k
   rw[j8]
   simp (maxDischargeDepth:=60) only[hc,ht,sx,hk,g1,w1,g2,m1,wy,(fun c h=>(W c h).1),(fun c h=>(W c h).2),(fun c h=>(D c h).1),(fun c h=>(D c h).2.1),(fun c h=>(D c h).2.2),bc,aK,fg,dD,cD,cZ,and_self,Bool.and_self,cond_true,cond_false,e0,SN,e11]
   exact rfl
  case ajz=>simp (maxDischargeDepth:=60) only[hc,ht,sx,hk,g1,w1,g2,m1,wy,(fun c h=>(W c h).1),(fun c h=>(W c h).2),(fun c h=>(D c h).1),(fun c h=>(D c h).2.1),(fun c h=>(D c h).2.2),bc,aK,fg,dD,cD,cZ,and_self,Bool.and_self,cond_true,cond_false,e0,SN,e11]
 cases e14:((bu ((cw ((cw ((af a0 (7:Int)).2) a1).2) a1).2) (2:Int)).1)
 ·skip
  cases e15:(decide (((af a0 (7:Int)).1)≤(4:Int)))
  ·skip
   refine⟨(?an8,?an9),?ajB,0,?ajC⟩
   case ajC=>
    intro R k
    rw[j8]
    simp (maxDischargeDepth:=60) only[hc,ht,sx,hk,g1,w1,g2,m1,wy,(fun c h=>(W c h).1),(fun c h=>(W c h).2),(fun c h=>(D c h).1),(fun c h=>(D c h).2.1),(fun c h=>(D c h).2.2),bc,aK,fg,dD,cD,cZ,and_self,Bool.and_self,cond_true,cond_false,e0,SN,e14,e15]
    exact rfl
   case ajB=>simp (maxDischargeDepth:=60) only[hc,ht,sx,hk,g1,w1,g2,m1,wy,(fun c h=>(W c h).1),(fun c h=>(W c h).2),(fun c h=>(D c h).1),(fun c h=>(D c h).2.1),(fun c h=>(D c h).2.2),bc,aK,fg,dD,cD,cZ,and_self,Bool.and_self,cond_true,cond_false,e0,SN,e14,e15]
  refine⟨(?an',?aoa),?ajD,0,?ajE⟩
  case ajE=>
   intro R k
   rw[j8]
   simp (maxDischargeDepth:=60) only[hc,ht,sx,hk,g1,w1,g2,m1,wy,(fun c h=>(W c h).1),(fun c h=>(W c h).2),(fun c h=>(D c h).1),(fun c h=>(D c h).2.1),(fun c h=>(D c h).2.2),bc,aK,fg,dD,cD,cZ,and_self,Bool.and_self,cond_true,cond_false,e0,SN,e14,e15]
   exact rfl
  case ajD=>simp (maxDischargeDepth:=60) only[hc,ht,sx,hk,g1,w1,g2,m1,wy,(fun c h=>(W c h).1),(fun c h=>(W c h).2),(fun c h=>(D c h).1),(fun c h=>(D c h).2.1),(fun c h=>(D c h).2.2),bc,aK,fg,dD,cD,cZ,and_self,Bool.and_self,cond_true,cond_false,e0,SN,e14,e15]
 refine⟨(?aob,?aoc),?ajF,0,?ajG⟩
 case ajG=>
  intro R k
  rw[j8]
  simp (maxDischargeDepth:=60) only[hc,ht,sx,hk,g1,w1,g2,m1,wy,(fun c h=>(W c h).1),(fun c h=>(W c h).2),(fun c h=>(D c h).1),(fun c h=>(D c h).2.1),(fun c h=>(D c h).2.2),bc,aK,fg,dD,cD,cZ,and_self,Bool.and_self,cond_true,cond_false,e0,SN,e14]
  exact rfl
 case ajF=>simp (maxDischargeDepth:=60) only[hc,ht,sx,hk,g1,w1,g2,m1,wy,(fun c h=>(W c h).1),(fun c h=>(W c h).2),(fun c h=>(D c h).1),(fun c h=>(D c h).2.1),(fun c h=>(D c h).2.2),bc,aK,fg,dD,cD,cZ,and_self,Bool.and_self,cond_true,cond_false,e0,SN,e14]
theorem Q7(a0:aj)(a1:ae):Nonempty {o:ai×aj // (fun(c:aj)(t:ae)=>aA c&&pT t) a0 a1=true→X7 a0 a1 o}:=by
 by_cases hg:(fun(c:aj)(t:ae)=>aA c&&pT t) a0 a1=true
 ·obtain⟨o,ho⟩:=abb a0 a1 hg
  exact⟨⟨o,fun _=>ho⟩⟩
 ·exact⟨⟨((zero .pop),(zero .cur)),fun h=>absurd h hg⟩⟩
noncomputable def iJ(a0:aj)(a1:ae):ai×aj:=(Classical.choice (Q7 a0 a1)).val
theorem Q8(a0:aj)(a1:ae)(hg:(fun(c:aj)(t:ae)=>aA c&&pT t) a0 a1=true):X7 a0 a1 (iJ a0 a1):=(Classical.choice (Q7 a0 a1)).property hg
theorem abd(a0:aj)(a1:ae)(hg:(fun(c:aj)(t:ae)=>aA c&&pT t) a0 a1=true):(fun _ t o=>M7 t o.1∧aA o.2=true) a0 a1 (iJ a0 a1):=(Q8 a0 a1 hg).1
theorem Q9(a0:aj)(a1:ae)(hg:(fun(c:aj)(t:ae)=>aA c&&pT t) a0 a1=true):∃keep rounds,∀{R:Type}(k:Kt R),aG V5 keep rounds Q6 [.bG,.ro] [false] true [.cell 4 33] [33] [.d .cur a0,.d .node a1] k=k [.d .pop ((iJ a0 a1).1),.d .cur ((iJ a0 a1).2)]:=by
 obtain⟨n,hn⟩:=(Q8 a0 a1 hg).2
 exact⟨V4,n,hn⟩
noncomputable def q34:Qt
 | [.d .cur a0,.d .node a1]=>some (((fun(c:aj)(t:ae)=>aA c&&pT t) a0 a1),[.d .pop ((iJ a0 a1).1),.d .cur ((iJ a0 a1).2)])
 |_=>none
noncomputable def s34:Gm.Spec:=Gm.Spec.of [.bG,.ro] [false] true q34
theorem abe:Gm.Good Tryz.prog (34,s34):=by
 have hl:∀x∈[(15,SM),(17,s17),(18,VB),(32,Cb),(57,s57)],Gm.Good Tryz.prog x:=bt.2 ⟨xS,bt.2 ⟨Qq,bt.2 ⟨BU,bt.2 ⟨nP,bt.2 ⟨OE,gw⟩⟩⟩⟩⟩
 refine⟨⟨aD (aL.env hl) (bQ.cq hl) Tryz.func34 (by kernel_rfl:Tryz.f34.body=some Q6) [33] (by kernel_rfl) ?_,_,Tryz.func34,by kernel_rfl,of_decide_eq_true (by kernel_rfl)⟩,Gm.Spec.ax _ _ _ _⟩
 intro ds outs h
 unfold q34 at h
 split at h
 ·simp only[Option.some.injEq,Prod.mk.injEq] at h;obtain⟨hg,h⟩:=h;cases h;exact Q9 _ _ hg
 ·cases h
noncomputable def f5c:Code:=(Tryz.f5.body).getD .skip
def f5k:Nat→Kp:=fa [⟨[0,2,3],[],[],[]⟩,⟨[2,3,4],[],[],[]⟩,⟨[2,3,4,5],[],[],[]⟩,⟨[2,3,4,5,13],[],[],[]⟩,⟨[2,3,5,6],[],[],[]⟩,⟨[2,3],[],[],[]⟩,⟨[2,3],[],[],[]⟩]
noncomputable def f5e:Env:=bQ.env [(13,s13),(14,s14),(15,SM),(16,s16),(17,s17),(18,VB)]
theorem Q'{R:Type}(n:Nat)(k:Kt R)(a0:List Int):aG f5e f5k n f5c [.kp] [false,false] true [.cell 2 27,.cell 3 27] [27,27] [.d (.sl (.i .u8)) a0] k=
 (cond (eG a0)
 (cond (aA (aO a0))
 (cond ((fun c _=>aA c) ((cz (aO a0)).2) (2:Int))
 (cond ((bu ((cz (aO a0)).2) (2:Int)).1)
 (cond ((fun(c:aj)(t:ae)=>aA c&&pT t) ((bu ((cz (aO a0)).2) (2:Int)).2) (eN ((cz (aO a0)).1)))
 (cond (Cc ((cw ((bu ((cz (aO a0)).2) (2:Int)).2) (eN ((cz (aO a0)).1))).2) (1:Int))
 (cond (gP (eN ((cz (aO a0)).1)) ((cw ((bu ((cz (aO a0)).2) (2:Int)).2) (eN ((cz (aO a0)).1))).1) (eN ((dT ((cw ((bu ((cz (aO a0)).2) (2:Int)).2) (eN ((cz (aO a0)).1))).2) (1:Int)).1)))
 (k [.d .node (eN ((cz (aO a0)).1)),.d .node (eN ((aW (eN ((cz (aO a0)).1)) ((cw ((bu ((cz (aO a0)).2) (2:Int)).2) (eN ((cz (aO a0)).1))).1) (eN ((dT ((cw ((bu ((cz (aO a0)).2) (2:Int)).2) (eN ((cz (aO a0)).1))).2) (1:Int)).1))).1))])
 none)
 none)
 none)
 (cond (aA ((bu ((cz (aO a0)).2) (2:Int)).2))
 (k [.d .node (eN ((cz (aO a0)).1)),.d .node (eN ((cz ((bu ((cz (aO a0)).2) (2:Int)).2)).1))])
 none))
 none)
 none)
 none):=by kernel_rfl
def afR(a0:List Int)(o:ae×ae):Prop:=(fun _ o=>cY o.1 o.2=true∧cY o.1 o.1=true) a0 o∧∃n:Nat,∀{R:Type}(k:Kt R),aG f5e f5k n f5c [.kp] [false,false] true [.cell 2 27,.cell 3 27] [27,27] [.d (.sl (.i .u8)) a0] k=k [.d .node o.1,.d .node o.2]
theorem afS(a0:List Int)(hg:eG a0=true):∃o:ae×ae,(fun _ o=>cY o.1 o.2=true∧cY o.1 o.1=true) a0 o∧∃n:Nat,∀{R:Type}(k:Kt R),aG f5e f5k n f5c [.kp] [false,false] true [.cell 2 27,.cell 3 27] [27,27] [.d (.sl (.i .u8)) a0] k=k [.d .node o.1,.d .node o.2]:=by
 have g0:=Ac a0 hg
 obtain⟨t3,g1⟩:=DY _ g0
 have g1:aA (cz (aO a0)).2=true:=g1
 obtain⟨t4,tw⟩:=gR.1 t3
 obtain⟨ts,tz⟩:=iz.1 t4
 have gs:=qN t3 ts tw (by omega)
 have g2:aA (bu (cz (aO a0)).2 2).2=true:=nQ _ 2 g1
 cases e0:(bu (cz (aO a0)).2 2).1
 ·obtain⟨u3,_⟩:=DY _ g2
  obtain⟨u4,uw⟩:=gR.1 u3
  obtain⟨us,uz⟩:=iz.1 u4
  exact⟨((cz (aO a0)).1,(cz (bu (cz (aO a0)).2 2).2).1),⟨qN t3 us uw (by show ak (cz _).1≤900000;omega),gs⟩,0,fun {R} k=>by
   rw[Q']
   simp only[hg,g0,g1,g2,e0,aK,cond_true,cond_false]⟩
 ·have hx:=ad9 t4
  have L5:(aA (bu (cz (aO a0)).2 2).2&&pT (cz (aO a0)).1)=true:=by rw[g2,hx];rfl
  obtain⟨⟨w1,w2'⟩,g3⟩:=Ij _ _ L5
  have d1:=BT (d:=1) g3 rfl
  obtain⟨⟨q1,q2,q3⟩,_⟩:=Ak d1
  have q2:ak (dT (cw (bu (cz (aO a0)).2 2).2 (cz (aO a0)).1).2 1).1≤400:=q2
  have hp:=pD (x:=(dT (cw (bu (cz (aO a0)).2 2).2 (cz (aO a0)).1).2 1).1) ts w1 q1 (by omega)
  have yF:gP (cz (aO a0)).1 (cw (bu (cz (aO a0)).2 2).2 (cz (aO a0)).1).1 (dT (cw (bu (cz (aO a0)).2 2).2 (cz (aO a0)).1).2 1).1=true:=by simp only[gP,ts,w1,q1,Bool.and_self]
  exact⟨((cz (aO a0)).1,(aW (cz (aO a0)).1 (cw (bu (cz (aO a0)).2 2).2 (cz (aO a0)).1).1 (dT (cw (bu (cz (aO a0)).2 2).2 (cz (aO a0)).1).2 1).1).1),⟨qN t3 hp.1 (JT tw (Wf.w2 _ q3)) (by show ak (aW _ _ _).1≤900000;omega),gs⟩,0,fun {R} k=>by
   rw[Q']
   simp only[hg,g0,g1,e0,L5,d1,yF,aK,cond_true]⟩
theorem X8(a0:List Int):Nonempty {o:ae×ae // eG a0=true→afR a0 o}:=by
 by_cases hg:eG a0=true
 ·obtain⟨o,ho⟩:=afS a0 hg
  exact⟨⟨o,fun _=>ho⟩⟩
 ·exact⟨⟨((zero .node),(zero .node)),fun h=>absurd h hg⟩⟩
noncomputable def cU(a0:List Int):ae×ae:=(Classical.choice (X8 a0)).val
theorem X9(a0:List Int)(hg:eG a0=true):afR a0 (cU a0):=(Classical.choice (X8 a0)).property hg
theorem Ra(a0:List Int)(hg:eG a0=true):(fun _ o=>cY o.1 o.2=true∧cY o.1 o.1=true) a0 (cU a0):=(X9 a0 hg).1
theorem V6(a0:List Int)(hg:eG a0=true):∃keep rounds,∀{R:Type}(k:Kt R),aG f5e keep rounds f5c [.kp] [false,false] true [.cell 2 27,.cell 3 27] [27,27] [.d (.sl (.i .u8)) a0] k=k [.d .node ((cU a0).1),.d .node ((cU a0).2)]:=by
 obtain⟨n,hn⟩:=(X9 a0 hg).2
 exact⟨f5k,n,hn⟩
noncomputable def q5:Qt
 | [.d (.sl (.i .u8)) a0]=>some ((eG a0),[.d .node ((cU a0).1),.d .node ((cU a0).2)])
 |_=>none
noncomputable def s5:Gm.Spec:=Gm.Spec.of [.kp] [false,false] true q5
theorem afT:Gm.Good Tryz.prog (5,s5):=by
 have hl:∀x∈[(13,s13),(14,s14),(15,SM),(16,s16),(17,s17),(18,VB)],Gm.Good Tryz.prog x:=bt.2 ⟨Nh,bt.2 ⟨aaU,bt.2 ⟨xS,bt.2 ⟨Gr,bt.2 ⟨Qq,bt.2 ⟨BU,gw⟩⟩⟩⟩⟩⟩
 refine⟨⟨aD (aL.env hl) (bQ.cq hl) Tryz.func5 (by kernel_rfl:Tryz.f5.body=some f5c) [27,27] (by kernel_rfl) ?_,_,Tryz.func5,by kernel_rfl,of_decide_eq_true (by kernel_rfl)⟩,Gm.Spec.ax _ _ _ _⟩
 intro ds outs h
 unfold q5 at h
 split at h
 ·simp only[Option.some.injEq,Prod.mk.injEq] at h;obtain⟨hg,h⟩:=h;cases h;exact V6 _ hg
 ·cases h
noncomputable def abf:Gm.Spec:=Gm.Spec.of [.ro] [false] false q27
theorem V7:Gm.Good Tryz.prog (27,abf):=⟨⟨JV (by simp) (by simp) jZ.1.1,jZ.1.2⟩,Gm.Spec.ax _ _ _ _⟩
noncomputable def Ir(y0:Int)(y7:Int)(y8:Int)(y9:BA)(iu:Int)(ix:Int)(kr:BA)(o9:List BA)(yR:List ae)(Ki:List Int)(Vc:Int)(y17:Int)(y18:List BA)(y19:List ae):St:=⟨[(2,.c (.one (.pt 2 0))),(3,.c (.one (.pt 3 0))),(4,.c (.one (.pt 9 0))),(5,.c (.one (.pt 5 0))),(6,.c (.one (.pt 6 0))),(7,.c (.one (.v (.int .i64 y0))))],[(2,⟨.node,[.v (.int .i64 (0:Int)),.v (.int .i64 (0:Int)),.v (.string ByteArray.empty),.nl,.nl]⟩),(3,⟨.node,[.v (.int .i64 (0:Int)),.v (.int .i64 (0:Int)),.v (.string ByteArray.empty),.nl,.nl]⟩),(5,⟨.node,[.v (.int .i64 y7),.v (.int .i64 y8),.v (.string y9),.h 704 0 0 [],.h 705 0 0 []]⟩),(6,⟨.node,[.v (.int .i64 iu),.v (.int .i64 ix),.v (.string kr),.ro .str o9,.ro .node yR]⟩),(9,⟨.cur,[.rk (.i .u8) Ki,.v (.int .i64 Vc),.v (.int .i64 y17)]⟩)],[(704,.live ⟨.str,.B5,0,[],y18⟩),(705,.live ⟨.node,.B5,0,[],y19⟩)]⟩
noncomputable def Rb(y0:Int)(y1:Bool)(y8:Int)(y9:Int)(iu:BA)(ix:Int)(kr:Int)(o9:BA)(yR:List BA)(Ki:List ae)(Vc:List Int)(y17:Int)(y18:Int)(y19:List BA)(y20:List ae):St:=⟨[(2,.c (.one (.pt 2 0))),(3,.c (.one (.pt 3 0))),(4,.c (.one (.pt 9 0))),(5,.c (.one (.pt 5 0))),(6,.c (.one (.pt 6 0))),(7,.c (.one (.v (.int .i64 y0)))),(17,.c (.one (.v (.bool y1))))],[(2,⟨.node,[.v (.int .i64 (0:Int)),.v (.int .i64 (0:Int)),.v (.string ByteArray.empty),.nl,.nl]⟩),(3,⟨.node,[.v (.int .i64 (0:Int)),.v (.int .i64 (0:Int)),.v (.string ByteArray.empty),.nl,.nl]⟩),(5,⟨.node,[.v (.int .i64 y8),.v (.int .i64 y9),.v (.string iu),.h 704 0 0 [],.h 705 0 0 []]⟩),(6,⟨.node,[.v (.int .i64 ix),.v (.int .i64 kr),.v (.string o9),.ro .str yR,.ro .node Ki]⟩),(9,⟨.cur,[.rk (.i .u8) Vc,.v (.int .i64 y17),.v (.int .i64 y18)]⟩)],[(704,.live ⟨.str,.B5,0,[],y19⟩),(705,.live ⟨.node,.B5,0,[],y20⟩)]⟩
noncomputable def BX:Code:=(Tryz.f10.body).getD .skip
def D3:Nat→Kp:=fa [⟨[0,2,3],[],[],[]⟩,⟨[2,3,4],[],[],[]⟩,⟨[2,3,4,5],[],[],[]⟩,⟨[2,3,4,5,6],[],[],[]⟩,⟨[2,3,4,5,6,7],[],[],[]⟩,⟨[2,3,4,5,6,7,17],[],[],[]⟩,⟨[2,3,4,5,6,7],[],[],[]⟩,⟨[2,3,4,5,6,7],[],[],[]⟩,⟨[2,3],[],[],[]⟩]
noncomputable def yV:Env:=bQ.env [(13,s13),(18,VB),(27,abf),(32,Cb),(33,s33),(34,s34)]
noncomputable def uh{R:Type}(n:Nat)(x0:Int→Bool→Int→Int→BA→(List BA)→(List ae)→(List Int)→Int→Int→Option R)(wJ:Int)(wK:Int)(wL:BA)(wM:List BA)(wN:List ae):Nat→Int→Int→Int→BA→(List BA)→(List ae)→(List Int)→Int→Int→Option R
  |0,_,_,_,_,_,_,_,_,_=>none
  |m+1,wI,wA,wB,wC,wD,wE,wF,wG,wH=>
    (cond ((fun c _=>aA c) (⟨wF,wG,wH⟩:aj) (4:Int))
   (cond (decide (wI<((af (⟨wF,wG,wH⟩:aj) (4:Int)).1)))
    (cond ((fun(c:aj)(t:ae)=>aA c&&pT t) ((af (⟨wF,wG,wH⟩:aj) (4:Int)).2) (⟨wA,wB,wC,wD,wE⟩:ae))
     (cond (B9 (⟨wA,wB,wC,wD,wE⟩:ae) (⟨(ai.kind ((iJ ((af (⟨wF,wG,wH⟩:aj) (4:Int)).2) (⟨wA,wB,wC,wD,wE⟩:ae)).1)),(ai.path ((iJ ((af (⟨wF,wG,wH⟩:aj) (4:Int)).2) (⟨wA,wB,wC,wD,wE⟩:ae)).1)),(ai.src ((iJ ((af (⟨wF,wG,wH⟩:aj) (4:Int)).2) (⟨wA,wB,wC,wD,wE⟩:ae)).1)),(eN (ai.x ((iJ ((af (⟨wF,wG,wH⟩:aj) (4:Int)).2) (⟨wA,wB,wC,wD,wE⟩:ae)).1)))⟩:ai))
      (uh n x0 wJ wK wL wM wN m (IntKind.wrap .i64 (wI+(1:Int))) (ae.kind ((aU (⟨wA,wB,wC,wD,wE⟩:ae) (⟨(ai.kind ((iJ ((af (⟨wF,wG,wH⟩:aj) (4:Int)).2) (⟨wA,wB,wC,wD,wE⟩:ae)).1)),(ai.path ((iJ ((af (⟨wF,wG,wH⟩:aj) (4:Int)).2) (⟨wA,wB,wC,wD,wE⟩:ae)).1)),(ai.src ((iJ ((af (⟨wF,wG,wH⟩:aj) (4:Int)).2) (⟨wA,wB,wC,wD,wE⟩:ae)).1)),(eN (ai.x ((iJ ((af (⟨wF,wG,wH⟩:aj) (4:Int)).2) (⟨wA,wB,wC,wD,wE⟩:ae)).1)))⟩:ai)).1)) (ae.n ((aU (⟨wA,wB,wC,wD,wE⟩:ae) (⟨(ai.kind ((iJ ((af (⟨wF,wG,wH⟩:aj) (4:Int)).2) (⟨wA,wB,wC,wD,wE⟩:ae)).1)),(ai.path ((iJ ((af (⟨wF,wG,wH⟩:aj) (4:Int)).2) (⟨wA,wB,wC,wD,wE⟩:ae)).1)),(ai.src ((iJ ((af (⟨wF,wG,wH⟩:aj) (4:Int)).2) (⟨wA,wB,wC,wD,wE⟩:ae)).1)),(eN (ai.x ((iJ ((af (⟨wF,wG,wH⟩:aj) (4:Int)).2) (⟨wA,wB,wC,wD,wE⟩:ae)).1)))⟩:ai)).1)) (ae.s ((aU (⟨wA,wB,wC,wD,wE⟩:ae) (⟨(ai.kind ((iJ ((af (⟨wF,wG,wH⟩:aj) (4:Int)).2) (⟨wA,wB,wC,wD,wE⟩:ae)).1)),(ai.path ((iJ ((af (⟨wF,wG,wH⟩:aj) (4:Int)).2) (⟨wA,wB,wC,wD,wE⟩:ae)).1)),(ai.src ((iJ ((af (⟨wF,wG,wH⟩:aj) (4:Int)).2) (⟨wA,wB,wC,wD,wE⟩:ae)).1)),(eN (ai.x ((iJ ((af (⟨wF,wG,wH⟩:aj) (4:Int)).2) (⟨wA,wB,wC,wD,wE⟩:ae)).1)))⟩:ai)).1)) (ae.keys ((aU (⟨wA,wB,wC,wD,wE⟩:ae) (⟨(ai.kind ((iJ ((af (⟨wF,wG,wH⟩:aj) (4:Int)).2) (⟨wA,wB,wC,wD,wE⟩:ae)).1)),(ai.path ((iJ ((af (⟨wF,wG,wH⟩:aj) (4:Int)).2) (⟨wA,wB,wC,wD,wE⟩:ae)).1)),(ai.src ((iJ ((af (⟨wF,wG,wH⟩:aj) (4:Int)).2) (⟨wA,wB,wC,wD,wE⟩:ae)).1)),(eN (ai.x ((iJ ((af (⟨wF,wG,wH⟩:aj) (4:Int)).2) (⟨wA,wB,wC,wD,wE⟩:ae)).1)))⟩:ai)).1)) (ae.kids ((aU (⟨wA,wB,wC,wD,wE⟩:ae) (⟨(ai.kind ((iJ ((af (⟨wF,wG,wH⟩:aj) (4:Int)).2) (⟨wA,wB,wC,wD,wE⟩:ae)).1)),(ai.path ((iJ ((af (⟨wF,wG,wH⟩:aj) (4:Int)).2) (⟨wA,wB,wC,wD,wE⟩:ae)).1)),(ai.src ((iJ ((af (⟨wF,wG,wH⟩:aj) (4:Int)).2) (⟨wA,wB,wC,wD,wE⟩:ae)).1)),(eN (ai.x ((iJ ((af (⟨wF,wG,wH⟩:aj) (4:Int)).2) (⟨wA,wB,wC,wD,wE⟩:ae)).1)))⟩:ai)).1)) (aj.b ((iJ ((af (⟨wF,wG,wH⟩:aj) (4:Int)).2) (⟨wA,wB,wC,wD,wE⟩:ae)).2)) (aj.i ((iJ ((af (⟨wF,wG,wH⟩:aj) (4:Int)).2) (⟨wA,wB,wC,wD,wE⟩:ae)).2)) (aj.h ((iJ ((af (⟨wF,wG,wH⟩:aj) (4:Int)).2) (⟨wA,wB,wC,wD,wE⟩:ae)).2)))
      none)
     none)
    (x0 wI (decide (wI<((af (⟨wF,wG,wH⟩:aj) (4:Int)).1))) wA wB wC wD wE (aj.b ((af (⟨wF,wG,wH⟩:aj) (4:Int)).2)) (aj.i ((af (⟨wF,wG,wH⟩:aj) (4:Int)).2)) (aj.h ((af (⟨wF,wG,wH⟩:aj) (4:Int)).2))))
   none)
theorem V8{R:Type}(n:Nat)(k':Kx R)(wI:Int)(wJ:Int)(wK:Int)(wL:BA)(wA:Int)(wB:Int)(wC:BA)(wD:List BA)(wE:List ae)(wF:List Int)(wG:Int)(wH:Int)(wM:List BA)(wN:List ae):ev yV D3 n (bC [1,1,1,1,0,1,0,0] BX) (Ir wI wJ wK wL wA wB wC wD wE wF wG wH wM wN) k'=
 (cond ((fun c _=>aA c) (⟨wF,wG,wH⟩:aj) (4:Int))
 (cond (decide (wI<((af (⟨wF,wG,wH⟩:aj) (4:Int)).1)))
 (cond ((fun(c:aj)(t:ae)=>aA c&&pT t) ((af (⟨wF,wG,wH⟩:aj) (4:Int)).2) (⟨wA,wB,wC,wD,wE⟩:ae))
 (cond (B9 (⟨wA,wB,wC,wD,wE⟩:ae) (⟨(ai.kind ((iJ ((af (⟨wF,wG,wH⟩:aj) (4:Int)).2) (⟨wA,wB,wC,wD,wE⟩:ae)).1)),(ai.path ((iJ ((af (⟨wF,wG,wH⟩:aj) (4:Int)).2) (⟨wA,wB,wC,wD,wE⟩:ae)).1)),(ai.src ((iJ ((af (⟨wF,wG,wH⟩:aj) (4:Int)).2) (⟨wA,wB,wC,wD,wE⟩:ae)).1)),(eN (ai.x ((iJ ((af (⟨wF,wG,wH⟩:aj) (4:Int)).2) (⟨wA,wB,wC,wD,wE⟩:ae)).1)))⟩:ai))
 (k' .normal (Ir (IntKind.wrap .i64 (wI+(1:Int))) wJ wK wL (ae.kind ((aU (⟨wA,wB,wC,wD,wE⟩:ae) (⟨(ai.kind ((iJ ((af (⟨wF,wG,wH⟩:aj) (4:Int)).2) (⟨wA,wB,wC,wD,wE⟩:ae)).1)),(ai.path ((iJ ((af (⟨wF,wG,wH⟩:aj) (4:Int)).2) (⟨wA,wB,wC,wD,wE⟩:ae)).1)),(ai.src ((iJ ((af (⟨wF,wG,wH⟩:aj) (4:Int)).2) (⟨wA,wB,wC,wD,wE⟩:ae)).1)),(eN (ai.x ((iJ ((af (⟨wF,wG,wH⟩:aj) (4:Int)).2) (⟨wA,wB,wC,wD,wE⟩:ae)).1)))⟩:ai)).1)) (ae.n ((aU (⟨wA,wB,wC,wD,wE⟩:ae) (⟨(ai.kind ((iJ ((af (⟨wF,wG,wH⟩:aj) (4:Int)).2) (⟨wA,wB,wC,wD,wE⟩:ae)).1)),(ai.path ((iJ ((af (⟨wF,wG,wH⟩:aj) (4:Int)).2) (⟨wA,wB,wC,wD,wE⟩:ae)).1)),(ai.src ((iJ ((af (⟨wF,wG,wH⟩:aj) (4:Int)).2) (⟨wA,wB,wC,wD,wE⟩:ae)).1)),(eN (ai.x ((iJ ((af (⟨wF,wG,wH⟩:aj) (4:Int)).2) (⟨wA,wB,wC,wD,wE⟩:ae)).1)))⟩:ai)).1)) (ae.s ((aU (⟨wA,wB,wC,wD,wE⟩:ae) (⟨(ai.kind ((iJ ((af (⟨wF,wG,wH⟩:aj) (4:Int)).2) (⟨wA,wB,wC,wD,wE⟩:ae)).1)),(ai.path ((iJ ((af (⟨wF,wG,wH⟩:aj) (4:Int)).2) (⟨wA,wB,wC,wD,wE⟩:ae)).1)),(ai.src ((iJ ((af (⟨wF,wG,wH⟩:aj) (4:Int)).2) (⟨wA,wB,wC,wD,wE⟩:ae)).1)),(eN (ai.x ((iJ ((af (⟨wF,wG,wH⟩:aj) (4:Int)).2) (⟨wA,wB,wC,wD,wE⟩:ae)).1)))⟩:ai)).1)) (ae.keys ((aU (⟨wA,wB,wC,wD,wE⟩:ae) (⟨(ai.kind ((iJ ((af (⟨wF,wG,wH⟩:aj) (4:Int)).2) (⟨wA,wB,wC,wD,wE⟩:ae)).1)),(ai.path ((iJ ((af (⟨wF,wG,wH⟩:aj) (4:Int)).2) (⟨wA,wB,wC,wD,wE⟩:ae)).1)),(ai.src ((iJ ((af (⟨wF,wG,wH⟩:aj) (4:Int)).2) (⟨wA,wB,wC,wD,wE⟩:ae)).1)),(eN (ai.x ((iJ ((af (⟨wF,wG,wH⟩:aj) (4:Int)).2) (⟨wA,wB,wC,wD,wE⟩:ae)).1)))⟩:ai)).1)) (ae.kids ((aU (⟨wA,wB,wC,wD,wE⟩:ae) (⟨(ai.kind ((iJ ((af (⟨wF,wG,wH⟩:aj) (4:Int)).2) (⟨wA,wB,wC,wD,wE⟩:ae)).1)),(ai.path ((iJ ((af (⟨wF,wG,wH⟩:aj) (4:Int)).2) (⟨wA,wB,wC,wD,wE⟩:ae)).1)),(ai.src ((iJ ((af (⟨wF,wG,wH⟩:aj) (4:Int)).2) (⟨wA,wB,wC,wD,wE⟩:ae)).1)),(eN (ai.x ((iJ ((af (⟨wF,wG,wH⟩:aj) (4:Int)).2) (⟨wA,wB,wC,wD,wE⟩:ae)).1)))⟩:ai)).1)) (aj.b ((iJ ((af (⟨wF,wG,wH⟩:aj) (4:Int)).2) (⟨wA,wB,wC,wD,wE⟩:ae)).2)) (aj.i ((iJ ((af (⟨wF,wG,wH⟩:aj) (4:Int)).2) (⟨wA,wB,wC,wD,wE⟩:ae)).2)) (aj.h ((iJ ((af (⟨wF,wG,wH⟩:aj) (4:Int)).2) (⟨wA,wB,wC,wD,wE⟩:ae)).2)) wM wN))
 none)
 none)
 (k' (.exit 0) (Rb wI (decide (wI<((af (⟨wF,wG,wH⟩:aj) (4:Int)).1))) wJ wK wL wA wB wC wD wE (aj.b ((af (⟨wF,wG,wH⟩:aj) (4:Int)).2)) (aj.i ((af (⟨wF,wG,wH⟩:aj) (4:Int)).2)) (aj.h ((af (⟨wF,wG,wH⟩:aj) (4:Int)).2)) wM wN)))
 none):=by kernel_rfl
theorem Re{R:Type}(n:Nat)(k':Kx R)(wJ:Int)(wK:Int)(wL:BA)(wM:List BA)(wN:List ae):∀(m:Nat)(wI:Int)(wA:Int)(wB:Int)(wC:BA)(wD:List BA)(wE:List ae)(wF:List Int)(wG:Int)(wH:Int),iter (fun st k=>ev yV D3 n (bC [1,1,1,1,0,1,0,0] BX) st k) m (Ir wI wJ wK wL wA wB wC wD wE wF wG wH wM wN) k'=uh n (fun(wT:Int)(wU:Bool)(wO:Int)(wP:Int)(wQ:BA)(wR:List BA)(wS:List ae)(wV:List Int)(wW:Int)(wX:Int)=>k' (.exit 0) (Rb wT wU wJ wK wL wO wP wQ wR wS wV wW wX wM wN)) wJ wK wL wM wN m wI wA wB wC wD wE wF wG wH:=by
 intro m;induction m with
 |zero=>intros;rfl
 |succ m ih=>
  intro wI wA wB wC wD wE wF wG wH
  simp only[iter]
  rw[V8]
  simp only[ih,uh]
noncomputable def X'{R:Type}(n:Nat)(k':Kx R):Kx R:=(b8 0 (eP yV D3 n (bC [1,1,1,1,1] BX) k'))
theorem Rf{R:Type}(n:Nat)(k:Kt R)(a0:List Int)(wJ:Int)(wK:Int)(wL:BA)(wM:List BA)(wN:List ae)(wT:Int)(wU:Bool)(wO:Int)(wP:Int)(wQ:BA)(wR:List BA)(wS:List ae)(wV:List Int)(wW:Int)(wX:Int):X' n (aI yV [.kp] [false,false] false [.cell 2 27,.cell 3 27] [27,27] [.d (.sl (.i .u8)) a0] k) (.exit 0) (Rb wT wU wJ wK wL wO wP wQ wR wS wV wW wX wM wN)=
 (k [.d .node (⟨wJ,wK,wL,wM,wN⟩:ae),.d .node (⟨wO,wP,wQ,wR,wS⟩:ae)]):=by kernel_rfl
theorem V9{R:Type}(n:Nat)(k:Kt R)(a0:List Int):aG yV D3 n BX [.kp] [false,false] false [.cell 2 27,.cell 3 27] [27,27] [.d (.sl (.i .u8)) a0] k=
 (cond (eG a0)
 (cond (Cc (aO a0) (3:Int))
 (cond (ag (eN ((dT (aO a0) (3:Int)).1)))
 (uh n (fun(wT:Int)(wU:Bool)(wO:Int)(wP:Int)(wQ:BA)(wR:List BA)(wS:List ae)(wV:List Int)(wW:Int)(wX:Int)=>
 (k [.d .node (eN ((dT (aO a0) (3:Int)).1)),.d .node (⟨wO,wP,wQ,wR,wS⟩:ae)])) (ae.kind ((dT (aO a0) (3:Int)).1)) (ae.n ((dT (aO a0) (3:Int)).1)) (ae.s ((dT (aO a0) (3:Int)).1)) (ae.keys ((dT (aO a0) (3:Int)).1)) (ae.kids ((dT (aO a0) (3:Int)).1)) n (0:Int) (ae.kind ((dT (aO a0) (3:Int)).1)) (ae.n ((dT (aO a0) (3:Int)).1)) (ae.s ((dT (aO a0) (3:Int)).1)) (ae.keys ((dT (aO a0) (3:Int)).1)) (ae.kids ((dT (aO a0) (3:Int)).1)) (aj.b ((dT (aO a0) (3:Int)).2)) (aj.i ((dT (aO a0) (3:Int)).2)) (aj.h ((dT (aO a0) (3:Int)).2)))
 none)
 none)
 none):=by
  refine Eq.trans (b:=(cond (eG a0)
  (cond (Cc (aO a0) (3:Int))
   (cond (ag (eN ((dT (aO a0) (3:Int)).1)))
    (iter (fun st k=>ev yV D3 n (bC [1,1,1,1,0,1,0,0] BX) st k) n (Ir (0:Int) (ae.kind ((dT (aO a0) (3:Int)).1)) (ae.n ((dT (aO a0) (3:Int)).1)) (ae.s ((dT (aO a0) (3:Int)).1)) (ae.kind ((dT (aO a0) (3:Int)).1)) (ae.n ((dT (aO a0) (3:Int)).1)) (ae.s ((dT (aO a0) (3:Int)).1)) (ae.keys ((dT (aO a0) (3:Int)).1)) (ae.kids ((dT (aO a0) (3:Int)).1)) (aj.b ((dT (aO a0) (3:Int)).2)) (aj.i ((dT (aO a0) (3:Int)).2)) (aj.h ((dT (aO a0) (3:Int)).2)) (ae.keys ((dT (aO a0) (3:Int)).1)) (ae.kids ((dT (aO a0) (3:Int)).1))) (X' n (aI yV [.kp] [false,false] false [.cell 2 27,.cell 3 27] [27,27] [.d (.sl (.i .u8)) a0] k)))
    none)
   none)
  none)) (by kernel_rfl) ?_
  simp only[Re,Rf]
def Ya(a0:List Int)(o:ae×ae):Prop:=(fun _ o=>(ag o.1=true∧ag o.2=true)∧ak o.1≤6400∧ak o.2≤420200) a0 o∧∃n:Nat,∀{R:Type}(k:Kt R),aG yV D3 n BX [.kp] [false,false] false [.cell 2 27,.cell 3 27] [27,27] [.d (.sl (.i .u8)) a0] k=k [.d .node o.1,.d .node o.2]
theorem abg(a0:List Int)(hg:eG a0=true):∃o:ae×ae,(fun _ o=>(ag o.1=true∧ag o.2=true)∧ak o.1≤6400∧ak o.2≤420200) a0 o∧∃n:Nat,∀{R:Type}(k:Kt R),aG yV D3 n BX [.kp] [false,false] false [.cell 2 27,.cell 3 27] [27,27] [.d (.sl (.i .u8)) a0] k=k [.d .node o.1,.d .node o.2]:=by
 have g0:=Ac a0 hg
 have d3:=BT (d:=3) g0 rfl
 obtain⟨⟨s1,z1,_⟩,g1⟩:=Ak d3
 have z1:ak (dT (aO a0) 3).1≤6400:=z1
 have key:∀(a:ae)(d m i:Nat)(t:ae)(c:aj),i+d=3→d<m→ag t=true→4^d*(ak t+168)≤420352→aA c=true→
   ∃t':ae,(ag t'=true∧ak t'≤420200)∧∀{R:Type}(X:Int→Bool→Int→Int→BA→List BA→List ae→List Int→Int→Int→Option R)(Z:ae→Option R),(∀ i b v w u p q x y z,X i b v w u p q x y z=Z ⟨v,w,u,p,q⟩)→
    uh 10 X a.kind a.n a.s a.keys a.kids m (i:Int) t.kind t.n t.s t.keys t.kids c.b c.i c.h=Z t':=by
  intro a d
  induction d with
  |zero=>
   intro m i t c hi hm hs hz hc
   obtain⟨m,rfl⟩:∃m',m=m'+1:=⟨m-1,by omega⟩
   obtain⟨b0,b1,b2⟩:=cu c 4 hc
   have b1:=b1 (by omega)
   refine⟨t,⟨hs,by rw[Nat.pow_zero,Nat.one_mul] at hz;omega⟩,fun {R} X Z hX=> ?_⟩
   simp only[uh,fy,az,aK,hc,decide_eq_false (show ¬((i:Int)<(af c 4).1) by omega),hX,cond_true,cond_false]
  |succ d ih=>
   intro m i t c hi hm hs hz hc
   obtain⟨m,rfl⟩:∃m',m=m'+1:=⟨m-1,by omega⟩
   obtain⟨b0,b1,b2⟩:=cu c 4 hc
   have hp4:1≤4^d:=Nat.one_le_pow _ _ (by decide)
   rw[Nat.pow_succ,Nat.mul_assoc] at hz
   have hz3:=Nat.mul_le_mul_right (4*(ak t+168)) hp4
   have hz4:4*(ak t+168)≤420352:=by rw[Nat.one_mul] at hz3;exact Nat.le_trans hz3 hz
   cases hd:decide ((i:Int)<(af c 4).1)
   ·refine⟨t,⟨hs,by omega⟩,fun {R} X Z hX=> ?_⟩
    simp only[uh,fy,az,aK,hc,hd,hX,cond_true,cond_false]
   have hx:pT t=true:=kW.2 ⟨hs,by omega⟩
   have L5:(aA (af c 4).2&&pT t)=true:=by rw[b2,hx];rfl
   obtain⟨ho,g3⟩:=abd _ _ L5
   obtain⟨p1,p2⟩:=By hx ho
   have yF:B9 t (iJ (af c 4).2 t).1=true:=by simp only[B9,hs,ho.1,Bool.and_self]
   have hw:IntKind.wrap .i64 ((i:Int)+1)=((i+1:Nat):Int):=by rw[cn (by omega) (by omega)];omega
   obtain⟨t',ht',hh⟩:=ih m (i+1) (aU t (iJ (af c 4).2 t).1).1 (iJ (af c 4).2 t).2 (by omega) (by omega) p1 (Nat.le_trans (Nat.mul_le_mul_left _ (by omega)) hz) g3
   refine⟨t',ht',fun {R} X Z hX=> ?_⟩
   simp only[uh,fy,az,aK,Bj,aK,hc,hd,L5,yF,hw,cond_true]
   exact hh X Z hX
 obtain⟨t',⟨h1,h2⟩,hh⟩:=key (dT (aO a0) 3).1 3 10 0 (dT (aO a0) 3).1 (dT (aO a0) 3).2 rfl (by omega) s1 (by show 64*_≤_;omega) g1
 refine⟨((dT (aO a0) 3).1,t'),⟨⟨s1,h1⟩,z1,h2⟩,10,fun {R} k=> ?_⟩
 rw[V9]
 simp only[hg,d3,s1,aK,cond_true]
 exact hh _ (fun t=>k [.d .node (dT (aO a0) 3).1,.d .node t]) (fun _ _ _ _ _ _ _ _ _ _=>rfl)
theorem Rg(a0:List Int):Nonempty {o:ae×ae // eG a0=true→Ya a0 o}:=by
 by_cases hg:eG a0=true
 ·obtain⟨o,ho⟩:=abg a0 hg
  exact⟨⟨o,fun _=>ho⟩⟩
 ·exact⟨⟨((zero .node),(zero .node)),fun h=>absurd h hg⟩⟩
noncomputable def bO(a0:List Int):ae×ae:=(Classical.choice (Rg a0)).val
theorem Rh(a0:List Int)(hg:eG a0=true):Ya a0 (bO a0):=(Classical.choice (Rg a0)).property hg
theorem Kq(a0:List Int)(hg:eG a0=true):(fun _ o=>(ag o.1=true∧ag o.2=true)∧ak o.1≤6400∧ak o.2≤420200) a0 (bO a0):=(Rh a0 hg).1
theorem Ri(a0:List Int)(hg:eG a0=true):∃keep rounds,∀{R:Type}(k:Kt R),aG yV keep rounds BX [.kp] [false,false] false [.cell 2 27,.cell 3 27] [27,27] [.d (.sl (.i .u8)) a0] k=k [.d .node ((bO a0).1),.d .node ((bO a0).2)]:=by
 obtain⟨n,hn⟩:=(Rh a0 hg).2
 exact⟨D3,n,hn⟩
noncomputable def q10:Qt
 | [.d (.sl (.i .u8)) a0]=>some ((eG a0),[.d .node ((bO a0).1),.d .node ((bO a0).2)])
 |_=>none
noncomputable def s10:Gm.Spec:=Gm.Spec.of [.kp] [false,false] false q10
theorem abh:Gm.Good Tryz.prog (10,s10):=by
 have hl:∀x∈[(13,s13),(18,VB),(27,abf),(32,Cb),(33,s33),(34,s34)],Gm.Good Tryz.prog x:=bt.2 ⟨Nh,bt.2 ⟨BU,bt.2 ⟨V7,bt.2 ⟨nP,bt.2 ⟨aa',bt.2 ⟨abe,gw⟩⟩⟩⟩⟩⟩
 refine⟨⟨aD (aL.env hl) (bQ.cq hl) Tryz.func10 (by kernel_rfl:Tryz.f10.body=some BX) [27,27] (by kernel_rfl) ?_,_,Tryz.func10,by kernel_rfl,of_decide_eq_true (by kernel_rfl)⟩,Gm.Spec.ax _ _ _ _⟩
 intro ds outs h
 unfold q10 at h
 split at h
 ·simp only[Option.some.injEq,Prod.mk.injEq] at h;obtain⟨hg,h⟩:=h;cases h;exact Ri _ hg
 ·cases h
noncomputable def f4c:Code:=(Tryz.f4.body).getD .skip
def f4k:Nat→Kp:=fa [⟨[0],[],[],[]⟩,⟨[2],[],[],[]⟩]
noncomputable def f4e:Env:=bQ.env []
theorem abi{R:Type}(n:Nat)(k:Kt R)(a0:List Int):aG f4e f4k n f4c [.ro] [false] true [.tmp 2] [4] [.d (.sl (.i .u8)) a0] k=
 (k [.d .bool (decide ((a0.length:Int)>(1048576:Int)))]):=by kernel_rfl
theorem V'(a0:List Int):∃keep rounds,∀{R:Type}(k:Kt R),aG f4e keep rounds f4c [.ro] [false] true [.tmp 2] [4] [.d (.sl (.i .u8)) a0] k=k [.d .bool (Fh a0)]:=by
 exact⟨f4k,0,fun k=>abi 0 k a0⟩
noncomputable def q4:Qt
 | [.d (.sl (.i .u8)) a0]=>some (true,[.d .bool (Fh a0)])
 |_=>none
noncomputable def s4:Gm.Spec:=Gm.Spec.of [.ro] [false] true q4
theorem afU:Gm.Good Tryz.prog (4,s4):=by
 have hl:∀x∈([]:List (Nat×Gm.Spec)),Gm.Good Tryz.prog x:=fun _ h=>by cases h
 refine⟨⟨aD (aL.env hl) (bQ.cq hl) Tryz.func4 (by kernel_rfl:Tryz.f4.body=some f4c) [4] (by kernel_rfl) ?_,_,Tryz.func4,by kernel_rfl,of_decide_eq_true (by kernel_rfl)⟩,Gm.Spec.ax _ _ _ _⟩
 intro ds outs h
 unfold q4 at h
 split at h
 ·cases h;exact V' _
 ·cases h
noncomputable def Wa(y0:List BA)(y1:List BA)(y2:Int):St:=⟨[(0,.c (.one (.ro .str y0))),(1,.c (.one (.ro .str y1))),(5,.c (.one (.v (.int .i64 y2))))],[],[]⟩
noncomputable def abj:St:=⟨[(4,.c (.one (.v (.bool false))))],[],[]⟩
noncomputable def abk(y0:List BA)(y1:List BA)(y2:Int)(y3:Bool):St:=⟨[(0,.c (.one (.ro .str y0))),(1,.c (.one (.ro .str y1))),(5,.c (.one (.v (.int .i64 y2)))),(14,.c (.one (.v (.bool y3))))],[],[]⟩
noncomputable def f8c:Code:=(Tryz.f8.body).getD .skip
def f8k:Nat→Kp:=fa [⟨[0,1],[],[],[]⟩,⟨[0,1,10],[],[],[]⟩,⟨[4],[],[],[]⟩,⟨[0,1,5],[],[],[]⟩,⟨[0,1,5,14],[],[],[]⟩,⟨[0,1,5],[],[],[]⟩,⟨[0,1,5,25],[],[],[]⟩,⟨[4],[],[],[]⟩,⟨[4],[],[],[]⟩]
noncomputable def Wb:Env:=bQ.env []
noncomputable def Gx{R:Type}(n:Nat)(x0:Option R)(x1:Int→Bool→Option R)(wB:List BA)(wC:List BA):Nat→Int→Option R
  |0,_=>none
  |m+1,wA=>
    (cond (decide (wA<(wB.length:Int)))
   (cond ((decide ((0:Int)≤wA))&&(decide (wA<(wB.length:Int))))
    (cond ((decide ((0:Int)≤wA))&&(decide (wA<(wC.length:Int))))
     (cond (!(cy (al (t:= .str) wB (Int.toNat wA)) (al (t:= .str) wC (Int.toNat wA))))
      (x0)
      (Gx n x0 x1 wB wC m (IntKind.wrap .i64 (wA+(1:Int)))))
     none)
    none)
   (x1 wA (decide (wA<(wB.length:Int)))))
theorem abm{R:Type}(n:Nat)(k':Kx R)(wB:List BA)(wC:List BA)(wA:Int):ev Wb f8k n (bC [1,1,0,1,0,0] f8c) (Wa wB wC wA) k'=
 (cond (decide (wA<(wB.length:Int)))
 (cond ((decide ((0:Int)≤wA))&&(decide (wA<(wB.length:Int))))
 (cond ((decide ((0:Int)≤wA))&&(decide (wA<(wC.length:Int))))
 (cond (!(cy (al (t:= .str) wB (Int.toNat wA)) (al (t:= .str) wC (Int.toNat wA))))
 (k' .ret abj)
 (k' .normal (Wa wB wC (IntKind.wrap .i64 (wA+(1:Int))))))
 none)
 none)
 (k' (.exit 0) (abk wB wC wA (decide (wA<(wB.length:Int)))))):=by kernel_rfl
theorem Wc{R:Type}(n:Nat)(k':Kx R)(wB:List BA)(wC:List BA):∀(m:Nat)(wA:Int),iter (fun st k=>ev Wb f8k n (bC [1,1,0,1,0,0] f8c) st k) m (Wa wB wC wA) k'=Gx n (k' .ret abj) (fun(wD:Int)(wE:Bool)=>k' (.exit 0) (abk wB wC wD wE)) wB wC m wA:=by
 intro m;induction m with
 |zero=>intros;rfl
 |succ m ih=>
  intro wA
  simp only[iter]
  rw[abm]
  simp only[ih,Gx]
noncomputable def abn{R:Type}(n:Nat)(k':Kx R):Kx R:=(b8 0 (eP Wb f8k n (bC [1,1,1] f8c) k'))
theorem Wd{R:Type}(n:Nat)(k:Kt R)(a0:List BA)(a1:List BA):abn n (aI Wb [.ro,.ro] [false] true [.tmp 4] [4] [.d (.sl .str) a0,.d (.sl .str) a1] k) .ret abj=
 (k [.d .bool false]):=by kernel_rfl
theorem Wg{R:Type}(n:Nat)(k:Kt R)(a0:List BA)(a1:List BA)(wB:List BA)(wC:List BA)(wD:Int)(wE:Bool):abn n (aI Wb [.ro,.ro] [false] true [.tmp 4] [4] [.d (.sl .str) a0,.d (.sl .str) a1] k) (.exit 0) (abk wB wC wD wE)=
 (k [.d .bool true]):=by kernel_rfl
theorem abo{R:Type}(n:Nat)(k:Kt R)(a0:List BA)(a1:List BA):aG Wb f8k n f8c [.ro,.ro] [false] true [.tmp 4] [4] [.d (.sl .str) a0,.d (.sl .str) a1] k=
 (cond ((a0.length:Int) !=(a1.length:Int))
 (k [.d .bool false])
 (Gx n (k [.d .bool false]) (fun(wD:Int)(wE:Bool)=>
 (k [.d .bool true])) a0 a1 n (0:Int))):=by
 refine Eq.trans (b:=(cond ((a0.length:Int) !=(a1.length:Int))
 (k [.d .bool false])
 (iter (fun st k=>ev Wb f8k n (bC [1,1,0,1,0,0] f8c) st k) n (Wa a0 a1 (0:Int)) (abn n (aI Wb [.ro,.ro] [false] true [.tmp 4] [4] [.d (.sl .str) a0,.d (.sl .str) a1] k))))) (by kernel_rfl) ?_
 simp only[Wc,Wd,Wg]
theorem Wh(a0:List BA)(a1:List BA)(hg:xh fk a0 a1=true):∃keep rounds,∀{R:Type}(k:Kt R),aG Wb keep rounds f8c [.ro,.ro] [false] true [.tmp 4] [4] [.d (.sl .str) a0,.d (.sl .str) a1] k=k [.d .bool ((fun(_ _:List BA)=>true) a0 a1)]:=by
 obtain⟨hl,rfl⟩:=zO.1 hg
 have hl:=ng hl
 refine⟨f8k,a0.length+1,fun {R} k=> ?_⟩
 rw[abo,bne_self_eq_false]
 show _=k [.d .bool true]
 have key:∀(X:Option R)(Y:Int→Bool→Option R),(∀ i b,Y i b=k [.d .bool true])→∀d j m,j+d=a0.length→d<m→Gx (a0.length+1) X Y a0 a0 m (j:Int)=k [.d .bool true]:=by
  intro X Y hY d
  induction d with
  |zero=>
   intro j m hj hm
   obtain⟨m,rfl⟩:∃m',m=m'+1:=⟨m-1,by omega⟩
   simp only[Gx,decide_eq_false (show ¬((j:Int)<(a0.length:Int)) by omega),cond_false,hY]
  |succ d ih=>
   intro j m hj hm
   obtain⟨m,rfl⟩:∃m',m=m'+1:=⟨m-1,by omega⟩
   obtain⟨h1,h0,hw,ht⟩:=idx (show j<a0.length by omega) (by omega)
   simp only[Gx,h1,h0,hw,ht,jo,Mv,beq_self_eq_true,Bool.and_self,Bool.not_true,cond_true,cond_false]
   exact ih (j+1) m (by omega) (by omega)
 exact key _ _ (fun _ _=>rfl) a0.length 0 (a0.length+1) (by omega) (by omega)
noncomputable def q8:Qt
 | [.d (.sl .str) a0,.d (.sl .str) a1]=>some (((xh (fk (α:=BA))) a0 a1),[.d .bool ((fun(_ _:List BA)=>true) a0 a1)])
 |_=>none
noncomputable def s8:Gm.Spec:=Gm.Spec.of [.ro,.ro] [false] true q8
theorem afV:Gm.Good Tryz.prog (8,s8):=by
 have hl:∀x∈([]:List (Nat×Gm.Spec)),Gm.Good Tryz.prog x:=fun _ h=>by cases h
 refine⟨⟨aD (aL.env hl) (bQ.cq hl) Tryz.func8 (by kernel_rfl:Tryz.f8.body=some f8c) [4] (by kernel_rfl) ?_,_,Tryz.func8,by kernel_rfl,of_decide_eq_true (by kernel_rfl)⟩,Gm.Spec.ax _ _ _ _⟩
 intro ds outs h
 unfold q8 at h
 split at h
 ·simp only[Option.some.injEq,Prod.mk.injEq] at h;obtain⟨hg,h⟩:=h;cases h;exact Wh _ _ hg
 ·cases h
noncomputable def Is(y0:List ai)(y1:Int)(y2:Int)(y3:Int)(y4:Int)(y5:BA)(y6:List BA)(y7:List ae)(ix:Int)(kr:Int)(o9:BA)(yR:List BA)(Ki:List ae):St:=⟨[(2,.c (.one (.pt 2 0))),(4,.c (.one (.pt 4 0))),(6,.c (.one (.pt 6 0))),(18,.c (.one (.ro .pop y0))),(19,.c (.one (.v (.int .i64 y1)))),(20,.c (.one (.v (.int .i64 y2))))],[(2,⟨.node,[.v (.int .i64 y3),.v (.int .i64 y4),.v (.string y5),.ro .str y6,.ro .node y7]⟩),(4,⟨.node,[.v (.int .i64 (0:Int)),.v (.int .i64 (0:Int)),.v (.string ByteArray.empty),.nl,.nl]⟩),(6,⟨.node,[.v (.int .i64 ix),.v (.int .i64 kr),.v (.string o9),.h 1088 0 0 [],.h 1089 0 0 []]⟩)],[(1088,.live ⟨.str,.deep,0,[],yR⟩),(1089,.live ⟨.node,.deep,0,[],Ki⟩)]⟩
noncomputable def Rj(y0:Int)(y1:Int)(y2:Int)(y3:BA)(y4:List BA)(y5:List ae):St:=⟨[(4,.c (.one (.pt 4 0))),(5,.c (.one (.v (.int .i64 y0))))],[(4,⟨.node,[.v (.int .i64 y1),.v (.int .i64 y2),.v (.string y3),.h 2176 0 0 [],.h 2177 0 0 []]⟩)],[(2176,.live ⟨.str,.deep,0,[],y4⟩),(2177,.live ⟨.node,.deep,0,[],y5⟩)]⟩
noncomputable def Rk(y0:List ai)(y1:Int)(y2:Int)(y3:Bool)(y4:Int)(y5:Int)(y6:BA)(y7:List BA)(y8:List ae)(kr:Int)(o9:Int)(yR:BA)(Ki:List BA)(Vc:List ae):St:=⟨[(2,.c (.one (.pt 2 0))),(4,.c (.one (.pt 4 0))),(6,.c (.one (.pt 6 0))),(18,.c (.one (.ro .pop y0))),(19,.c (.one (.v (.int .i64 y1)))),(20,.c (.one (.v (.int .i64 y2)))),(21,.c (.one (.v (.bool y3))))],[(2,⟨.node,[.v (.int .i64 y4),.v (.int .i64 y5),.v (.string y6),.ro .str y7,.ro .node y8]⟩),(4,⟨.node,[.v (.int .i64 (0:Int)),.v (.int .i64 (0:Int)),.v (.string ByteArray.empty),.nl,.nl]⟩),(6,⟨.node,[.v (.int .i64 kr),.v (.int .i64 o9),.v (.string yR),.h 1088 0 0 [],.h 1089 0 0 []]⟩)],[(1088,.live ⟨.str,.deep,0,[],Ki⟩),(1089,.live ⟨.node,.deep,0,[],Vc⟩)]⟩
noncomputable def Gy:Code:=(Tryz.f12.body).getD .skip
def Kr:Nat→Kp:=fa [⟨[1,2,4],[],[],[]⟩,⟨[1,2,4,13],[],[],[]⟩,⟨[4,5],[],[],[]⟩,⟨[1,2,4,6],[],[],[]⟩,⟨[2,4,6,18,19,20],[],[],[]⟩,⟨[2,4,6,18,19,20,21],[],[],[]⟩,⟨[2,4,6,7,8,18,19,20],[],[],[]⟩,⟨[2,4,6,7,9,10,18,19,20],[],[],[]⟩,⟨[2,4,6,7,9,18,19,20,32],[],[],[]⟩,⟨[4,5],[],[],[]⟩,⟨[2,4,6,18,19,20],[],[],[]⟩,⟨[2,4,6,18,19,20],[],[],[(1792,1088),(1793,1089)]⟩,⟨[4,5],[],[],[]⟩]
noncomputable def BY:Env:=bQ.env [(23,pU),(37,s37)]
noncomputable def yj{R:Type}(n:Nat)(x0:Int→Option R)(x1:Int→Bool→Int→Int→BA→(List BA)→(List ae)→Option R)(wB:List ai)(wM:Int)(wH:Int)(wI:Int)(wJ:BA)(wK:List BA)(wL:List ae):Nat→Int→Int→Int→BA→(List BA)→(List ae)→Option R
  |0,_,_,_,_,_,_=>none
  |m+1,wA,wC,wD,wE,wF,wG=>
    (cond (decide (wA<wM))
   (cond ((decide ((0:Int)≤wA))&&(decide (wA<(wB.length:Int))))
    (cond (B9 (⟨wC,wD,wE,wF,wG⟩:ae) (⟨(ai.kind (al (t:= .pop) wB (Int.toNat wA))),(ai.path (al (t:= .pop) wB (Int.toNat wA))),(ai.src (al (t:= .pop) wB (Int.toNat wA))),(eN (ai.x (al (t:= .pop) wB (Int.toNat wA))))⟩:ai))
     (cond (!((aU (⟨wC,wD,wE,wF,wG⟩:ae) (⟨(ai.kind (al (t:= .pop) wB (Int.toNat wA))),(ai.path (al (t:= .pop) wB (Int.toNat wA))),(ai.src (al (t:= .pop) wB (Int.toNat wA))),(eN (ai.x (al (t:= .pop) wB (Int.toNat wA))))⟩:ai)).2))
      (cond (ag (⟨wH,wI,wJ,wK,wL⟩:ae))
       (x0 wA)
       none)
      (yj n x0 x1 wB wM wH wI wJ wK wL m (IntKind.wrap .i64 (wA+(1:Int))) (ae.kind ((aU (⟨wC,wD,wE,wF,wG⟩:ae) (⟨(ai.kind (al (t:= .pop) wB (Int.toNat wA))),(ai.path (al (t:= .pop) wB (Int.toNat wA))),(ai.src (al (t:= .pop) wB (Int.toNat wA))),(eN (ai.x (al (t:= .pop) wB (Int.toNat wA))))⟩:ai)).1)) (ae.n ((aU (⟨wC,wD,wE,wF,wG⟩:ae) (⟨(ai.kind (al (t:= .pop) wB (Int.toNat wA))),(ai.path (al (t:= .pop) wB (Int.toNat wA))),(ai.src (al (t:= .pop) wB (Int.toNat wA))),(eN (ai.x (al (t:= .pop) wB (Int.toNat wA))))⟩:ai)).1)) (ae.s ((aU (⟨wC,wD,wE,wF,wG⟩:ae) (⟨(ai.kind (al (t:= .pop) wB (Int.toNat wA))),(ai.path (al (t:= .pop) wB (Int.toNat wA))),(ai.src (al (t:= .pop) wB (Int.toNat wA))),(eN (ai.x (al (t:= .pop) wB (Int.toNat wA))))⟩:ai)).1)) (ae.keys ((aU (⟨wC,wD,wE,wF,wG⟩:ae) (⟨(ai.kind (al (t:= .pop) wB (Int.toNat wA))),(ai.path (al (t:= .pop) wB (Int.toNat wA))),(ai.src (al (t:= .pop) wB (Int.toNat wA))),(eN (ai.x (al (t:= .pop) wB (Int.toNat wA))))⟩:ai)).1)) (ae.kids ((aU (⟨wC,wD,wE,wF,wG⟩:ae) (⟨(ai.kind (al (t:= .pop) wB (Int.toNat wA))),(ai.path (al (t:= .pop) wB (Int.toNat wA))),(ai.src (al (t:= .pop) wB (Int.toNat wA))),(eN (ai.x (al (t:= .pop) wB (Int.toNat wA))))⟩:ai)).1))))
     none)
    none)
   (x1 wA (decide (wA<wM)) wC wD wE wF wG))
theorem Wi{R:Type}(n:Nat)(k':Kx R)(wB:List ai)(wM:Int)(wA:Int)(wH:Int)(wI:Int)(wJ:BA)(wK:List BA)(wL:List ae)(wC:Int)(wD:Int)(wE:BA)(wF:List BA)(wG:List ae):ev BY Kr n (bC [1,1,1,0,1,0,0] Gy) (Is wB wM wA wH wI wJ wK wL wC wD wE wF wG) k'=
 (cond (decide (wA<wM))
 (cond ((decide ((0:Int)≤wA))&&(decide (wA<(wB.length:Int))))
 (cond (B9 (⟨wC,wD,wE,wF,wG⟩:ae) (⟨(ai.kind (al (t:= .pop) wB (Int.toNat wA))),(ai.path (al (t:= .pop) wB (Int.toNat wA))),(ai.src (al (t:= .pop) wB (Int.toNat wA))),(eN (ai.x (al (t:= .pop) wB (Int.toNat wA))))⟩:ai))
 (cond (!((aU (⟨wC,wD,wE,wF,wG⟩:ae) (⟨(ai.kind (al (t:= .pop) wB (Int.toNat wA))),(ai.path (al (t:= .pop) wB (Int.toNat wA))),(ai.src (al (t:= .pop) wB (Int.toNat wA))),(eN (ai.x (al (t:= .pop) wB (Int.toNat wA))))⟩:ai)).2))
 (cond (ag (⟨wH,wI,wJ,wK,wL⟩:ae))
 (k' .ret (Rj wA wH wI wJ wK wL))
 none)
 (k' .normal (Is wB wM (IntKind.wrap .i64 (wA+(1:Int))) wH wI wJ wK wL (ae.kind ((aU (⟨wC,wD,wE,wF,wG⟩:ae) (⟨(ai.kind (al (t:= .pop) wB (Int.toNat wA))),(ai.path (al (t:= .pop) wB (Int.toNat wA))),(ai.src (al (t:= .pop) wB (Int.toNat wA))),(eN (ai.x (al (t:= .pop) wB (Int.toNat wA))))⟩:ai)).1)) (ae.n ((aU (⟨wC,wD,wE,wF,wG⟩:ae) (⟨(ai.kind (al (t:= .pop) wB (Int.toNat wA))),(ai.path (al (t:= .pop) wB (Int.toNat wA))),(ai.src (al (t:= .pop) wB (Int.toNat wA))),(eN (ai.x (al (t:= .pop) wB (Int.toNat wA))))⟩:ai)).1)) (ae.s ((aU (⟨wC,wD,wE,wF,wG⟩:ae) (⟨(ai.kind (al (t:= .pop) wB (Int.toNat wA))),(ai.path (al (t:= .pop) wB (Int.toNat wA))),(ai.src (al (t:= .pop) wB (Int.toNat wA))),(eN (ai.x (al (t:= .pop) wB (Int.toNat wA))))⟩:ai)).1)) (ae.keys ((aU (⟨wC,wD,wE,wF,wG⟩:ae) (⟨(ai.kind (al (t:= .pop) wB (Int.toNat wA))),(ai.path (al (t:= .pop) wB (Int.toNat wA))),(ai.src (al (t:= .pop) wB (Int.toNat wA))),(eN (ai.x (al (t:= .pop) wB (Int.toNat wA))))⟩:ai)).1)) (ae.kids ((aU (⟨wC,wD,wE,wF,wG⟩:ae) (⟨(ai.kind (al (t:= .pop) wB (Int.toNat wA))),(ai.path (al (t:= .pop) wB (Int.toNat wA))),(ai.src (al (t:= .pop) wB (Int.toNat wA))),(eN (ai.x (al (t:= .pop) wB (Int.toNat wA))))⟩:ai)).1)))))
 none)
 none)
 (k' (.exit 0) (Rk wB wM wA (decide (wA<wM)) wH wI wJ wK wL wC wD wE wF wG))):=by kernel_rfl
theorem Rl{R:Type}(n:Nat)(k':Kx R)(wB:List ai)(wM:Int)(wH:Int)(wI:Int)(wJ:BA)(wK:List BA)(wL:List ae):∀(m:Nat)(wA:Int)(wC:Int)(wD:Int)(wE:BA)(wF:List BA)(wG:List ae),iter (fun st k=>ev BY Kr n (bC [1,1,1,0,1,0,0] Gy) st k) m (Is wB wM wA wH wI wJ wK wL wC wD wE wF wG) k'=yj n (fun(wN:Int)=>k' .ret (Rj wN wH wI wJ wK wL)) (fun(wT:Int)(wU:Bool)(wO:Int)(wP:Int)(wQ:BA)(wR:List BA)(wS:List ae)=>k' (.exit 0) (Rk wB wM wT wU wH wI wJ wK wL wO wP wQ wR wS)) wB wM wH wI wJ wK wL m wA wC wD wE wF wG:=by
 intro m;induction m with
 |zero=>intros;rfl
 |succ m ih=>
  intro wA wC wD wE wF wG
  simp only[iter]
  rw[Wi]
  simp only[ih,yj]
noncomputable def Rm{R:Type}(n:Nat)(k':Kx R):Kx R:=(b8 0 (eP BY Kr n (bC [1,1,1,1] Gy) k'))
theorem Rn{R:Type}(n:Nat)(k:Kt R)(a0:ae)(a1:List ai)(wH:Int)(wI:Int)(wJ:BA)(wK:List BA)(wL:List ae)(wN:Int):Rm n (aI BY [.ro,.ro] [false,false] true [.cell 4 27,.tmp 5] [27,3] [.d .node a0,.d (.sl .pop) a1] k) .ret (Rj wN wH wI wJ wK wL)=
 (k [.d .node (⟨wH,wI,wJ,wK,wL⟩:ae),.d (.i .i64) wN]):=by kernel_rfl
theorem Ro{R:Type}(n:Nat)(k:Kt R)(a0:ae)(a1:List ai)(wB:List ai)(wM:Int)(wH:Int)(wI:Int)(wJ:BA)(wK:List BA)(wL:List ae)(wT:Int)(wU:Bool)(wO:Int)(wP:Int)(wQ:BA)(wR:List BA)(wS:List ae):Rm n (aI BY [.ro,.ro] [false,false] true [.cell 4 27,.tmp 5] [27,3] [.d .node a0,.d (.sl .pop) a1] k) (.exit 0) (Rk wB wM wT wU wH wI wJ wK wL wO wP wQ wR wS)=
 (k [.d .node (⟨wO,wP,wQ,wR,wS⟩:ae),.d (.i .i64) (-1:Int)]):=by kernel_rfl
theorem Wj{R:Type}(n:Nat)(k:Kt R)(a0:ae)(a1:List ai):aG BY Kr n Gy [.ro,.ro] [false,false] true [.cell 4 27,.tmp 5] [27,3] [.d .node a0,.d (.sl .pop) a1] k=
 (cond (decide ((a1.length:Int)>(200:Int)))
 (cond (ag (eN a0))
 (k [.d .node (eN a0),.d (.i .i64) (0:Int)])
 none)
 (cond (ag (eN a0))
 (yj n (fun(wN:Int)=>
 (k [.d .node (eN a0),.d (.i .i64) wN])) (fun(wT:Int)(wU:Bool)(wO:Int)(wP:Int)(wQ:BA)(wR:List BA)(wS:List ae)=>
 (k [.d .node (⟨wO,wP,wQ,wR,wS⟩:ae),.d (.i .i64) (-1:Int)])) a1 (a1.length:Int) (ae.kind a0) (ae.n a0) (ae.s a0) (ae.keys a0) (ae.kids a0) n (0:Int) (ae.kind a0) (ae.n a0) (ae.s a0) (ae.keys a0) (ae.kids a0))
 none)):=by
  refine Eq.trans (b:=(cond (decide ((a1.length:Int)>(200:Int)))
  (cond (ag (eN a0))
   (k [.d .node (eN a0),.d (.i .i64) (0:Int)])
   none)
  (cond (ag (eN a0))
   (iter (fun st k=>ev BY Kr n (bC [1,1,1,0,1,0,0] Gy) st k) n (Is a1 (a1.length:Int) (0:Int) (ae.kind a0) (ae.n a0) (ae.s a0) (ae.keys a0) (ae.kids a0) (ae.kind a0) (ae.n a0) (ae.s a0) (ae.keys a0) (ae.kids a0)) (Rm n (aI BY [.ro,.ro] [false,false] true [.cell 4 27,.tmp 5] [27,3] [.d .node a0,.d (.sl .pop) a1] k)))
   none))) (by kernel_rfl) ?_
  simp only[Rl,Rn,Ro]
theorem Rp(a0:ae)(a1:List ai)(hg:XH a0 a1=true):∃keep rounds,∀{R:Type}(k:Kt R),aG BY keep rounds Gy [.ro,.ro] [false,false] true [.cell 4 27,.tmp 5] [27,3] [.d .node a0,.d (.sl .pop) a1] k=k [.d .node ((fe a0 a1).1),.d (.i .i64) ((fe a0 a1).2)]:=by
 have hs:ag a0=true:=by simp only[XH,Bool.and_eq_true] at hg;exact hg.1
 refine⟨Kr,a1.length+1,fun {R} k=> ?_⟩
 rw[Wj]
 simp only[aK,hs,cond_true]
 unfold fe
 cases hl:decide ((a1.length:Int)>(200:Int))
 rotate_left
 ·rfl
 have hr:FD a0 a1=true:=by
  simp only[XH,Bool.and_eq_true] at hg
  have:=hg.2
  rw[hl] at this;exact this
 have hn:a1.length≤200:=by have:=of_decide_eq_false hl;omega
 simp only[cond_false]
 have key:∀(r:List ai)(m i:Nat)(t:ae),i+r.length=a1.length→a1.drop i=r→r.length<m→FD t r=true→
   yj (a1.length+1) (fun(x:Int)=>k [.d .node a0,.d (.i .i64) x]) (fun(_:Int)(_:Bool)(b0:Int)(b1:Int)(b2:BA)(b3:List BA)(b4:List ae)=>k [.d .node (⟨b0,b1,b2,b3,b4⟩:ae),.d (.i .i64) (-1:Int)]) a1 (a1.length:Int) a0.kind a0.n a0.s a0.keys a0.kids m (i:Int) t.kind t.n t.s t.keys t.kids=k [.d .node (kn a0 t i r).1,.d (.i .i64) (kn a0 t i r).2]:=by
  intro r
  induction r with
  |nil=>
   intro m i t hi _ hm _
   obtain⟨m,rfl⟩:∃m',m=m'+1:=⟨m-1,by omega⟩
   have:i=a1.length:=by simpa using hi
   subst this
   simp only[yj,decide_eq_false (show ¬((a1.length:Int)<(a1.length:Int)) by omega),cond_false,kn,az,aK]
  |cons p r ih=>
   intro m i t hi hd hm KM
   obtain⟨m,rfl⟩:∃m',m=m'+1:=⟨m-1,by omega⟩
   have nz:i<a1.length:=by rw[List.length_cons] at hi;omega
   have hp:al (t:= .pop) a1 i=p:=by
    have h1:(a1.drop i)[0]? =some p:=by rw[hd];rfl
    rw[List.getElem?_drop,Nat.add_zero] at h1
    exact bm (t:= .pop) h1
   have Jh:a1.drop (i+1)=r:=by rw[← List.drop_drop,hd];rfl
   have hw:IntKind.wrap .i64 ((i:Int)+1)=((i+1:Nat):Int):=by rw[cn (by omega) (by omega)];omega
   simp only[FD,Bool.and_eq_true] at KM
   simp only[yj,decide_eq_true (show (i:Int)<(a1.length:Int) by omega),decide_eq_true (show (0:Int)≤(i:Int) by omega),Int.toNat_natCast,hp,aK,az,aK,Bj,KM.1,hs,hw,Bool.and_self,cond_true,kn]
   cases hc:(aU t p).2
   ·simp only[Bool.not_false,cond_true,cond_false]
   ·have h3:=KM.2
    rw[hc] at h3
    simp only[Bool.not_true,cond_true,cond_false]
    exact ih m (i+1) _ (by rw[List.length_cons] at hi;omega) Jh (by rw[List.length_cons] at hm;omega) h3
 exact key a1 (a1.length+1) 0 a0 (by omega) rfl (by omega) hr
noncomputable def q12:Qt
 | [.d .node a0,.d (.sl .pop) a1]=>some ((XH a0 a1),[.d .node ((fe a0 a1).1),.d (.i .i64) ((fe a0 a1).2)])
 |_=>none
noncomputable def s12:Gm.Spec:=Gm.Spec.of [.ro,.ro] [false,false] true q12
theorem abp:Gm.Good Tryz.prog (12,s12):=by
 have hl:∀x∈[(23,pU),(37,s37)],Gm.Good Tryz.prog x:=bt.2 ⟨ic,bt.2 ⟨aa8,gw⟩⟩
 refine⟨⟨aD (aL.env hl) (bQ.cq hl) Tryz.func12 (by kernel_rfl:Tryz.f12.body=some Gy) [27,3] (by kernel_rfl) ?_,_,Tryz.func12,by kernel_rfl,of_decide_eq_true (by kernel_rfl)⟩,Gm.Spec.ax _ _ _ _⟩
 intro ds outs h
 unfold q12 at h
 split at h
 ·simp only[Option.some.injEq,Prod.mk.injEq] at h;obtain⟨hg,h⟩:=h;cases h;exact Rp _ _ hg
 ·cases h
noncomputable def q35:Qt
 | [.d .node a0,.d (.i .i64) a1]=>some ((p7 a0 a1),[.d (.i .i64) ((jv a0 a1).1),.d (.i .i64) ((jv a0 a1).2)])
 |_=>none
noncomputable def abq:List Dt→Nat
 | [.d .node a0,.d (.i .i64) a1]=>(fun(t:ae)(_:Int)=>ao t) a0 a1
 |_=>0
noncomputable def afW(N:Nat):Gm.Spec:=Gm.Spec.of [.ro,.ro] [false,false] true (qA abq N q35)
noncomputable def It(y0:Int)(y1:Int)(y2:Int)(y3:List ae)(y4:Int)(y5:Int):St:=⟨[(1,.c (.one (.v (.int .i64 y0)))),(6,.c (.one (.v (.int .i64 y1)))),(7,.c (.one (.v (.int .i64 y2)))),(15,.c (.one (.ro .node y3))),(16,.c (.one (.v (.int .i64 y4)))),(17,.c (.one (.v (.int .i64 y5))))],[],[]⟩
noncomputable def Rq(y0:Int)(y1:Int)(y2:Int)(y3:List ae)(y4:Int)(y5:Int)(y6:Bool):St:=⟨[(1,.c (.one (.v (.int .i64 y0)))),(6,.c (.one (.v (.int .i64 y1)))),(7,.c (.one (.v (.int .i64 y2)))),(15,.c (.one (.ro .node y3))),(16,.c (.one (.v (.int .i64 y4)))),(17,.c (.one (.v (.int .i64 y5)))),(18,.c (.one (.v (.bool y6))))],[],[]⟩
noncomputable def Gz:Code:=(Tryz.f35.body).getD .skip
def Ks:Nat→Kp:=fa [⟨[1,2],[],[],[]⟩,⟨[1,2,13],[],[],[]⟩,⟨[4,5],[],[],[]⟩,⟨[1,2,6,7],[],[],[]⟩,⟨[1,6,7,15,16,17],[],[],[]⟩,⟨[1,6,7,15,16,17,18],[],[],[]⟩,⟨[1,6,7,9,15,16,17],[],[],[]⟩,⟨[1,6,7,10,11,15,16,17],[],[],[]⟩,⟨[1,6,7,11,15,16,17],[],[],[]⟩,⟨[1,6,7,15,16,17],[],[],[]⟩,⟨[1,6,7,15,16,17],[],[],[]⟩,⟨[4,5],[],[],[]⟩]
noncomputable def BZ(N:Nat):Env:=bQ.env [(35,afW N)]
noncomputable def yk{R:Type}(N:Nat)(n:Nat)(x0:Int→Int→Int→Bool→Option R)(wM:Int)(wK:List ae)(wQ:Int):Nat→Int→Int→Int→Option R
  |0,_,_,_=>none
  |m+1,wS,wI,wH=>
    (cond (decide (wH<wQ))
   (cond ((decide ((0:Int)≤wH))&&(decide (wH<(wK.length:Int))))
    (cond ((p7 (eN (al (t:= .node) wK (Int.toNat wH))) (IntKind.wrap .i64 (wM-(1:Int))))&&(Nat.blt ((fun(t:ae)(_:Int)=>ao t) (eN (al (t:= .node) wK (Int.toNat wH))) (IntKind.wrap .i64 (wM-(1:Int)))) N))
     (yk N n x0 wM wK wQ m (if (201:Int)<(IntKind.wrap .i64 (wS+((jv (eN (al (t:= .node) wK (Int.toNat wH))) (IntKind.wrap .i64 (wM-(1:Int)))).1))) then (201:Int) else (IntKind.wrap .i64 (wS+((jv (eN (al (t:= .node) wK (Int.toNat wH))) (IntKind.wrap .i64 (wM-(1:Int)))).1)))) (if ((jv (eN (al (t:= .node) wK (Int.toNat wH))) (IntKind.wrap .i64 (wM-(1:Int)))).2)>wI then ((jv (eN (al (t:= .node) wK (Int.toNat wH))) (IntKind.wrap .i64 (wM-(1:Int)))).2) else wI) (IntKind.wrap .i64 (wH+(1:Int))))
     none)
    none)
   (x0 wS wI wH (decide (wH<wQ))))
theorem Wk{R:Type}(N:Nat)(n:Nat)(k':Kx R)(wM:Int)(wS:Int)(wI:Int)(wK:List ae)(wQ:Int)(wH:Int):ev (BZ N) Ks n (bC [1,1,1,0,1,0,0] Gz) (It wM wS wI wK wQ wH) k'=
 (cond (decide (wH<wQ))
 (cond ((decide ((0:Int)≤wH))&&(decide (wH<(wK.length:Int))))
 (cond ((p7 (eN (al (t:= .node) wK (Int.toNat wH))) (IntKind.wrap .i64 (wM-(1:Int))))&&(Nat.blt ((fun(t:ae)(_:Int)=>ao t) (eN (al (t:= .node) wK (Int.toNat wH))) (IntKind.wrap .i64 (wM-(1:Int)))) N))
 (k' .normal (It wM (if (201:Int)<(IntKind.wrap .i64 (wS+((jv (eN (al (t:= .node) wK (Int.toNat wH))) (IntKind.wrap .i64 (wM-(1:Int)))).1))) then (201:Int) else (IntKind.wrap .i64 (wS+((jv (eN (al (t:= .node) wK (Int.toNat wH))) (IntKind.wrap .i64 (wM-(1:Int)))).1)))) (if ((jv (eN (al (t:= .node) wK (Int.toNat wH))) (IntKind.wrap .i64 (wM-(1:Int)))).2)>wI then ((jv (eN (al (t:= .node) wK (Int.toNat wH))) (IntKind.wrap .i64 (wM-(1:Int)))).2) else wI) wK wQ (IntKind.wrap .i64 (wH+(1:Int)))))
 none)
 none)
 (k' (.exit 0) (Rq wM wS wI wK wQ wH (decide (wH<wQ))))):=by kernel_rfl
theorem Rr{R:Type}(N:Nat)(n:Nat)(k':Kx R)(wM:Int)(wK:List ae)(wQ:Int):∀(m:Nat)(wS:Int)(wI:Int)(wH:Int),iter (fun st k=>ev (BZ N) Ks n (bC [1,1,1,0,1,0,0] Gz) st k) m (It wM wS wI wK wQ wH) k'=yk N n (fun(wV:Int)(wW:Int)(wY:Int)(wZ:Bool)=>k' (.exit 0) (Rq wM wV wW wK wQ wY wZ)) wM wK wQ m wS wI wH:=by
 intro m;induction m with
 |zero=>intros;rfl
 |succ m ih=>
  intro wS wI wH
  simp only[iter]
  rw[Wk]
  simp only[ih,yk]
noncomputable def Yb{R:Type}(N:Nat)(n:Nat)(k':Kx R):Kx R:=(b8 0 (eP (BZ N) Ks n (bC [1,1,1,1] Gz) k'))
theorem Rs{R:Type}(N:Nat)(n:Nat)(k:Kt R)(a0:ae)(a1:Int)(wM:Int)(wK:List ae)(wQ:Int)(wV:Int)(wW:Int)(wY:Int)(wZ:Bool):Yb N n (aI (BZ N) [.ro,.ro] [false,false] true [.tmp 4,.tmp 5] [3,3] [.d .node a0,.d (.i .i64) a1] k) (.exit 0) (Rq wM wV wW wK wQ wY wZ)=
 (k [.d (.i .i64) wV,.d (.i .i64) (IntKind.wrap .i64 (wW+(1:Int)))]):=by kernel_rfl
theorem Wl{R:Type}(N:Nat)(n:Nat)(k:Kt R)(a0:ae)(a1:Int):aG (BZ N) Ks n Gz [.ro,.ro] [false,false] true [.tmp 4,.tmp 5] [3,3] [.d .node a0,.d (.i .i64) a1] k=
 (cond (a1==(0:Int))
 (k [.d (.i .i64) (201:Int),.d (.i .i64) (9:Int)])
 (yk N n (fun(wV:Int)(wW:Int)(wY:Int)(wZ:Bool)=>
 (k [.d (.i .i64) wV,.d (.i .i64) (IntKind.wrap .i64 (wW+(1:Int)))])) a1 (ae.kids a0) ((ae.kids a0).length:Int) n (1:Int) (0:Int) (0:Int))):=by
 refine Eq.trans (b:=(cond (a1==(0:Int))
 (k [.d (.i .i64) (201:Int),.d (.i .i64) (9:Int)])
 (iter (fun st k=>ev (BZ N) Ks n (bC [1,1,1,0,1,0,0] Gz) st k) n (It a1 (1:Int) (0:Int) (ae.kids a0) ((ae.kids a0).length:Int) (0:Int)) (Yb N n (aI (BZ N) [.ro,.ro] [false,false] true [.tmp 4,.tmp 5] [3,3] [.d .node a0,.d (.i .i64) a1] k))))) (by kernel_rfl) ?_
 simp only[Rr,Rs]
theorem Ru(N:Nat)(a0:ae)(a1:Int)(hg:p7 a0 a1=true)(hm:abq [.d .node a0,.d (.i .i64) a1]=N):∃keep rounds,∀{R:Type}(k:Kt R),aG (BZ N) keep rounds Gz [.ro,.ro] [false,false] true [.tmp 4,.tmp 5] [3,3] [.d .node a0,.d (.i .i64) a1] k=k [.d (.i .i64) ((jv a0 a1).1),.d (.i .i64) ((jv a0 a1).2)]:=by
 have hm:ao a0=N:=hm
 subst hm
 simp only[p7,Bool.and_eq_true,decide_eq_true_eq] at hg
 obtain⟨hs,h0,h9⟩:=hg
 obtain⟨_,_,_,_,hk⟩:=ch hs
 have hl:=aR hk
 refine⟨Ks,a0.kids.length+1,fun {R} k=> ?_⟩
 rw[Wl]
 by_cases hz:a1=0
 ·subst hz;rfl
 obtain⟨d,rfl⟩:∃d:Nat,a1=((d+1:Nat):Int):=⟨a1.toNat-1,by omega⟩
 have hb:(((d+1:Nat):Int)==(0:Int))=false:=beq_eq_false_iff_ne.2 (by omega)
 rw[hb]
 have hw1:IntKind.wrap .i64 (((d+1:Nat):Int)-1)=(d:Int):=by rw[cn (by omega) (by omega)];omega
 refine Eq.trans (oR (xs:=a0.kids) (F:=fun m j a=>yk (ao a0) (a0.kids.length+1) _ ((d+1:Nat):Int) a0.kids (a0.kids.length:Int) m a.1 a.2 (j:Int)) (f:=gN (jE d)) (good:=fun a=>k [.d (.i .i64) a.1,.d (.i .i64) (IntKind.wrap .i64 (a.2+1))]) (fun _ a=>0≤a.1∧a.1≤201∧0≤a.2∧a.2≤9+d)
  (fun j a x hx hi=> ?_) (fun m j a x hx hi=> ?_) (fun m a hi=>by simp only[yk,iX,cond_false]) a0.kids.length 0 (a0.kids.length+1) (1,0) (by omega) (by omega) ⟨by decide,by decide,by decide,by show (0:Int)≤_;omega⟩) ?_
 ·have:=r9 d x
  unfold gN;simp only;omega
 ·obtain⟨h1,h0,hw,ht⟩:=idx (aP hx) (by omega)
  have DZ:=List.mem_of_getElem? hx
  have pv:Nat.blt (ao x) (ao a0)=true:=by rw[Nat.blt_eq];exact bN DZ
  have KM:p7 x (d:Int)=true:=by unfold p7;rw[dG hs DZ,decide_eq_true (show (0:Int)≤(d:Int) by omega),decide_eq_true (show (d:Int)≤9 by omega)];rfl
  have mV:=r9 d x
  have e:jv x (d:Int)=jE d x:=by unfold jv;rw[Int.toNat_natCast]
  simp only[yk,h1,h0,hw,ht,bm (t:= .node) hx,aK,hw1,KM,pv,e,Bool.and_self,cond_true]
  rw[← DD (jE d) a x ⟨hi.1,hi.2.1⟩ ⟨mV.1,mV.2.1⟩]
 ·rw[List.drop_zero]
  have hq:=r9 (d+1) a0
  have e:jv a0 ((d+1:Nat):Int)=jE (d+1) a0:=by unfold jv;rw[Int.toNat_natCast]
  rw[e]
  simp only[jE] at hq ⊢
  rw[cn (by omega) (by omega)]
noncomputable def s35:Gm.Spec:=Gm.Spec.of [.ro,.ro] [false,false] true q35
theorem abr:Gm.Good Tryz.prog (35,s35):=by
 refine⟨⟨gJ abq fun N hr=> ?_,_,Tryz.func35,by kernel_rfl,of_decide_eq_true (by kernel_rfl)⟩,Gm.Spec.ax _ _ _ _⟩
 have hl:∀x∈[(35,afW N)],Gm.Good Tryz.prog x:=bt.2 ⟨⟨⟨hr,_,Tryz.func35,by kernel_rfl,of_decide_eq_true (by kernel_rfl)⟩,Gm.Spec.ax _ _ _ _⟩,gw⟩
 intro R
 refine aD (E:=BZ N) (aL.env hl) (bQ.cq hl) Tryz.func35 (by kernel_rfl:Tryz.f35.body=some Gz) [3,3] (by kernel_rfl) ?_
 intro ds outs h
 obtain⟨h,hm⟩:=dg h
 unfold q35 at h
 split at h
 ·simp only[Option.some.injEq,Prod.mk.injEq] at h;obtain⟨hg,h⟩:=h;cases h;exact Ru N _ _ hg hm
 ·cases h
noncomputable def qo(y2:Int)(y3:Int)(y4:BA)(y5:List BA)(y6:List ae)(y7:Int)(y8:Int)(y9:BA):St:=⟨[(1,.c (.one (.pt 1 0))),(3,.c (.one (.pt 3 0))),(61,.c (.one (.nl))),(62,.c (.one (.v (.int .i64 (0:Int))))),(63,.c (.one (.v (.int .i64 (0:Int)))))],[(1,⟨.node,[.v (.int .i64 y2),.v (.int .i64 y3),.v (.string y4),.ro .str y5,.ro .node y6]⟩),(3,⟨.node,[.v (.int .i64 y7),.v (.int .i64 y8),.v (.string y9),.nl,.nl]⟩)],[]⟩
noncomputable def sI(y3:Int)(y4:Int)(y5:BA)(y6:List BA)(y7:List ae)(y8:Int)(y9:Int)(iu:BA):St:=⟨[(1,.c (.one (.pt 1 0))),(3,.c (.one (.pt 3 0))),(61,.c (.one (.nl))),(62,.c (.one (.v (.int .i64 (0:Int))))),(63,.c (.one (.v (.int .i64 (0:Int))))),(64,.c (.one (.v (.bool false))))],[(1,⟨.node,[.v (.int .i64 y3),.v (.int .i64 y4),.v (.string y5),.ro .str y6,.ro .node y7]⟩),(3,⟨.node,[.v (.int .i64 y8),.v (.int .i64 y9),.v (.string iu),.nl,.nl]⟩)],[]⟩
noncomputable def Rv(y2:Int)(y3:Int)(y4:BA)(y5:List BA)(y6:List ae)(y7:Int)(iu:List ae):St:=⟨[(1,.c (.one (.pt 1 0))),(3,.c (.one (.pt 3 0))),(61,.c (.one (.nl))),(62,.c (.one (.v (.int .i64 (0:Int))))),(63,.c (.one (.v (.int .i64 (0:Int)))))],[(1,⟨.node,[.v (.int .i64 y2),.v (.int .i64 y3),.v (.string y4),.ro .str y5,.ro .node y6]⟩),(3,⟨.node,[.v (.int .i64 y7),.v (.int .i64 (0:Int)),.v (.string ByteArray.empty),.nl,.ro .node iu]⟩)],[]⟩
noncomputable def Rw(y3:Int)(y4:Int)(y5:BA)(y6:List BA)(y7:List ae)(y8:Int)(ix:List ae):St:=⟨[(1,.c (.one (.pt 1 0))),(3,.c (.one (.pt 3 0))),(61,.c (.one (.nl))),(62,.c (.one (.v (.int .i64 (0:Int))))),(63,.c (.one (.v (.int .i64 (0:Int))))),(64,.c (.one (.v (.bool false))))],[(1,⟨.node,[.v (.int .i64 y3),.v (.int .i64 y4),.v (.string y5),.ro .str y6,.ro .node y7]⟩),(3,⟨.node,[.v (.int .i64 y8),.v (.int .i64 (0:Int)),.v (.string ByteArray.empty),.nl,.ro .node ix]⟩)],[]⟩
noncomputable def D4(y0:List BA)(y1:Int)(y2:Int)(y3:Int)(y4:Int)(y5:BA)(y6:List BA)(y7:List ae)(y8:Int)(ix:List BA)(kr:List ae):St:=⟨[(1,.c (.one (.pt 1 0))),(3,.c (.one (.pt 3 0))),(61,.c (.one (.ro .str y0))),(62,.c (.one (.v (.int .i64 y1)))),(63,.c (.one (.v (.int .i64 y2))))],[(1,⟨.node,[.v (.int .i64 y3),.v (.int .i64 y4),.v (.string y5),.ro .str y6,.ro .node y7]⟩),(3,⟨.node,[.v (.int .i64 y8),.v (.int .i64 (0:Int)),.v (.string ByteArray.empty),.ro .str ix,.ro .node kr]⟩)],[]⟩
noncomputable def Iu:St:=⟨[(2,.c (.one (.v (.bool false))))],[],[]⟩
noncomputable def Rx(y0:List BA)(y1:Int)(y2:Int)(y3:Bool)(y4:Int)(y5:Int)(y6:BA)(y7:List BA)(y8:List ae)(y9:Int)(kr:List BA)(o9:List ae):St:=⟨[(1,.c (.one (.pt 1 0))),(3,.c (.one (.pt 3 0))),(61,.c (.one (.ro .str y0))),(62,.c (.one (.v (.int .i64 y1)))),(63,.c (.one (.v (.int .i64 y2)))),(64,.c (.one (.v (.bool y3))))],[(1,⟨.node,[.v (.int .i64 y4),.v (.int .i64 y5),.v (.string y6),.ro .str y7,.ro .node y8]⟩),(3,⟨.node,[.v (.int .i64 y9),.v (.int .i64 (0:Int)),.v (.string ByteArray.empty),.ro .str kr,.ro .node o9]⟩)],[]⟩
noncomputable def kZ:Code:=(Tryz.f59.body).getD .skip
def lO:Nat→Kp:=fa [⟨[1],[],[],[]⟩,⟨[1,3],[],[],[]⟩,⟨[1,3,10],[],[],[]⟩,⟨[2],[],[],[]⟩,⟨[1,3,10,11],[],[],[]⟩,⟨[1,3,10,13],[],[],[]⟩,⟨[1,3,18],[],[],[]⟩,⟨[2],[],[],[]⟩,⟨[1,3],[],[],[]⟩,⟨[1,3,10,22],[],[],[]⟩,⟨[1,3,27],[],[],[]⟩,⟨[2],[],[],[]⟩,⟨[1,3],[],[],[]⟩,⟨[1,3,10,31],[],[],[]⟩,⟨[1,3,36],[],[],[]⟩,⟨[2],[],[],[]⟩,⟨[1,3],[],[],[]⟩,⟨[1,3,10,40],[],[],[]⟩,⟨[1,3],[],[],[]⟩,⟨[1,3,45],[],[],[]⟩,⟨[1,3,53],[],[],[]⟩,⟨[2],[],[],[]⟩,⟨[1,3],[],[],[]⟩,⟨[1,3,61,62,63],[],[],[]⟩,⟨[1,3,61,62,63,64],[],[],[]⟩,⟨[1,3,4,5,61,62,63],[],[],[]⟩,⟨[1,3,61,62,63,84],[],[],[]⟩,⟨[2],[],[],[]⟩,⟨[1,3,61,62,63],[],[],[]⟩,⟨[2],[],[],[]⟩]
noncomputable def gV:Env:=bQ.env [(69,ZV),(70,s70)]
noncomputable def Iv{R:Type}(n:Nat)(x0:Option R)(wE:Int)(wB:Int)(wC:BA)(wA:List BA)(wD:List ae)(wF:Int):Nat→Option R
 |0=>none
 |m+1=>
  (x0)
theorem Wm{R:Type}(n:Nat)(k':Kx R)(wE:Int)(wB:Int)(wC:BA)(wA:List BA)(wD:List ae)(wF:Int):ev gV lO n (bC [1,1,1,0,1,0,0] kZ) (qo wE wB wC wA wD wF (0:Int) ByteArray.empty) k'=
 (k' (.exit 1) (sI wE wB wC wA wD wF (0:Int) ByteArray.empty)):=by kernel_rfl
theorem Ry{R:Type}(n:Nat)(k':Kx R)(wE:Int)(wB:Int)(wC:BA)(wA:List BA)(wD:List ae)(wF:Int):∀(m:Nat),iter (fun st k=>ev gV lO n (bC [1,1,1,0,1,0,0] kZ) st k) m (qo wE wB wC wA wD wF (0:Int) ByteArray.empty) k'=Iv n (k' (.exit 1) (sI wE wB wC wA wD wF (0:Int) ByteArray.empty)) wE wB wC wA wD wF m:=by
 intro m;induction m with
 |zero=>intros;rfl
 |succ m ih=>
  skip
  simp only[iter]
  rw[Wm]
  simp only[ih,Iv]
noncomputable def Yc{R:Type}(n:Nat)(k':Kx R):Kx R:=(b8 1 (eP gV lO n (bC [1,1,1,1] kZ) k'))
theorem Rz{R:Type}(n:Nat)(k:Kt R)(a0:ae)(wE:Int)(wB:Int)(wC:BA)(wA:List BA)(wD:List ae)(wF:Int):Yc n (aI gV [.ro] [false] true [.tmp 2] [4] [.d .node a0] k) (.exit 1) (sI wE wB wC wA wD wF (0:Int) ByteArray.empty)=
 (cond (wB==(0:Int))
 (cond (cy wC ByteArray.empty)
 (cond ((wA.length:Int)==(0:Int))
 (k [.d .bool ((wD.length:Int)==(0:Int))])
 (k [.d .bool false]))
 (k [.d .bool false]))
 (k [.d .bool false])):=by kernel_rfl
noncomputable def Aq{R:Type}(n:Nat)(x0:Option R)(wE:Int)(wB:Int)(wC:BA)(wA:List BA)(wD:List ae)(wF:Int)(wT:Int):Nat→Option R
 |0=>none
 |m+1=>
  (x0)
theorem Wn{R:Type}(n:Nat)(k':Kx R)(wE:Int)(wB:Int)(wC:BA)(wA:List BA)(wD:List ae)(wF:Int)(wT:Int):ev gV lO n (bC [1,1,1,0,1,0,0] kZ) (qo wE wB wC wA wD wF wT ByteArray.empty) k'=
 (k' (.exit 1) (sI wE wB wC wA wD wF wT ByteArray.empty)):=by kernel_rfl
theorem RA{R:Type}(n:Nat)(k':Kx R)(wE:Int)(wB:Int)(wC:BA)(wA:List BA)(wD:List ae)(wF:Int)(wT:Int):∀(m:Nat),iter (fun st k=>ev gV lO n (bC [1,1,1,0,1,0,0] kZ) st k) m (qo wE wB wC wA wD wF wT ByteArray.empty) k'=Aq n (k' (.exit 1) (sI wE wB wC wA wD wF wT ByteArray.empty)) wE wB wC wA wD wF wT m:=by
 intro m;induction m with
 |zero=>intros;rfl
 |succ m ih=>
  skip
  simp only[iter]
  rw[Wn]
  simp only[ih,Aq]
noncomputable def RB{R:Type}(n:Nat)(k':Kx R):Kx R:=(b8 1 (eP gV lO n (bC [1,1,1,1] kZ) k'))
theorem RC{R:Type}(n:Nat)(k:Kt R)(a0:ae)(wE:Int)(wB:Int)(wC:BA)(wA:List BA)(wD:List ae)(wF:Int)(wT:Int):RB n (aI gV [.ro] [false] true [.tmp 2] [4] [.d .node a0] k) (.exit 1) (sI wE wB wC wA wD wF wT ByteArray.empty)=
 (cond (wB==wT)
 (cond (cy wC ByteArray.empty)
 (cond ((wA.length:Int)==(0:Int))
 (k [.d .bool ((wD.length:Int)==(0:Int))])
 (k [.d .bool false]))
 (k [.d .bool false]))
 (k [.d .bool false])):=by kernel_rfl
noncomputable def Iw{R:Type}(n:Nat)(x0:Option R)(wE:Int)(wB:Int)(wC:BA)(wA:List BA)(wD:List ae)(wF:Int)(wU:BA):Nat→Option R
 |0=>none
 |m+1=>
  (x0)
theorem Wo{R:Type}(n:Nat)(k':Kx R)(wE:Int)(wB:Int)(wC:BA)(wA:List BA)(wD:List ae)(wF:Int)(wU:BA):ev gV lO n (bC [1,1,1,0,1,0,0] kZ) (qo wE wB wC wA wD wF (0:Int) wU) k'=
 (k' (.exit 1) (sI wE wB wC wA wD wF (0:Int) wU)):=by kernel_rfl
theorem RD{R:Type}(n:Nat)(k':Kx R)(wE:Int)(wB:Int)(wC:BA)(wA:List BA)(wD:List ae)(wF:Int)(wU:BA):∀(m:Nat),iter (fun st k=>ev gV lO n (bC [1,1,1,0,1,0,0] kZ) st k) m (qo wE wB wC wA wD wF (0:Int) wU) k'=Iw n (k' (.exit 1) (sI wE wB wC wA wD wF (0:Int) wU)) wE wB wC wA wD wF wU m:=by
 intro m;induction m with
 |zero=>intros;rfl
 |succ m ih=>
  skip
  simp only[iter]
  rw[Wo]
  simp only[ih,Iw]
noncomputable def Yd{R:Type}(n:Nat)(k':Kx R):Kx R:=(b8 1 (eP gV lO n (bC [1,1,1,1] kZ) k'))
theorem RE{R:Type}(n:Nat)(k:Kt R)(a0:ae)(wE:Int)(wB:Int)(wC:BA)(wA:List BA)(wD:List ae)(wF:Int)(wU:BA):Yd n (aI gV [.ro] [false] true [.tmp 2] [4] [.d .node a0] k) (.exit 1) (sI wE wB wC wA wD wF (0:Int) wU)=
 (cond (wB==(0:Int))
 (cond (cy wC wU)
 (cond ((wA.length:Int)==(0:Int))
 (k [.d .bool ((wD.length:Int)==(0:Int))])
 (k [.d .bool false]))
 (k [.d .bool false]))
 (k [.d .bool false])):=by kernel_rfl
noncomputable def Ix{R:Type}(n:Nat)(x0:Option R)(wE:Int)(wB:Int)(wC:BA)(wA:List BA)(wD:List ae)(wF:Int)(wL:List ae):Nat→Option R
 |0=>none
 |m+1=>
  (x0)
theorem Wp{R:Type}(n:Nat)(k':Kx R)(wE:Int)(wB:Int)(wC:BA)(wA:List BA)(wD:List ae)(wF:Int)(wL:List ae):ev gV lO n (bC [1,1,1,0,1,0,0] kZ) (Rv wE wB wC wA wD wF wL) k'=
 (k' (.exit 1) (Rw wE wB wC wA wD wF wL)):=by kernel_rfl
theorem RF{R:Type}(n:Nat)(k':Kx R)(wE:Int)(wB:Int)(wC:BA)(wA:List BA)(wD:List ae)(wF:Int)(wL:List ae):∀(m:Nat),iter (fun st k=>ev gV lO n (bC [1,1,1,0,1,0,0] kZ) st k) m (Rv wE wB wC wA wD wF wL) k'=Ix n (k' (.exit 1) (Rw wE wB wC wA wD wF wL)) wE wB wC wA wD wF wL m:=by
 intro m;induction m with
 |zero=>intros;rfl
 |succ m ih=>
  skip
  simp only[iter]
  rw[Wp]
  simp only[ih,Ix]
noncomputable def Ye{R:Type}(n:Nat)(k':Kx R):Kx R:=(b8 1 (eP gV lO n (bC [1,1,1,1] kZ) k'))
theorem RG{R:Type}(n:Nat)(k:Kt R)(a0:ae)(wE:Int)(wB:Int)(wC:BA)(wA:List BA)(wD:List ae)(wF:Int)(wL:List ae):Ye n (aI gV [.ro] [false] true [.tmp 2] [4] [.d .node a0] k) (.exit 1) (Rw wE wB wC wA wD wF wL)=
 (cond (wB==(0:Int))
 (cond (cy wC ByteArray.empty)
 (cond ((wA.length:Int)==(0:Int))
 (k [.d .bool ((wD.length:Int)==(wL.length:Int))])
 (k [.d .bool false]))
 (k [.d .bool false]))
 (k [.d .bool false])):=by kernel_rfl
noncomputable def ui{R:Type}(n:Nat)(x0:Option R)(x1:Int→Bool→Option R)(wN:List BA)(wP:Int)(wE:Int)(wB:Int)(wC:BA)(wA:List BA)(wD:List ae)(wF:Int)(wR:List BA)(wL:List ae):Nat→Int→Option R
  |0,_=>none
  |m+1,wG=>
    (cond (decide (wG<wP))
   (cond ((decide ((0:Int)≤wG))&&(decide (wG<(wN.length:Int))))
    (cond (oO (al (t:= .str) wN (Int.toNat wG)))
     (cond (!(jP (al (t:= .str) wN (Int.toNat wG))))
      (x0)
      (cond (decide (wG>(0:Int)))
       (cond ((decide ((0:Int)≤(IntKind.wrap .i64 (wG-(1:Int)))))&&(decide ((IntKind.wrap .i64 (wG-(1:Int)))<(wA.length:Int))))
        (cond (!(dE (al (t:= .str) wA (Int.toNat (IntKind.wrap .i64 (wG-(1:Int))))) (al (t:= .str) wN (Int.toNat wG))))
         (x0)
         (ui n x0 x1 wN wP wE wB wC wA wD wF wR wL m (IntKind.wrap .i64 (wG+(1:Int)))))
        none)
       (ui n x0 x1 wN wP wE wB wC wA wD wF wR wL m (IntKind.wrap .i64 (wG+(1:Int))))))
     none)
    none)
   (x1 wG (decide (wG<wP))))
theorem Wq{R:Type}(n:Nat)(k':Kx R)(wN:List BA)(wP:Int)(wG:Int)(wE:Int)(wB:Int)(wC:BA)(wA:List BA)(wD:List ae)(wF:Int)(wR:List BA)(wL:List ae):ev gV lO n (bC [1,1,1,0,1,0,0] kZ) (D4 wN wP wG wE wB wC wA wD wF wR wL) k'=
 (cond (decide (wG<wP))
 (cond ((decide ((0:Int)≤wG))&&(decide (wG<(wN.length:Int))))
 (cond (oO (al (t:= .str) wN (Int.toNat wG)))
 (cond (!(jP (al (t:= .str) wN (Int.toNat wG))))
 (k' .ret Iu)
 (cond (decide (wG>(0:Int)))
 (cond ((decide ((0:Int)≤(IntKind.wrap .i64 (wG-(1:Int)))))&&(decide ((IntKind.wrap .i64 (wG-(1:Int)))<(wA.length:Int))))
 (cond (!(dE (al (t:= .str) wA (Int.toNat (IntKind.wrap .i64 (wG-(1:Int))))) (al (t:= .str) wN (Int.toNat wG))))
 (k' .ret Iu)
 (k' .normal (D4 wN wP (IntKind.wrap .i64 (wG+(1:Int))) wE wB wC wA wD wF wR wL)))
 none)
 (k' .normal (D4 wN wP (IntKind.wrap .i64 (wG+(1:Int))) wE wB wC wA wD wF wR wL))))
 none)
 none)
 (k' (.exit 1) (Rx wN wP wG (decide (wG<wP)) wE wB wC wA wD wF wR wL))):=by kernel_rfl
theorem RH{R:Type}(n:Nat)(k':Kx R)(wN:List BA)(wP:Int)(wE:Int)(wB:Int)(wC:BA)(wA:List BA)(wD:List ae)(wF:Int)(wR:List BA)(wL:List ae):∀(m:Nat)(wG:Int),iter (fun st k=>ev gV lO n (bC [1,1,1,0,1,0,0] kZ) st k) m (D4 wN wP wG wE wB wC wA wD wF wR wL) k'=ui n (k' .ret Iu) (fun(uA:Int)(uB:Bool)=>k' (.exit 1) (Rx wN wP uA uB wE wB wC wA wD wF wR wL)) wN wP wE wB wC wA wD wF wR wL m wG:=by
 intro m;induction m with
 |zero=>intros;rfl
 |succ m ih=>
  intro wG
  simp only[iter]
  rw[Wq]
  simp only[ih,ui]
noncomputable def RI{R:Type}(n:Nat)(k':Kx R):Kx R:=(b8 1 (eP gV lO n (bC [1,1,1,1] kZ) k'))
theorem RJ{R:Type}(n:Nat)(k:Kt R)(a0:ae):RI n (aI gV [.ro] [false] true [.tmp 2] [4] [.d .node a0] k) .ret Iu=
 (k [.d .bool false]):=by kernel_rfl
theorem RK{R:Type}(n:Nat)(k:Kt R)(a0:ae)(wN:List BA)(wP:Int)(wE:Int)(wB:Int)(wC:BA)(wA:List BA)(wD:List ae)(wF:Int)(wR:List BA)(wL:List ae)(uA:Int)(uB:Bool):RI n (aI gV [.ro] [false] true [.tmp 2] [4] [.d .node a0] k) (.exit 1) (Rx wN wP uA uB wE wB wC wA wD wF wR wL)=
 (cond (wB==(0:Int))
 (cond (cy wC ByteArray.empty)
 (cond ((wA.length:Int)==(wR.length:Int))
 (k [.d .bool ((wD.length:Int)==(wL.length:Int))])
 (k [.d .bool false]))
 (k [.d .bool false]))
 (k [.d .bool false])):=by kernel_rfl
theorem Wr{R:Type}(n:Nat)(k:Kt R)(a0:ae):aG gV lO n kZ [.ro] [false] true [.tmp 2] [4] [.d .node a0] k=
 (cond ((ae.kind a0)==(0:Int))
 (Iv n (cond ((ae.n a0)==(0:Int))
 (cond (cy (ae.s a0) ByteArray.empty)
 (cond (((ae.keys a0).length:Int)==(0:Int))
 (k [.d .bool (((ae.kids a0).length:Int)==(0:Int))])
 (k [.d .bool false]))
 (k [.d .bool false]))
 (k [.d .bool false])) (ae.kind a0) (ae.n a0) (ae.s a0) (ae.keys a0) (ae.kids a0) (ae.kind a0) n)
 (cond ((ae.kind a0)==(1:Int))
 (cond (!(om (ae.n a0) (0:Int) (1:Int)))
 (k [.d .bool false])
 (Aq n (cond ((ae.n a0)==(ae.n a0))
 (cond (cy (ae.s a0) ByteArray.empty)
 (cond (((ae.keys a0).length:Int)==(0:Int))
 (k [.d .bool (((ae.kids a0).length:Int)==(0:Int))])
 (k [.d .bool false]))
 (k [.d .bool false]))
 (k [.d .bool false])) (ae.kind a0) (ae.n a0) (ae.s a0) (ae.keys a0) (ae.kids a0) (ae.kind a0) (ae.n a0) n))
 (cond ((ae.kind a0)==(2:Int))
 (cond (!(om (ae.n a0) (-1000000000000:Int) (1000000000000:Int)))
 (k [.d .bool false])
 (Aq n (cond ((ae.n a0)==(ae.n a0))
 (cond (cy (ae.s a0) ByteArray.empty)
 (cond (((ae.keys a0).length:Int)==(0:Int))
 (k [.d .bool (((ae.kids a0).length:Int)==(0:Int))])
 (k [.d .bool false]))
 (k [.d .bool false]))
 (k [.d .bool false])) (ae.kind a0) (ae.n a0) (ae.s a0) (ae.keys a0) (ae.kids a0) (ae.kind a0) (ae.n a0) n))
 (cond ((ae.kind a0)==(3:Int))
 (cond (oO (ae.s a0))
 (cond (!(jP (ae.s a0)))
 (k [.d .bool false])
 (Iw n (cond ((ae.n a0)==(0:Int))
 (cond (cy (ae.s a0) (ae.s a0))
 (cond (((ae.keys a0).length:Int)==(0:Int))
 (k [.d .bool (((ae.kids a0).length:Int)==(0:Int))])
 (k [.d .bool false]))
 (k [.d .bool false]))
 (k [.d .bool false])) (ae.kind a0) (ae.n a0) (ae.s a0) (ae.keys a0) (ae.kids a0) (ae.kind a0) (ae.s a0) n))
 none)
 (cond ((ae.kind a0)==(4:Int))
 (Ix n (cond ((ae.n a0)==(0:Int))
 (cond (cy (ae.s a0) ByteArray.empty)
 (cond (((ae.keys a0).length:Int)==(0:Int))
 (k [.d .bool (((ae.kids a0).length:Int)==((ae.kids a0).length:Int))])
 (k [.d .bool false]))
 (k [.d .bool false]))
 (k [.d .bool false])) (ae.kind a0) (ae.n a0) (ae.s a0) (ae.keys a0) (ae.kids a0) (ae.kind a0) (ae.kids a0) n)
 (cond ((ae.kind a0)==(5:Int))
 (cond (((ae.keys a0).length:Int) !=((ae.kids a0).length:Int))
 (k [.d .bool false])
 (ui n (k [.d .bool false]) (fun(uA:Int)(uB:Bool)=>
 (cond ((ae.n a0)==(0:Int))
 (cond (cy (ae.s a0) ByteArray.empty)
 (cond (((ae.keys a0).length:Int)==((ae.keys a0).length:Int))
 (k [.d .bool (((ae.kids a0).length:Int)==((ae.kids a0).length:Int))])
 (k [.d .bool false]))
 (k [.d .bool false]))
 (k [.d .bool false]))) (ae.keys a0) ((ae.keys a0).length:Int) (ae.kind a0) (ae.n a0) (ae.s a0) (ae.keys a0) (ae.kids a0) (ae.kind a0) (ae.keys a0) (ae.kids a0) n (0:Int)))
 (k [.d .bool false]))))))):=by
  refine Eq.trans (b:=(cond ((ae.kind a0)==(0:Int))
  (iter (fun st k=>ev gV lO n (bC [1,1,1,0,1,0,0] kZ) st k) n (qo (ae.kind a0) (ae.n a0) (ae.s a0) (ae.keys a0) (ae.kids a0) (ae.kind a0) (0:Int) ByteArray.empty) (Yc n (aI gV [.ro] [false] true [.tmp 2] [4] [.d .node a0] k)))
  (cond ((ae.kind a0)==(1:Int))
   (cond (!(om (ae.n a0) (0:Int) (1:Int)))
    (k [.d .bool false])
    (iter (fun st k=>ev gV lO n (bC [1,1,1,0,1,0,0] kZ) st k) n (qo (ae.kind a0) (ae.n a0) (ae.s a0) (ae.keys a0) (ae.kids a0) (ae.kind a0) (ae.n a0) ByteArray.empty) (RB n (aI gV [.ro] [false] true [.tmp 2] [4] [.d .node a0] k))))
   (cond ((ae.kind a0)==(2:Int))
    (cond (!(om (ae.n a0) (-1000000000000:Int) (1000000000000:Int)))
     (k [.d .bool false])
     (iter (fun st k=>ev gV lO n (bC [1,1,1,0,1,0,0] kZ) st k) n (qo (ae.kind a0) (ae.n a0) (ae.s a0) (ae.keys a0) (ae.kids a0) (ae.kind a0) (ae.n a0) ByteArray.empty) (RB n (aI gV [.ro] [false] true [.tmp 2] [4] [.d .node a0] k))))
    (cond ((ae.kind a0)==(3:Int))
     (cond (oO (ae.s a0))
      (cond (!(jP (ae.s a0)))
       (k [.d .bool false])
       (iter (fun st k=>ev gV lO n (bC [1,1,1,0,1,0,0] kZ) st k) n (qo (ae.kind a0) (ae.n a0) (ae.s a0) (ae.keys a0) (ae.kids a0) (ae.kind a0) (0:Int) (ae.s a0)) (Yd n (aI gV [.ro] [false] true [.tmp 2] [4] [.d .node a0] k))))
      none)
     (cond ((ae.kind a0)==(4:Int))
      (iter (fun st k=>ev gV lO n (bC [1,1,1,0,1,0,0] kZ) st k) n (Rv (ae.kind a0) (ae.n a0) (ae.s a0) (ae.keys a0) (ae.kids a0) (ae.kind a0) (ae.kids a0)) (Ye n (aI gV [.ro] [false] true [.tmp 2] [4] [.d .node a0] k)))
      (cond ((ae.kind a0)==(5:Int))
       (cond (((ae.keys a0).length:Int) !=((ae.kids a0).length:Int))
        (k [.d .bool false])
        (iter (fun st k=>ev gV lO n (bC [1,1,1,0,1,0,0] kZ) st k) n (D4 (ae.keys a0) ((ae.keys a0).length:Int) (0:Int) (ae.kind a0) (ae.n a0) (ae.s a0) (ae.keys a0) (ae.kids a0) (ae.kind a0) (ae.keys a0) (ae.kids a0)) (RI n (aI gV [.ro] [false] true [.tmp 2] [4] [.d .node a0] k))))
       (k [.d .bool false])))))))) (by kernel_rfl) ?_
  simp only[Ry]
  simp only[RA]
  simp only[RD]
  simp only[RF]
  simp only[RH]
  simp only[Rz,RC,RE,RG,RJ,RK]
theorem RL(a0:ae)(hg:ag a0=true):∃keep rounds,∀{R:Type}(k:Kt R),aG gV keep rounds kZ [.ro] [false] true [.tmp 2] [4] [.d .node a0] k=k [.d .bool (gm a0)]:=by
 obtain⟨_,_,hts,lQ,lg⟩:=ch hg
 have hl:=aR lQ
 have hs:a0.keys.all oO=true:=by have:=TQ lQ;simp only[okL,Bool.and_eq_true] at this;exact this.2
 refine⟨lO,a0.keys.length+1,fun {R} k=> ?_⟩
 rw[Wr]
 show _=k [.d .bool (gm a0)]
 unfold gm SL Zv
 cases h0:a0.kind==(0:Int)
 rotate_left
 ·simp only[Iv,MU,cond_true]
  cases a0.n==(0:Int)<;>cases cy a0.s ByteArray.empty<;>cases a0.keys.isEmpty<;>cases a0.kids.isEmpty<;>rfl
 cases h1:a0.kind==(1:Int)
 rotate_left
 ·simp only[Aq,MU,beq_self_eq_true,cond_true,cond_false]
  cases om a0.n 0 1<;>cases cy a0.s ByteArray.empty<;>cases a0.keys.isEmpty<;>cases a0.kids.isEmpty<;>rfl
 cases h2:a0.kind==(2:Int)
 rotate_left
 ·simp only[Aq,MU,beq_self_eq_true,cond_true,cond_false]
  cases om a0.n (-1000000000000) 1000000000000<;>cases cy a0.s ByteArray.empty<;>cases a0.keys.isEmpty<;>cases a0.kids.isEmpty<;>rfl
 cases h3:a0.kind==(3:Int)
 rotate_left
 ·simp only[Iw,MU,C5 hts,jo,cond_true,cond_false]
  cases jP a0.s<;>cases a0.n==(0:Int)<;>cases a0.keys.isEmpty<;>cases a0.kids.isEmpty<;>rfl
 cases h4:a0.kind==(4:Int)
 rotate_left
 ·simp only[Ix,MU,beq_self_eq_true,cond_true,cond_false]
  cases a0.n==(0:Int)<;>cases cy a0.s ByteArray.empty<;>cases a0.keys.isEmpty<;>rfl
 cases h5:a0.kind==(5:Int)
 ·rfl
 cases yO:((a0.keys.length:Int)==(a0.kids.length:Int))
 ·simp only[bne,yO,Bool.not_false,cond_true,cond_false,Bool.false_and]
 simp only[bne,yO,beq_self_eq_true,Bool.not_true,cond_true,cond_false,Bool.true_and]
 refine Eq.trans (jq (n:=a0.keys.length) (F:=fun m i=>ui (a0.keys.length+1) _ _ a0.keys (a0.keys.length:Int) a0.kind a0.n a0.s a0.keys a0.kids a0.kind a0.keys a0.kids m i) (p:=Fg a0.keys) (good:=k [.d .bool ((a0.n==(0:Int))&&cy a0.s ByteArray.empty)]) (bad:=k [.d .bool false])
  (fun m j hj=> ?_) (fun m=> ?_) a0.keys.length 0 (a0.keys.length+1) (by omega) (by omega)) ?_
 ·obtain⟨h1,h0,hw,ht⟩:=idx hj (by omega)
  simp only[ui,h1,h0,hw,ht,Mj hs hj,Bool.and_self,cond_true]
  unfold Fg
  cases jP (al (t:= .str) a0.keys j)
  ·rfl
  ·by_cases hz:(j:Int)>0
   ·obtain⟨h2,h3,_,h5⟩:=idx (show j-1<a0.keys.length by omega) (by omega)
    simp only[hz,decide_true,cond_true,ain hj (by omega) (by omega),h2,h3,h5,Bool.and_self]
    cases dE (al (t:= .str) a0.keys (j-1)) (al (t:= .str) a0.keys j)<;>rfl
   ·simp only[hz,decide_false,cond_false];rfl
 ·simp only[ui,iX,cond_false]
  cases a0.n==(0:Int)<;>cases cy a0.s ByteArray.empty<;>rfl
 ·unfold xc
  cases rE (Fg a0.keys) 0 a0.keys.length<;>rfl
noncomputable def q59:Qt
 | [.d .node a0]=>some ((ag a0),[.d .bool (gm a0)])
 |_=>none
noncomputable def s59:Gm.Spec:=Gm.Spec.of [.ro] [false] true q59
theorem abt:Gm.Good Tryz.prog (59,s59):=by
 have hl:∀x∈[(69,ZV),(70,s70)],Gm.Good Tryz.prog x:=bt.2 ⟨FQ,bt.2 ⟨ZW,gw⟩⟩
 refine⟨⟨aD (aL.env hl) (bQ.cq hl) Tryz.func59 (by kernel_rfl:Tryz.f59.body=some kZ) [4] (by kernel_rfl) ?_,_,Tryz.func59,by kernel_rfl,of_decide_eq_true (by kernel_rfl)⟩,Gm.Spec.ax _ _ _ _⟩
 intro ds outs h
 unfold q59 at h
 split at h
 ·simp only[Option.some.injEq,Prod.mk.injEq] at h;obtain⟨hg,h⟩:=h;cases h;exact RL _ hg
 ·cases h
noncomputable def q36:Qt
 | [.d .node a0]=>some ((ag a0),[.d .bool (gd a0)])
 |_=>none
noncomputable def RM:List Dt→Nat
 | [.d .node a0]=>Zw a0
 |_=>0
noncomputable def afX(N:Nat):Gm.Spec:=Gm.Spec.of [.ro] [false] true (qA RM N q36)
noncomputable def s36:Gm.Spec:=Gm.Spec.of [.ro] [false] true q36
noncomputable def q61:Qt
 | [.d .node a0]=>some ((ag a0),[.d .bool (o3 a0)])
 |_=>none
noncomputable def RN:List Dt→Nat
 | [.d .node a0]=>XF a0
 |_=>0
noncomputable def Ku(N:Nat):Gm.Spec:=Gm.Spec.of [.ro] [false] true (qA RN N q61)
noncomputable def q60:Qt
 | [.d (.sl .node) a0,.fi 61 []]=>some (((dS ag) a0),[.d .bool (nm a0)])
 |_=>none
noncomputable def RP:List Dt→Nat
 | [.d (.sl .node) a0,.fi 61 []]=>Zx a0
 |_=>0
noncomputable def af0(N:Nat):Gm.Spec:=Gm.Spec.of [.ro,.fn] [false] true (qA RP N q60)
noncomputable def q71:Qt
 | [.d (.sl .node) a0,.fi 61 []]=>some (((dS ag) a0),[.d (.i .i64) (sd a0)])
 |_=>none
noncomputable def RQ:List Dt→Nat
 | [.d (.sl .node) a0,.fi 61 []]=>XG a0
 |_=>0
noncomputable def af2(N:Nat):Gm.Spec:=Gm.Spec.of [.ro,.fn] [false] true (qA RQ N q71)
noncomputable def abu:Code:=(Tryz.f36.body).getD .skip
def af3:Nat→Kp:=fa [⟨[1],[],[],[]⟩,⟨[2],[],[],[]⟩]
noncomputable def abv(N:Nat):Env:=bQ.env [(59,s59),(60,af0 N),(61,Ku N)]
theorem Ws{R:Type}(N:Nat)(n:Nat)(k:Kt R)(a0:ae):aG (abv N) af3 n abu [.ro] [false] true [.tmp 2] [4] [.d .node a0] k=
 (cond (ag (eN a0))
 (cond (gm (eN a0))
 (cond (((dS ag) (ae.kids a0))&&(Nat.blt (Zx (ae.kids a0)) N))
 (k [.d .bool (!(nm (ae.kids a0)))])
 none)
 (k [.d .bool false]))
 none):=by kernel_rfl
theorem RR(N:Nat)(a0:ae)(hg:ag a0=true)(hm:RM [.d .node a0]=N):∃keep rounds,∀{R:Type}(k:Kt R),aG (abv N) keep rounds abu [.ro] [false] true [.tmp 2] [4] [.d .node a0] k=k [.d .bool (gd a0)]:=by
 have hm:Zw a0=N:=hm
 subst hm
 have hk:=(ch hg).2.2.2.2
 have hb:Nat.blt (Zx a0.kids) (Zw a0)=true:=by rw[Nat.blt_eq];simp only[Zx,Zw,bV];omega
 refine⟨af3,0,fun {R} k=> ?_⟩
 rw[Ws,lL]
 simp only[aK,hg,hk,hb,Bv,Bool.and_self,cond_true]
 cases gm a0<;>rfl
noncomputable def abw:Code:=(Tryz.f61.body).getD .skip
def af4:Nat→Kp:=fa [⟨[1],[],[],[]⟩,⟨[2],[],[],[]⟩]
noncomputable def abx(N:Nat):Env:=bQ.env [(36,afX N)]
theorem Wt{R:Type}(N:Nat)(n:Nat)(k:Kt R)(a0:ae):aG (abx N) af4 n abw [.ro] [false] true [.tmp 2] [4] [.d .node a0] k=
 (cond ((ag (eN a0))&&(Nat.blt (Zw (eN a0)) N))
 (k [.d .bool (!(gd (eN a0)))])
 none):=by kernel_rfl
theorem RS(N:Nat)(a0:ae)(hg:ag a0=true)(hm:RN [.d .node a0]=N):∃keep rounds,∀{R:Type}(k:Kt R),aG (abx N) keep rounds abw [.ro] [false] true [.tmp 2] [4] [.d .node a0] k=k [.d .bool (o3 a0)]:=by
 have hm:XF a0=N:=hm
 subst hm
 have hb:Nat.blt (Zw a0) (XF a0)=true:=by rw[Nat.blt_eq];simp only[Zw,XF];omega
 refine⟨af4,0,fun {R} k=> ?_⟩
 rw[Wt]
 simp only[aK,hg,hb,Bool.and_self,cond_true]
 rfl
noncomputable def aby:Code:=(Tryz.f60.body).getD .skip
def af5:Nat→Kp:=fa [⟨[0,1],[],[],[]⟩,⟨[4],[],[],[]⟩]
noncomputable def abz(N:Nat):Env:=bQ.env [(61,Ku N),(71,af2 N)]
theorem Wu{R:Type}(N:Nat)(n:Nat)(k:Kt R)(a0:List ae):aG (abz N) af5 n aby [.ro,.fn] [false] true [.tmp 4] [4] [.d (.sl .node) a0,.fi 61 []] k=
 (cond (((dS ag) a0)&&(Nat.blt (XG a0) N))
 (k [.d .bool (decide ((sd a0)≥(0:Int)))])
 none):=by kernel_rfl
theorem RT(N:Nat)(a0:List ae)(hg:dS ag a0=true)(hm:RP [.d (.sl .node) a0,.fi 61 []]=N):∃keep rounds,∀{R:Type}(k:Kt R),aG (abz N) keep rounds aby [.ro,.fn] [false] true [.tmp 4] [4] [.d (.sl .node) a0,.fi 61 []] k=k [.d .bool (nm a0)]:=by
 have hm:Zx a0=N:=hm
 subst hm
 have hb:Nat.blt (XG a0) (Zx a0)=true:=by rw[Nat.blt_eq];simp only[XG,Zx];omega
 refine⟨af5,0,fun {R} k=> ?_⟩
 rw[Wu]
 simp only[hg,hb,Bool.and_self,cond_true]
 unfold sd
 rw[Mq];rfl
noncomputable def Iy(y0:List ae)(y1:Int)(y2:Int):St:=⟨[(0,.c (.one (.ro .node y0))),(1,.c (.one (.pJ 61 []))),(7,.c (.one (.v (.int .i64 y1)))),(8,.c (.one (.v (.int .i64 y2))))],[],[]⟩
noncomputable def RU(y0:Int):St:=⟨[(4,.c (.one (.v (.int .i64 y0))))],[],[]⟩
noncomputable def RV(y0:List ae)(y1:Int)(y2:Int)(y3:Bool):St:=⟨[(0,.c (.one (.ro .node y0))),(1,.c (.one (.pJ 61 []))),(7,.c (.one (.v (.int .i64 y1)))),(8,.c (.one (.v (.int .i64 y2)))),(9,.c (.one (.v (.bool y3))))],[],[]⟩
noncomputable def GA:Code:=(Tryz.f71.body).getD .skip
def Kv:Nat→Kp:=fa [⟨[0,1],[],[],[]⟩,⟨[0,1,7,8],[],[],[]⟩,⟨[0,1,7,8,9],[],[],[]⟩,⟨[0,1,5,7,8],[],[],[]⟩,⟨[0,1,5,7,8,16],[],[],[]⟩,⟨[4],[],[],[]⟩,⟨[0,1,7,8],[],[],[]⟩,⟨[4],[],[],[]⟩]
noncomputable def yW(N:Nat):Env:=bQ.env [(61,Ku N)]
noncomputable def yl{R:Type}(N:Nat)(n:Nat)(x0:Int→Option R)(x1:Int→Bool→Option R)(wO:List ae)(wI:Int):Nat→Int→Option R
  |0,_=>none
  |m+1,wJ=>
    (cond (decide (wJ<wI))
   (cond ((decide ((0:Int)≤wJ))&&(decide (wJ<(wO.length:Int))))
    (cond ((ag (eN (al (t:= .node) wO (Int.toNat wJ))))&&(Nat.blt (XF (eN (al (t:= .node) wO (Int.toNat wJ)))) N))
     (cond (o3 (eN (al (t:= .node) wO (Int.toNat wJ))))
      (x0 wJ)
      (yl N n x0 x1 wO wI m (IntKind.wrap .i64 (wJ+(1:Int)))))
     none)
    none)
   (x1 wJ (decide (wJ<wI))))
theorem Wv{R:Type}(N:Nat)(n:Nat)(k':Kx R)(wO:List ae)(wI:Int)(wJ:Int):ev (yW N) Kv n (bC [1,0,1,0,0] GA) (Iy wO wI wJ) k'=
 (cond (decide (wJ<wI))
 (cond ((decide ((0:Int)≤wJ))&&(decide (wJ<(wO.length:Int))))
 (cond ((ag (eN (al (t:= .node) wO (Int.toNat wJ))))&&(Nat.blt (XF (eN (al (t:= .node) wO (Int.toNat wJ)))) N))
 (cond (o3 (eN (al (t:= .node) wO (Int.toNat wJ))))
 (k' .ret (RU wJ))
 (k' .normal (Iy wO wI (IntKind.wrap .i64 (wJ+(1:Int))))))
 none)
 none)
 (k' (.exit 0) (RV wO wI wJ (decide (wJ<wI))))):=by kernel_rfl
theorem RW{R:Type}(N:Nat)(n:Nat)(k':Kx R)(wO:List ae)(wI:Int):∀(m:Nat)(wJ:Int),iter (fun st k=>ev (yW N) Kv n (bC [1,0,1,0,0] GA) st k) m (Iy wO wI wJ) k'=yl N n (fun(wX:Int)=>k' .ret (RU wX)) (fun(uC:Int)(uD:Bool)=>k' (.exit 0) (RV wO wI uC uD)) wO wI m wJ:=by
 intro m;induction m with
 |zero=>intros;rfl
 |succ m ih=>
  intro wJ
  simp only[iter]
  rw[Wv]
  simp only[ih,yl]
noncomputable def RX{R:Type}(N:Nat)(n:Nat)(k':Kx R):Kx R:=(b8 0 (eP (yW N) Kv n (bC [1,1] GA) k'))
theorem RY{R:Type}(N:Nat)(n:Nat)(k:Kt R)(a0:List ae)(wX:Int):RX N n (aI (yW N) [.ro,.fn] [false] true [.tmp 4] [3] [.d (.sl .node) a0,.fi 61 []] k) .ret (RU wX)=
 (k [.d (.i .i64) wX]):=by kernel_rfl
theorem RZ{R:Type}(N:Nat)(n:Nat)(k:Kt R)(a0:List ae)(wO:List ae)(wI:Int)(uC:Int)(uD:Bool):RX N n (aI (yW N) [.ro,.fn] [false] true [.tmp 4] [3] [.d (.sl .node) a0,.fi 61 []] k) (.exit 0) (RV wO wI uC uD)=
 (k [.d (.i .i64) (-1:Int)]):=by kernel_rfl
theorem Ww{R:Type}(N:Nat)(n:Nat)(k:Kt R)(a0:List ae):aG (yW N) Kv n GA [.ro,.fn] [false] true [.tmp 4] [3] [.d (.sl .node) a0,.fi 61 []] k=
 (yl N n (fun(wX:Int)=>
 (k [.d (.i .i64) wX])) (fun(uC:Int)(uD:Bool)=>
 (k [.d (.i .i64) (-1:Int)])) a0 (a0.length:Int) n (0:Int)):=by
 refine Eq.trans (b:=(iter (fun st k=>ev (yW N) Kv n (bC [1,0,1,0,0] GA) st k) n (Iy a0 (a0.length:Int) (0:Int)) (RX N n (aI (yW N) [.ro,.fn] [false] true [.tmp 4] [3] [.d (.sl .node) a0,.fi 61 []] k)))) (by kernel_rfl) ?_
 simp only[RW,RY,RZ]
theorem R0(N:Nat)(a0:List ae)(hg:dS ag a0=true)(hm:RQ [.d (.sl .node) a0,.fi 61 []]=N):∃keep rounds,∀{R:Type}(k:Kt R),aG (yW N) keep rounds GA [.ro,.fn] [false] true [.tmp 4] [3] [.d (.sl .node) a0,.fi 61 []] k=k [.d (.i .i64) (sd a0)]:=by
 have hm:XG a0=N:=hm
 subst hm
 have hl:=aR hg
 refine⟨Kv,a0.length+1,fun k=> ?_⟩
 rw[Ww]
 refine Eq.trans (jM (n:=a0.length) (F:=fun m i=>yl (XG a0) (a0.length+1) _ _ a0 (a0.length:Int) m i) (p:=fun j=>o3 (al (t:= .node) a0 j)) (hit:=fun i=>k [.d (.i .i64) i]) (miss:=k [.d (.i .i64) (-1:Int)])
  (fun m j hj=> ?_) (fun m=>by simp only[yl,iX,cond_false]) a0.length 0 (a0.length+1) (by omega) (by omega)) ?_
 ·obtain⟨h1,h0,hw,ht⟩:=idx hj (by omega)
  have KM:ag (al (t:= .node) a0 j)=true:=w5 (t:= .node) hg hj
  have hb:Nat.blt (XF (al (t:= .node) a0 j)) (XG a0)=true:=by
   obtain⟨x,hx,_⟩:=cH hj
   have:=rK (f:=ao) (List.mem_of_getElem? hx)
   rw[bm (t:= .node) hx,Nat.blt_eq];simp only[XF,XG];omega
  simp only[yl,h1,h0,hw,ht,Bool.and_self,cond_true,aK,KM,hb]
 ·show _=k [.d (.i .i64) (oP _)]
  cases aZ (fun j=>o3 (al (t:= .node) a0 j)) 0 a0.length<;>rfl
theorem Wx:∀x∈([⟨36,[.ro],[false],true,RM,q36⟩,⟨61,[.ro],[false],true,RN,q61⟩,⟨60,[.ro,.fn],[false],true,RP,q60⟩,⟨71,[.ro,.fn],[false],true,RQ,q71⟩]:List Rc),Gm.bW Tryz.prog x.f (Gm.Spec.of x.ms x.rs x.ow x.q):=by
 refine tg _ fun N hr=> ?_
 have SG:Gm.bW Tryz.prog 36 (Gm.Spec.of [.ro] [false] true (qA RM N q36)):=fun {R}=>hr _ (.head _)
 have hr2:Gm.bW Tryz.prog 61 (Gm.Spec.of [.ro] [false] true (qA RN N q61)):=fun {R}=>hr _ (.tail _ (.head _))
 have hr3:Gm.bW Tryz.prog 60 (Gm.Spec.of [.ro,.fn] [false] true (qA RP N q60)):=fun {R}=>hr _ (.tail _ (.tail _ (.head _)))
 have hr4:Gm.bW Tryz.prog 71 (Gm.Spec.of [.ro,.fn] [false] true (qA RQ N q71)):=fun {R}=>hr _ (.tail _ (.tail _ (.tail _ (.head _))))
 refine bt.2 ⟨?_,bt.2 ⟨?_,bt.2 ⟨?_,bt.2 ⟨?_,gw⟩⟩⟩⟩
 ·have hl:∀x∈([(59,s59),(60,af0 N),(61,Ku N)]:List (Nat×Gm.Spec)),Gm.Good Tryz.prog x:=bt.2 ⟨abt,bt.2 ⟨⟨⟨hr3,_,Tryz.func60,by kernel_rfl,of_decide_eq_true (by kernel_rfl)⟩,Gm.Spec.ax _ _ _ _⟩,bt.2 ⟨⟨⟨hr2,_,Tryz.func61,by kernel_rfl,of_decide_eq_true (by kernel_rfl)⟩,Gm.Spec.ax _ _ _ _⟩,gw⟩⟩⟩
  show Gm.bW Tryz.prog 36 (Gm.Spec.of [.ro] [false] true (zM RM N q36))
  intro R
  refine aD (E:=abv N) (aL.env hl) (bQ.cq hl) Tryz.func36 (by kernel_rfl:Tryz.f36.body=some abu) [4] (by kernel_rfl) ?_
  intro ds outs h
  obtain⟨h,hm⟩:=dg h
  unfold q36 at h
  split at h
  ·simp only[Option.some.injEq,Prod.mk.injEq] at h;obtain⟨hg,h⟩:=h;cases h;exact RR N _ hg hm
  ·cases h
 ·have hl:∀x∈([(36,afX N)]:List (Nat×Gm.Spec)),Gm.Good Tryz.prog x:=bt.2 ⟨⟨⟨SG,_,Tryz.func36,by kernel_rfl,of_decide_eq_true (by kernel_rfl)⟩,Gm.Spec.ax _ _ _ _⟩,gw⟩
  show Gm.bW Tryz.prog 61 (Gm.Spec.of [.ro] [false] true (zM RN N q61))
  intro R
  refine aD (E:=abx N) (aL.env hl) (bQ.cq hl) Tryz.func61 (by kernel_rfl:Tryz.f61.body=some abw) [4] (by kernel_rfl) ?_
  intro ds outs h
  obtain⟨h,hm⟩:=dg h
  unfold q61 at h
  split at h
  ·simp only[Option.some.injEq,Prod.mk.injEq] at h;obtain⟨hg,h⟩:=h;cases h;exact RS N _ hg hm
  ·cases h
 ·have hl:∀x∈([(61,Ku N),(71,af2 N)]:List (Nat×Gm.Spec)),Gm.Good Tryz.prog x:=bt.2 ⟨⟨⟨hr2,_,Tryz.func61,by kernel_rfl,of_decide_eq_true (by kernel_rfl)⟩,Gm.Spec.ax _ _ _ _⟩,bt.2 ⟨⟨⟨hr4,_,Tryz.func71,by kernel_rfl,of_decide_eq_true (by kernel_rfl)⟩,Gm.Spec.ax _ _ _ _⟩,gw⟩⟩
  show Gm.bW Tryz.prog 60 (Gm.Spec.of [.ro,.fn] [false] true (zM RP N q60))
  intro R
  refine aD (E:=abz N) (aL.env hl) (bQ.cq hl) Tryz.func60 (by kernel_rfl:Tryz.f60.body=some aby) [4] (by kernel_rfl) ?_
  intro ds outs h
  obtain⟨h,hm⟩:=dg h
  unfold q60 at h
  split at h
  ·simp only[Option.some.injEq,Prod.mk.injEq] at h;obtain⟨hg,h⟩:=h;cases h;exact RT N _ hg hm
  ·cases h
 ·have hl:∀x∈([(61,Ku N)]:List (Nat×Gm.Spec)),Gm.Good Tryz.prog x:=bt.2 ⟨⟨⟨hr2,_,Tryz.func61,by kernel_rfl,of_decide_eq_true (by kernel_rfl)⟩,Gm.Spec.ax _ _ _ _⟩,gw⟩
  show Gm.bW Tryz.prog 71 (Gm.Spec.of [.ro,.fn] [false] true (zM RQ N q71))
  intro R
  refine aD (E:=yW N) (aL.env hl) (bQ.cq hl) Tryz.func71 (by kernel_rfl:Tryz.f71.body=some GA) [3] (by kernel_rfl) ?_
  intro ds outs h
  obtain⟨h,hm⟩:=dg h
  unfold q71 at h
  split at h
  ·simp only[Option.some.injEq,Prod.mk.injEq] at h;obtain⟨hg,h⟩:=h;cases h;exact R0 N _ hg hm
  ·cases h
theorem abA:Gm.Good Tryz.prog (36,s36):=⟨⟨fun {R}=>Wx _ (.head _),_,Tryz.func36,by kernel_rfl,of_decide_eq_true (by kernel_rfl)⟩,Gm.Spec.ax _ _ _ _⟩
noncomputable def abB:Code:=(Tryz.f11.body).getD .skip
def af6:Nat→Kp:=fa [⟨[1],[],[],[]⟩,⟨[1,3,4],[],[],[]⟩,⟨[2],[],[],[]⟩]
noncomputable def af7:Env:=bQ.env [(35,s35),(36,s36)]
theorem Wy{R:Type}(n:Nat)(k:Kt R)(a0:ae):aG af7 af6 n abB [.ro] [false] true [.tmp 2] [4] [.d .node a0] k=
 (cond (p7 (eN a0) (9:Int))
 (cond (decide (((jv (eN a0) (9:Int)).1)≤(200:Int)))
 (cond (decide (((jv (eN a0) (9:Int)).2)≤(8:Int)))
 (cond (ag (eN a0))
 (k [.d .bool (gd (eN a0))])
 none)
 (k [.d .bool false]))
 (k [.d .bool false]))
 none):=by kernel_rfl
theorem R1(a0:ae)(hg:ag a0=true):∃keep rounds,∀{R:Type}(k:Kt R),aG af7 keep rounds abB [.ro] [false] true [.tmp 2] [4] [.d .node a0] k=k [.d .bool (ju a0)]:=by
 have KM:p7 a0 9=true:=by unfold p7;rw[hg];rfl
 have e:jv a0 9=jE 9 a0:=rfl
 refine⟨af6,0,fun {R} k=> ?_⟩
 rw[Wy]
 show _=k [.d .bool (ju a0)]
 unfold ju
 simp only[aK,hg,KM,e,cond_true]
 cases decide ((jE 9 a0).1≤(200:Int))<;>cases decide ((jE 9 a0).2≤(8:Int))<;>rfl
noncomputable def q11:Qt
 | [.d .node a0]=>some ((ag a0),[.d .bool (ju a0)])
 |_=>none
noncomputable def s11:Gm.Spec:=Gm.Spec.of [.ro] [false] true q11
theorem abC:Gm.Good Tryz.prog (11,s11):=by
 have hl:∀x∈[(35,s35),(36,s36)],Gm.Good Tryz.prog x:=bt.2 ⟨abr,bt.2 ⟨abA,gw⟩⟩
 refine⟨⟨aD (aL.env hl) (bQ.cq hl) Tryz.func11 (by kernel_rfl:Tryz.f11.body=some abB) [4] (by kernel_rfl) ?_,_,Tryz.func11,by kernel_rfl,of_decide_eq_true (by kernel_rfl)⟩,Gm.Spec.ax _ _ _ _⟩
 intro ds outs h
 unfold q11 at h
 split at h
 ·simp only[Option.some.injEq,Prod.mk.injEq] at h;obtain⟨hg,h⟩:=h;cases h;exact R1 _ hg
 ·cases h
end Go.Proofs.YtalnkjjnohgjkaaGreat
namespace Go.Proofs
open Go.Shelf Go.RowKit
def Tryz.B0:Go.Shelf.Ren:=⟨fun | 190=>50 | 125=>67 | 258=>66 | 128=>84 | 129=>85 | 302=>75 | 303=>76 | 304=>77 | 305=>78 | 306=>79 | 307=>80 | 308=>81 | 309=>82 | 310=>83 | 333=>96 | 329=>97 | 330=>98 | 334=>99 | 335=>100 | 336=>101 | 344=>110 | n=>n,fun | 31=>24 | 9=>9 | 3=>3 | 46=>85 | 0=>0 | 51=>100 | 53=>102 | 4=>4 | 183=>92 | 182=>91 | 131=>97 | 5=>5 | 218=>107 | 222=>111 | 228=>118 | 229=>56 | n=>n,fun | n=>n⟩
theorem Tryz.D5:Go.Proofs.Lays.n190 Tryz.prog Tryz.B0:={
 mixed:=by kernel_rfl
 f125:=Tryz.func67.trans (congrArg some (by kernel_rfl))
 f128:=Tryz.func84.trans (congrArg some (by kernel_rfl))
 f129:=Tryz.func85.trans (congrArg some (by kernel_rfl))
 f190:=Tryz.func50.trans (congrArg some (by kernel_rfl))
 f258:=Tryz.func66.trans (congrArg some (by kernel_rfl))
 f302:=Tryz.func75.trans (congrArg some (by kernel_rfl))
 f303:=Tryz.func76.trans (congrArg some (by kernel_rfl))
 f304:=Tryz.func77.trans (congrArg some (by kernel_rfl))
 f305:=Tryz.func78.trans (congrArg some (by kernel_rfl))
 f306:=Tryz.func79.trans (congrArg some (by kernel_rfl))
 f307:=Tryz.func80.trans (congrArg some (by kernel_rfl))
 f308:=Tryz.func81.trans (congrArg some (by kernel_rfl))
 f309:=Tryz.func82.trans (congrArg some (by kernel_rfl))
 f310:=Tryz.func83.trans (congrArg some (by kernel_rfl))
 f329:=Tryz.func97.trans (congrArg some (by kernel_rfl))
 f330:=Tryz.func98.trans (congrArg some (by kernel_rfl))
 f333:=Tryz.func96.trans (congrArg some (by kernel_rfl))
 f334:=Tryz.func99.trans (congrArg some (by kernel_rfl))
 f335:=Tryz.func100.trans (congrArg some (by kernel_rfl))
 f336:=Tryz.func101.trans (congrArg some (by kernel_rfl))
 f344:=Tryz.func110.trans (congrArg some (by kernel_rfl))
 t0:=Tryz.underlying0
 a0:=Tryz.isAgg0
 z0:=Tryz.sizeOf0
 v0:=Tryz.zeroValue0
 t3:=Tryz.underlying3
 a3:=Tryz.isAgg3
 z3:=Tryz.sizeOf3
 v3:=Tryz.zeroValue3
 t4:=Tryz.underlying4
 a4:=Tryz.isAgg4
 z4:=Tryz.sizeOf4
 v4:=Tryz.zeroValue4
 t5:=Tryz.underlying5
 a5:=Tryz.isAgg5
 z5:=Tryz.sizeOf5
 v5:=Tryz.zeroValue5
 t9:=Tryz.underlying9
 a9:=Tryz.isAgg9
 z9:=Tryz.sizeOf9
 v9:=Tryz.zeroValue9
 t31:=Tryz.underlying24
 a31:=Tryz.isAgg24
 z31:=Tryz.sizeOf24
 v31:=Tryz.zeroValue24
 t46:=Tryz.underlying85
 a46:=Tryz.isAgg85
 z46:=Tryz.sizeOf85
 v46:=Tryz.zeroValue85
 t51:=Tryz.underlying100
 a51:=Tryz.isAgg100
 z51:=Tryz.sizeOf100
 v51:=Tryz.zeroValue100
 t53:=Tryz.underlying102
 a53:=Tryz.isAgg102
 z53:=Tryz.sizeOf102
 v53:=Tryz.zeroValue102
 t131:=Tryz.underlying97
 a131:=Tryz.isAgg97
 z131:=Tryz.sizeOf97
 v131:=Tryz.zeroValue97
 t182:=Tryz.underlying91
 a182:=Tryz.isAgg91
 z182:=Tryz.sizeOf91
 v182:=Tryz.zeroValue91
 t183:=Tryz.underlying92
 a183:=Tryz.isAgg92
 z183:=Tryz.sizeOf92
 v183:=Tryz.zeroValue92
 t218:=Tryz.underlying107
 a218:=Tryz.isAgg107
 z218:=Tryz.sizeOf107
 v218:=Tryz.zeroValue107
 t222:=Tryz.underlying111
 a222:=Tryz.isAgg111
 z222:=Tryz.sizeOf111
 v222:=Tryz.zeroValue111
 t228:=Tryz.underlying118
 a228:=Tryz.isAgg118
 z228:=Tryz.sizeOf118
 v228:=Tryz.zeroValue118
 t229:=Tryz.underlying56
 a229:=Tryz.isAgg56
 z229:=Tryz.sizeOf56
 v229:=Tryz.zeroValue56 }
def Tryz.B1:Go.Shelf.Ren:=⟨fun | 194=>51 | n=>n,fun | 31=>24 | 9=>9 | 3=>3 | 4=>4 | 0=>0 | n=>n,fun | n=>n⟩
theorem Tryz.D6:Go.Proofs.Lays.n194 Tryz.prog Tryz.B1:={
 mixed:=by kernel_rfl
 f194:=Tryz.func51.trans (congrArg some (by kernel_rfl))
 t0:=Tryz.underlying0
 a0:=Tryz.isAgg0
 z0:=Tryz.sizeOf0
 v0:=Tryz.zeroValue0
 t3:=Tryz.underlying3
 a3:=Tryz.isAgg3
 z3:=Tryz.sizeOf3
 v3:=Tryz.zeroValue3
 t4:=Tryz.underlying4
 a4:=Tryz.isAgg4
 z4:=Tryz.sizeOf4
 v4:=Tryz.zeroValue4
 t9:=Tryz.underlying9
 a9:=Tryz.isAgg9
 z9:=Tryz.sizeOf9
 v9:=Tryz.zeroValue9
 t31:=Tryz.underlying24
 a31:=Tryz.isAgg24
 z31:=Tryz.sizeOf24
 v31:=Tryz.zeroValue24 }
end Go.Proofs
namespace Go.Proofs.YtalnkjjnohgjkaaGreat
open Go Go.Gm Go.RowKit
noncomputable def q50:Qt
 | [.d (.sl .str) a0]=>some (uy a0,[.d (.sl .str) (fO a0)])
 |_=>none
noncomputable def s50:Gm.Spec:=Gm.Spec.of [.«mut»] [] true q50
theorem R4:Gm.Good Tryz.prog (50,s50):=by
 refine⟨⟨JF ⟨fun a cap w=>Go.Proofs.Any.slices_Sort_string_none Go.Proofs.Tryz.D5 a cap w,fun b o cap ss w hH hb hl=>Go.Proofs.Any.slices_Sort_string Go.Proofs.Tryz.D5 b o cap ss w hH hb hl⟩ ?_,_,Tryz.func50,by kernel_rfl,of_decide_eq_true (by kernel_rfl)⟩,Gm.Spec.ax _ _ _ _⟩
 intro ds outs h
 unfold q50 at h
 split at h
 ·rename_i a0
  simp only[Option.some.injEq,Prod.mk.injEq] at h
  obtain⟨hg,h⟩:=h
  cases h
  have:=iD hg
  exact⟨a0,rfl,rfl,by omega⟩
 ·cases h
noncomputable def q51:Qt
 | [.d (.sl .str) a0]=>some (uy a0,[.d (.sl .str) (js a0)])
 |_=>none
noncomputable def s51:Gm.Spec:=Gm.Spec.of [.oh] [false] true q51
theorem abD:Gm.Good Tryz.prog (51,s51):=by
 refine⟨⟨JG ⟨fun a cap w=>Go.Proofs.Any.slices_Compact_string_empty Go.Proofs.Tryz.D6 a cap w,fun b o cap zs w hH h1 h2=>Go.Proofs.Any.slices_Compact_string Go.Proofs.Tryz.D6 b o cap zs w hH h1 h2⟩ ?_,_,Tryz.func51,by kernel_rfl,of_decide_eq_true (by kernel_rfl)⟩,Gm.Spec.ax _ _ _ _⟩
 intro ds outs h
 unfold q51 at h
 split at h
 ·rename_i a0
  simp only[Option.some.injEq,Prod.mk.injEq] at h
  obtain⟨hg,h⟩:=h
  cases h
  have:=iD hg
  exact⟨a0,rfl,rfl,by omega⟩
 ·cases h
noncomputable def abE:Code:=(Tryz.f49.body).getD .skip
def af9:Nat→Kp:=fa [⟨[1],[],[],[]⟩,⟨[3],[],[],[]⟩,⟨[3],[],[],[]⟩,⟨[2],[],[],[]⟩]
noncomputable def af':Env:=bQ.env [(50,s50),(53,s53)]
noncomputable def Yf(a0:ae):List BA:=
 (fO (((ae.keys a0).take (Int.toNat (if ((ae.kids a0).length:Int)<((ae.keys a0).length:Int) then ((ae.kids a0).length:Int) else ((ae.keys a0).length:Int)))).drop 0))
theorem Wz{R:Type}(n:Nat)(k:Kt R)(a0:ae):aG af' af9 n abE [.ro] [false] true [.tmp 2] [24] [.d .node a0] k=
 (cond ((decide ((0:Int)≤(if ((ae.kids a0).length:Int)<((ae.keys a0).length:Int) then ((ae.kids a0).length:Int) else ((ae.keys a0).length:Int))))&&(decide ((if ((ae.kids a0).length:Int)<((ae.keys a0).length:Int) then ((ae.kids a0).length:Int) else ((ae.keys a0).length:Int))≤((ae.keys a0).length:Int))))
 (cond ((fun(x:List BA)=>Nat.ble x.length bT) (((ae.keys a0).take (Int.toNat (if ((ae.kids a0).length:Int)<((ae.keys a0).length:Int) then ((ae.kids a0).length:Int) else ((ae.keys a0).length:Int)))).drop 0))
 (cond (uy (((ae.keys a0).take (Int.toNat (if ((ae.kids a0).length:Int)<((ae.keys a0).length:Int) then ((ae.kids a0).length:Int) else ((ae.keys a0).length:Int)))).drop 0))
 (k [.d (.sl .str) (Yf a0)])
 none)
 none)
 none):=by kernel_rfl
theorem R5(a0:ae)(hg:ag a0=true):∃keep rounds,∀{R:Type}(k:Kt R),aG af' keep rounds abE [.ro] [false] true [.tmp 2] [24] [.d .node a0] k=k [.d (.sl .str) (fG a0)]:=by
 obtain⟨_,_,_,lQ,lg⟩:=ch hg
 have p9:=aR lQ
 have ot:=aR lg
 have R6:(bT:Nat)=4294967296:=rfl
 have h1:decide ((0:Int)≤((min a0.keys.length a0.kids.length:Nat):Int))=true:=decide_eq_true (by omega)
 have h2:decide (((min a0.keys.length a0.kids.length:Nat):Int)≤(a0.keys.length:Int))=true:=decide_eq_true (by omega)
 have h3:Nat.ble (a0.keys.take (min a0.keys.length a0.kids.length)).length bT=true:=Nat.ble_eq_true_of_le (by rw[List.length_take];omega)
 have h4:uy (a0.keys.take (min a0.keys.length a0.kids.length))=true:=Nat.ble_eq_true_of_le (by rw[List.length_take];omega)
 refine⟨af9,0,fun {R} k=> ?_⟩
 rw[Wz]
 simp only[Yf,ZA,Int.toNat_natCast,List.drop_zero,h1,h2,h3,h4,Bool.and_self,cond_true]
 rfl
noncomputable def q49:Qt
 | [.d .node a0]=>some ((ag a0),[.d (.sl .str) (fG a0)])
 |_=>none
noncomputable def s49:Gm.Spec:=Gm.Spec.of [.ro] [false] true q49
theorem abF:Gm.Good Tryz.prog (49,s49):=by
 have hl:∀x∈[(50,s50),(53,s53)],Gm.Good Tryz.prog x:=bt.2 ⟨R4,bt.2 ⟨Om,gw⟩⟩
 refine⟨⟨aD (aL.env hl) (bQ.cq hl) Tryz.func49 (by kernel_rfl:Tryz.f49.body=some abE) [24] (by kernel_rfl) ?_,_,Tryz.func49,by kernel_rfl,of_decide_eq_true (by kernel_rfl)⟩,Gm.Spec.ax _ _ _ _⟩
 intro ds outs h
 unfold q49 at h
 split at h
 ·simp only[Option.some.injEq,Prod.mk.injEq] at h;obtain⟨hg,h⟩:=h;cases h;exact R5 _ hg
 ·cases h
noncomputable def Iz(y0:List ae)(y1:Int)(y2:Int)(y3:List BA):St:=⟨[(3,.c (.one (.h 384 0 0 []))),(7,.c (.one (.ro .node y0))),(8,.c (.one (.v (.int .i64 y1)))),(9,.c (.one (.v (.int .i64 y2))))],[],[(384,.live ⟨.str,.deep,0,[],y3⟩)]⟩
noncomputable def R7(y0:List ae)(y1:Int)(y2:Int)(y3:Bool)(y4:List BA):St:=⟨[(3,.c (.one (.h 384 0 0 []))),(7,.c (.one (.ro .node y0))),(8,.c (.one (.v (.int .i64 y1)))),(9,.c (.one (.v (.int .i64 y2)))),(10,.c (.one (.v (.bool y3))))],[],[(384,.live ⟨.str,.deep,0,[],y4⟩)]⟩
noncomputable def GB:Code:=(Tryz.f19.body).getD .skip
def Kw:Nat→Kp:=fa [⟨[0],[],[],[]⟩,⟨[0,3],[],[],[]⟩,⟨[3,7,8,9],[],[],[]⟩,⟨[3,7,8,9,10],[],[],[]⟩,⟨[3,5,7,8,9],[],[],[]⟩,⟨[3,7,8,9],[],[],[]⟩,⟨[3,7,8,9],[],[],[]⟩,⟨[3],[],[],[]⟩,⟨[2],[],[],[]⟩]
noncomputable def D7:Env:=bQ.env [(49,s49),(50,s50),(51,s51)]
noncomputable def ym{R:Type}(n:Nat)(x0:Int→Bool→(List BA)→Option R)(wF:List ae)(wD:Int):Nat→Int→(List BA)→Option R
  |0,_,_=>none
  |m+1,wA,wG=>
    (cond (decide (wA<wD))
   (cond ((decide ((0:Int)≤wA))&&(decide (wA<(wF.length:Int))))
    (cond (ag (eN (al (t:= .node) wF (Int.toNat wA))))
     (cond (Nat.ble (wG.length+(fG (eN (al (t:= .node) wF (Int.toNat wA)))).length) bT)
      (ym n x0 wF wD m (IntKind.wrap .i64 (wA+(1:Int))) (wG++(fG (eN (al (t:= .node) wF (Int.toNat wA))))))
      none)
     none)
    none)
   (x0 wA (decide (wA<wD)) wG))
theorem WA{R:Type}(n:Nat)(k':Kx R)(wF:List ae)(wD:Int)(wA:Int)(wG:List BA):ev D7 Kw n (bC [1,1,0,1,0,0] GB) (Iz wF wD wA wG) k'=
 (cond (decide (wA<wD))
 (cond ((decide ((0:Int)≤wA))&&(decide (wA<(wF.length:Int))))
 (cond (ag (eN (al (t:= .node) wF (Int.toNat wA))))
 (cond (Nat.ble (wG.length+(fG (eN (al (t:= .node) wF (Int.toNat wA)))).length) bT)
 (k' .normal (Iz wF wD (IntKind.wrap .i64 (wA+(1:Int))) (wG++(fG (eN (al (t:= .node) wF (Int.toNat wA)))))))
 none)
 none)
 none)
 (k' (.exit 0) (R7 wF wD wA (decide (wA<wD)) wG))):=by kernel_rfl
theorem R8{R:Type}(n:Nat)(k':Kx R)(wF:List ae)(wD:Int):∀(m:Nat)(wA:Int)(wG:List BA),iter (fun st k=>ev D7 Kw n (bC [1,1,0,1,0,0] GB) st k) m (Iz wF wD wA wG) k'=ym n (fun(wJ:Int)(wK:Bool)(wI:List BA)=>k' (.exit 0) (R7 wF wD wJ wK wI)) wF wD m wA wG:=by
 intro m;induction m with
 |zero=>intros;rfl
 |succ m ih=>
  intro wA wG
  simp only[iter]
  rw[WA]
  simp only[ih,ym]
noncomputable def Yg{R:Type}(n:Nat)(k':Kx R):Kx R:=(b8 0 (eP D7 Kw n (bC [1,1,1] GB) k'))
theorem R9{R:Type}(n:Nat)(k:Kt R)(a0:List ae)(wF:List ae)(wD:Int)(wJ:Int)(wK:Bool)(wI:List BA):Yg n (aI D7 [.ro] [false] true [.tmp 2] [24] [.d (.sl .node) a0] k) (.exit 0) (R7 wF wD wJ wK wI)=
 (cond (uy wI)
 (cond (uy (fO wI))
 (k [.d (.sl .str) (js (fO wI))])
 none)
 none):=by kernel_rfl
theorem WB{R:Type}(n:Nat)(k:Kt R)(a0:List ae):aG D7 Kw n GB [.ro] [false] true [.tmp 2] [24] [.d (.sl .node) a0] k=
 (ym n (fun(wJ:Int)(wK:Bool)(wI:List BA)=>
 (cond (uy wI)
 (cond (uy (fO wI))
 (k [.d (.sl .str) (js (fO wI))])
 none)
 none)) a0 (a0.length:Int) n (0:Int) ([]:List BA)):=by
 refine Eq.trans (b:=(iter (fun st k=>ev D7 Kw n (bC [1,1,0,1,0,0] GB) st k) n (Iz a0 (a0.length:Int) (0:Int) ([]:List BA)) (Yg n (aI D7 [.ro] [false] true [.tmp 2] [24] [.d (.sl .node) a0] k)))) (by kernel_rfl) ?_
 simp only[R8,R9]
theorem Sb(a0:List ae)(hg:Zz a0=true):∃keep rounds,∀{R:Type}(k:Kt R),aG D7 keep rounds GB [.ro] [false] true [.tmp 2] [24] [.d (.sl .node) a0] k=k [.d (.sl .str) (dp a0)]:=by
 simp only[Zz,Bool.and_eq_true,Nat.ble_eq] at hg
 obtain⟨hs,hn⟩:=hg
 have R6:(bT:Nat)=4294967296:=rfl
 have hk:∀x∈a0,(fG x).length≤1048576:=fun x hx=>Nat.le_trans (qM x) (aR (ch (List.all_eq_true.1 hs x hx)).2.2.2.1)
 have hlen:∀l:List ae,(∀ x∈l,(fG x).length≤1048576)→(l.flatMap fG).length≤1048576*l.length:=by
  intro l
  induction l with
  |nil=>intro _;simp
  |cons x l ih=>
   intro h
   have h1:=h x (by simp)
   have h2:=ih fun y hy=>h y (by simp[hy])
   rw[List.flatMap_cons,List.length_append,List.length_cons,Nat.mul_add_one];omega
 have hl:=hlen a0 hk
 have hl2:1048576*a0.length≤10485760:=Nat.mul_le_mul_left 1048576 hn
 have g1:uy (a0.flatMap fG)=true:=Nat.ble_eq_true_of_le (by omega)
 have g2:uy (fO (a0.flatMap fG))=true:=Nat.ble_eq_true_of_le (by rw[jV];omega)
 refine⟨Kw,a0.length+1,fun {R} k=> ?_⟩
 rw[WB]
 refine Eq.trans (pF (xs:=a0) (g:=fun _ x=>fG x) (F:=fun m j o=>ym (a0.length+1) _ a0 (a0.length:Int) m (j:Int) o) (good:=fun o=>cond (uy o) (cond (uy (fO o)) (k [.d (.sl .str) (js (fO o))]) none) none)
  (fun m j o x hx ho=> ?_) (fun m o=>by simp only[ym,iX,cond_false]) a0.length 0 (a0.length+1) [] (by omega) (by omega) (by rw[kq,List.drop_zero,List.length_nil];omega)) ?_
 ·obtain⟨h1,h0,hw,ht⟩:=idx (aP hx) (by omega)
  have hsx:=List.all_eq_true.1 hs x (List.mem_of_getElem? hx)
  have pZ:Nat.ble (o.length+(fG x).length) bT=true:=Nat.ble_eq_true_of_le ho
  simp only[ym,h1,h0,hw,ht,bm (t:= .node) hx,aK,hsx,pZ,Bool.and_self,cond_true]
 ·rw[kq,List.drop_zero,List.nil_append]
  simp only[g1,g2,cond_true]
  rfl
noncomputable def q19:Qt
 | [.d (.sl .node) a0]=>some ((Zz a0),[.d (.sl .str) (dp a0)])
 |_=>none
noncomputable def s19:Gm.Spec:=Gm.Spec.of [.ro] [false] true q19
theorem abG:Gm.Good Tryz.prog (19,s19):=by
 have hl:∀x∈[(49,s49),(50,s50),(51,s51)],Gm.Good Tryz.prog x:=bt.2 ⟨abF,bt.2 ⟨R4,bt.2 ⟨abD,gw⟩⟩⟩
 refine⟨⟨aD (aL.env hl) (bQ.cq hl) Tryz.func19 (by kernel_rfl:Tryz.f19.body=some GB) [24] (by kernel_rfl) ?_,_,Tryz.func19,by kernel_rfl,of_decide_eq_true (by kernel_rfl)⟩,Gm.Spec.ax _ _ _ _⟩
 intro ds outs h
 unfold q19 at h
 split at h
 ·simp only[Option.some.injEq,Prod.mk.injEq] at h;obtain⟨hg,h⟩:=h;cases h;exact Sb _ hg
 ·cases h
noncomputable def abH:Code:=(Tryz.f20.body).getD .skip
def aga:Nat→Kp:=fa [⟨[1,2,4],[],[],[]⟩,⟨[2,4,6],[],[],[]⟩,⟨[2,4,6,24],[],[],[]⟩,⟨[4,5],[],[],[]⟩,⟨[4,5],[],[],[]⟩]
noncomputable def agb:Env:=bQ.env [(23,pU),(52,UE)]
theorem WC{R:Type}(n:Nat)(k:Kt R)(a0:ae)(a1:BA):aG agb aga n abH [.ro,.ro] [false,false] true [.cell 4 27,.tmp 5] [27,4] [.d .node a0,.d .str a1] k=
 (cond ((fun(x:List BA)(_:BA)=>fk x) (ae.keys a0) a1)
 (cond ((ae.kind a0) !=(5:Int))
 (k [.d .node (⟨(0:Int),(0:Int),ByteArray.empty,([]:List BA),([]:List ae)⟩:ae),.d .bool false])
 (cond (decide ((fx (ae.keys a0) a1)<(0:Int)))
 (k [.d .node (⟨(0:Int),(0:Int),ByteArray.empty,([]:List BA),([]:List ae)⟩:ae),.d .bool false])
 (cond (decide ((fx (ae.keys a0) a1)≥((ae.kids a0).length:Int)))
 (k [.d .node (⟨(0:Int),(0:Int),ByteArray.empty,([]:List BA),([]:List ae)⟩:ae),.d .bool false])
 (cond ((decide ((0:Int)≤(fx (ae.keys a0) a1)))&&(decide ((fx (ae.keys a0) a1)<((ae.kids a0).length:Int))))
 (cond (ag (eN (al (t:= .node) (ae.kids a0) (Int.toNat (fx (ae.keys a0) a1)))))
 (k [.d .node (eN (al (t:= .node) (ae.kids a0) (Int.toNat (fx (ae.keys a0) a1)))),.d .bool true])
 none)
 none))))
 none):=by kernel_rfl
theorem Sd(a0:ae)(a1:BA)(hg:ag a0=true):∃keep rounds,∀{R:Type}(k:Kt R),aG agb keep rounds abH [.ro,.ro] [false,false] true [.cell 4 27,.tmp 5] [27,4] [.d .node a0,.d .str a1] k=k [.d .node ((gS a0 a1).1),.d .bool ((gS a0 a1).2)]:=by
 obtain⟨_,_,_,lQ,lg⟩:=ch hg
 refine⟨aga,0,fun {R} k=> ?_⟩
 rw[WC]
 show _=k [.d .node (gS a0 a1).1,.d .bool (gS a0 a1).2]
 unfold gS
 simp only[lF lQ,aK,cond_true]
 cases h5:(a0.kind==(5:Int))
 ·have hk:bj a0 a1 = -1:=by unfold bj;rw[h5];rfl
  have hb:(a0.kind !=(5:Int))=true:=by simp only[bne,h5];rfl
  rw[hk,hb];rfl
 have hb:(a0.kind !=(5:Int))=false:=by simp only[bne,h5];rfl
 rw[JU a0 a1 (eq_of_beq h5),hb]
 cases hn:decide (fx a0.keys a1<(0:Int))
 rotate_left
 ·rfl
 cases hl:decide (fx a0.keys a1≥(a0.kids.length:Int))
 rotate_left
 ·rfl
 have KR:=of_decide_eq_false hn
 have CY:=of_decide_eq_false hl
 have d1:decide ((0:Int)≤fx a0.keys a1)=true:=decide_eq_true (by omega)
 have d2:decide (fx a0.keys a1<(a0.kids.length:Int))=true:=decide_eq_true (by omega)
 have hm:ag (al (t:= .node) a0.kids (Int.toNat (fx a0.keys a1)))=true:=dG hg (List.mem_of_getElem? (dm (t:= .node) (by omega)))
 simp only[hn,d1,d2,hm,Bool.and_self,cond_true,cond_false]
noncomputable def q20:Qt
 | [.d .node a0,.d .str a1]=>some (((fun(t:ae)(_:BA)=>ag t) a0 a1),[.d .node ((gS a0 a1).1),.d .bool ((gS a0 a1).2)])
 |_=>none
noncomputable def s20:Gm.Spec:=Gm.Spec.of [.ro,.ro] [false,false] true q20
theorem abI:Gm.Good Tryz.prog (20,s20):=by
 have hl:∀x∈[(23,pU),(52,UE)],Gm.Good Tryz.prog x:=bt.2 ⟨ic,bt.2 ⟨BG,gw⟩⟩
 refine⟨⟨aD (aL.env hl) (bQ.cq hl) Tryz.func20 (by kernel_rfl:Tryz.f20.body=some abH) [27,4] (by kernel_rfl) ?_,_,Tryz.func20,by kernel_rfl,of_decide_eq_true (by kernel_rfl)⟩,Gm.Spec.ax _ _ _ _⟩
 intro ds outs h
 unfold q20 at h
 split at h
 ·simp only[Option.some.injEq,Prod.mk.injEq] at h;obtain⟨hg,h⟩:=h;cases h;exact Sd _ _ hg
 ·cases h
noncomputable def IA(y0:BA)(y1:Int)(y2:Int)(y3:List ai):St:=⟨[(0,.c (.one (.v (.string y0)))),(1,.c (.one (.h 64 0 0 []))),(7,.c (.one (.h 64 0 0 []))),(8,.c (.one (.v (.int .i64 y1)))),(9,.c (.one (.v (.int .i64 y2))))],[],[(64,.live ⟨.pop,.deep,0,[],y3⟩)]⟩
noncomputable def Se(y0:BA)(y1:Int)(y2:Int)(y3:Bool)(y4:List ai):St:=⟨[(0,.c (.one (.v (.string y0)))),(1,.c (.one (.h 64 0 0 []))),(7,.c (.one (.h 64 0 0 []))),(8,.c (.one (.v (.int .i64 y1)))),(9,.c (.one (.v (.int .i64 y2)))),(10,.c (.one (.v (.bool y3))))],[],[(64,.live ⟨.pop,.deep,0,[],y4⟩)]⟩
noncomputable def GC:Code:=(Tryz.f21.body).getD .skip
def Ky:Nat→Kp:=fa [⟨[0,1],[],[],[]⟩,⟨[0,1,7,8,9],[],[],[]⟩,⟨[0,1,7,8,9,10],[],[],[]⟩,⟨[0,1,5,6,7,8,9],[],[],[]⟩,⟨[0,1,7,8,9],[],[],[]⟩,⟨[0,1,7,8,9],[],[],[]⟩,⟨[4],[],[],[]⟩]
noncomputable def D8:Env:=bQ.env []
noncomputable def Sf(wB:List ai)(wA:Int)(wE:BA):List ai:=
 (wB.set (Int.toNat wA) (⟨(ai.kind (al (t:= .pop) wB (Int.toNat wA))),(([wE]:List BA)++(ai.path (al (t:= .pop) wB (Int.toNat wA)))),(ai.src (al (t:= .pop) wB (Int.toNat wA))),(eN (ai.x (al (t:= .pop) wB (Int.toNat wA))))⟩:ai))
noncomputable def yn{R:Type}(n:Nat)(x0:Int→Bool→(List ai)→Option R)(wE:BA)(wD:Int):Nat→Int→(List ai)→Option R
  |0,_,_=>none
  |m+1,wA,wB=>
    (cond (decide (wA<wD))
   (cond ((decide ((0:Int)≤wA))&&(decide (wA<(wB.length:Int))))
    (cond (Nat.ble (1+(ai.path (al (t:= .pop) wB (Int.toNat wA))).length) bT)
     (cond ((decide ((0:Int)≤wA))&&(decide (wA<(wB.length:Int))))
      (yn n x0 wE wD m (IntKind.wrap .i64 (wA+(1:Int))) (Sf wB wA wE))
      none)
     none)
    none)
   (x0 wA (decide (wA<wD)) wB))
theorem WD{R:Type}(n:Nat)(k':Kx R)(wE:BA)(wD:Int)(wA:Int)(wB:List ai):ev D8 Ky n (bC [1,0,1,0,0] GC) (IA wE wD wA wB) k'=
 (cond (decide (wA<wD))
 (cond ((decide ((0:Int)≤wA))&&(decide (wA<(wB.length:Int))))
 (cond (Nat.ble (1+(ai.path (al (t:= .pop) wB (Int.toNat wA))).length) bT)
 (cond ((decide ((0:Int)≤wA))&&(decide (wA<(wB.length:Int))))
 (k' .normal (IA wE wD (IntKind.wrap .i64 (wA+(1:Int))) (Sf wB wA wE)))
 none)
 none)
 none)
 (k' (.exit 0) (Se wE wD wA (decide (wA<wD)) wB))):=by kernel_rfl
theorem Sg{R:Type}(n:Nat)(k':Kx R)(wE:BA)(wD:Int):∀(m:Nat)(wA:Int)(wB:List ai),iter (fun st k=>ev D8 Ky n (bC [1,0,1,0,0] GC) st k) m (IA wE wD wA wB) k'=yn n (fun(wJ:Int)(wK:Bool)(wL:List ai)=>k' (.exit 0) (Se wE wD wJ wK wL)) wE wD m wA wB:=by
 intro m;induction m with
 |zero=>intros;rfl
 |succ m ih=>
  intro wA wB
  simp only[iter]
  rw[WD]
  simp only[ih,yn]
noncomputable def Yh{R:Type}(n:Nat)(k':Kx R):Kx R:=(b8 0 (eP D8 Ky n (bC [1,1] GC) k'))
theorem Sh{R:Type}(n:Nat)(k:Kt R)(a0:BA)(a1:List ai)(wE:BA)(wD:Int)(wJ:Int)(wK:Bool)(wL:List ai):Yh n (aI D8 [.ro,.oh] [false] true [.tmp 4] [30] [.d .str a0,.d (.sl .pop) a1] k) (.exit 0) (Se wE wD wJ wK wL)=
 (k [.d (.sl .pop) wL]):=by kernel_rfl
theorem WE{R:Type}(n:Nat)(k:Kt R)(a0:BA)(a1:List ai):aG D8 Ky n GC [.ro,.oh] [false] true [.tmp 4] [30] [.d .str a0,.d (.sl .pop) a1] k=
 (yn n (fun(wJ:Int)(wK:Bool)(wL:List ai)=>
 (k [.d (.sl .pop) wL])) a0 (a1.length:Int) n (0:Int) a1):=by
 refine Eq.trans (b:=(iter (fun st k=>ev D8 Ky n (bC [1,0,1,0,0] GC) st k) n (IA a0 (a1.length:Int) (0:Int) a1) (Yh n (aI D8 [.ro,.oh] [false] true [.tmp 4] [30] [.d .str a0,.d (.sl .pop) a1] k)))) (by kernel_rfl) ?_
 simp only[Sg,Sh]
theorem Si(a0:BA)(a1:List ai)(hg:nZ a0 a1=true):∃keep rounds,∀{R:Type}(k:Kt R),aG D8 keep rounds GC [.ro,.oh] [false] true [.tmp 4] [30] [.d .str a0,.d (.sl .pop) a1] k=k [.d (.sl .pop) (bK a0 a1)]:=by
 simp only[nZ,Bool.and_eq_true,Nat.ble_eq] at hg
 obtain⟨hn,hs⟩:=hg
 refine⟨Ky,a1.length+1,fun {R} k=> ?_⟩
 rw[WE]
 show _=k [.d (.sl .pop) (a1.map (o4 a0))]
 refine Eq.trans (Dg (xs:=a1) (f:=o4 a0) (F:=fun m j vr=>yn (a1.length+1) _ a0 (a1.length:Int) m (j:Int) vr) (good:=fun vr=>k [.d (.sl .pop) vr])
  (fun m j vr x hx hvl yG=> ?_) (fun m vr hvl=>by simp only[yn,iX,cond_false]) a1.length 0 (a1.length+1) (by omega) (by omega)) rfl
 obtain⟨h1,h0,hw,ht⟩:=idx (aP hx) (by omega)
 have hl:=List.all_eq_true.1 hs x (List.mem_of_getElem? hx)
 simp only[yn,Sf,h1,h0,hw,ht,hvl,bm (t:= .pop) yG,aK,hl,Bool.and_self,cond_true]
 rfl
noncomputable def q21:Qt
 | [.d .str a0,.d (.sl .pop) a1]=>some ((nZ a0 a1),[.d (.sl .pop) (bK a0 a1)])
 |_=>none
noncomputable def s21:Gm.Spec:=Gm.Spec.of [.ro,.oh] [false] true q21
theorem abJ:Gm.Good Tryz.prog (21,s21):=by
 have hl:∀x∈([]:List (Nat×Gm.Spec)),Gm.Good Tryz.prog x:=fun _ h=>by cases h
 refine⟨⟨aD (aL.env hl) (bQ.cq hl) Tryz.func21 (by kernel_rfl:Tryz.f21.body=some GC) [30] (by kernel_rfl) ?_,_,Tryz.func21,by kernel_rfl,of_decide_eq_true (by kernel_rfl)⟩,Gm.Spec.ax _ _ _ _⟩
 intro ds outs h
 unfold q21 at h
 split at h
 ·simp only[Option.some.injEq,Prod.mk.injEq] at h;obtain⟨hg,h⟩:=h;cases h;exact Si _ _ hg
 ·cases h
noncomputable def IB(y0:BA)(y1:Int)(y2:Nat)(y3:List ai)(y4:List ai):St:=⟨[(0,.c (.one (.v (.string y0)))),(1,.c (.one (.h 64 0 0 []))),(5,.c (.one (.h 448 0 0 []))),(6,.c (.one (.v (.int .i64 y1))))],[],[(64,.live ⟨.pop,(.part (.cur y2 0)),0,[],y3⟩),(448,.live ⟨.pop,.deep,0,[],y4⟩)]⟩
noncomputable def Sj(y0:BA)(y1:Int)(y2:Bool)(y3:Nat)(y4:List ai)(y5:List ai):St:=⟨[(0,.c (.one (.v (.string y0)))),(1,.c (.one (.h 64 0 0 []))),(5,.c (.one (.h 448 0 0 []))),(6,.c (.one (.v (.int .i64 y1)))),(11,.c (.one (.v (.bool y2))))],[],[(64,.live ⟨.pop,(.part (.cur y3 0)),0,[],y4⟩),(448,.live ⟨.pop,.deep,0,[],y5⟩)]⟩
noncomputable def GD:Code:=(Tryz.f28.body).getD .skip
def Kz:Nat→Kp:=fa [⟨[0,1],[],[],[]⟩,⟨[0,1,5],[],[],[]⟩,⟨[0,1,5,6],[],[2000000064],[]⟩,⟨[0,1,5,6,11],[],[],[]⟩,⟨[0,1,5,6],[],[],[]⟩,⟨[0,1,5,6],[],[],[]⟩,⟨[4],[],[],[]⟩]
noncomputable def D9:Env:=bQ.env []
noncomputable def yo{R:Type}(n:Nat)(x0:Int→Bool→Nat→(List ai)→Option R)(wE:BA)(wB:List ai):Nat→Int→Nat→(List ai)→Option R
  |0,_,_,_=>none
  |m+1,wC,n5,wH=>
    (cond (decide (wC<(wB.length:Int)))
   (cond ((decide ((0:Int)≤wC))&&(decide (wC<(wB.length:Int))))
    (cond ((decide ((0:Int)≤wC))&&(decide (wC<(wB.length:Int))))
     (cond (ov n5 0 (Int.toNat wC) 1)
      (cond (Nat.ble (1+(ai.path (al (t:= .pop) wB (Int.toNat wC))).length) bT)
       (cond ((decide ((0:Int)≤wC))&&(decide (wC<(wB.length:Int))))
        (cond (ov n5 0 (Int.toNat wC) 6)
         (cond (ov (Int.toNat wC) 7 (Int.toNat wC) 7)
          (cond (Nat.ble (wH.length+1) bT)
           (yo n x0 wE wB m (IntKind.wrap .i64 (wC+(1:Int))) ((Int.toNat wC)+1) (wH++([(⟨(ai.kind (al (t:= .pop) wB (Int.toNat wC))),(([wE]:List BA)++(ai.path (al (t:= .pop) wB (Int.toNat wC)))),([]:List BA),(eN (ai.x (al (t:= .pop) wB (Int.toNat wC))))⟩:ai)]:List ai)))
           none)
          none)
         none)
        none)
       none)
      none)
     none)
    none)
   (x0 wC (decide (wC<(wB.length:Int))) n5 wH))
theorem WG{R:Type}(n:Nat)(k':Kx R)(wE:BA)(wC:Int)(n5:Nat)(wB:List ai)(wH:List ai):ev D9 Kz n (bC [1,1,0,1,0,0] GD) (IB wE wC n5 wB wH) k'=
 (cond (decide (wC<(wB.length:Int)))
 (cond ((decide ((0:Int)≤wC))&&(decide (wC<(wB.length:Int))))
 (cond ((decide ((0:Int)≤wC))&&(decide (wC<(wB.length:Int))))
 (cond (ov n5 0 (Int.toNat wC) 1)
 (cond (Nat.ble (1+(ai.path (al (t:= .pop) wB (Int.toNat wC))).length) bT)
 (cond ((decide ((0:Int)≤wC))&&(decide (wC<(wB.length:Int))))
 (cond (ov n5 0 (Int.toNat wC) 6)
 (cond (ov (Int.toNat wC) 7 (Int.toNat wC) 7)
 (cond (Nat.ble (wH.length+1) bT)
 (k' .normal (IB wE (IntKind.wrap .i64 (wC+(1:Int))) ((Int.toNat wC)+1) wB (wH++([(⟨(ai.kind (al (t:= .pop) wB (Int.toNat wC))),(([wE]:List BA)++(ai.path (al (t:= .pop) wB (Int.toNat wC)))),([]:List BA),(eN (ai.x (al (t:= .pop) wB (Int.toNat wC))))⟩:ai)]:List ai))))
 none)
 none)
 none)
 none)
 none)
 none)
 none)
 none)
 (k' (.exit 0) (Sj wE wC (decide (wC<(wB.length:Int))) n5 wB wH))):=by kernel_rfl
theorem Sk{R:Type}(n:Nat)(k':Kx R)(wE:BA)(wB:List ai):∀(m:Nat)(wC:Int)(n5:Nat)(wH:List ai),iter (fun st k=>ev D9 Kz n (bC [1,1,0,1,0,0] GD) st k) m (IB wE wC n5 wB wH) k'=yo n (fun(wN:Int)(wO:Bool)(B2:Nat)(wM:List ai)=>k' (.exit 0) (Sj wE wN wO B2 wB wM)) wE wB m wC n5 wH:=by
 intro m;induction m with
 |zero=>intros;rfl
 |succ m ih=>
  intro wC n5 wH
  simp only[iter]
  rw[WG]
  simp only[ih,yo]
noncomputable def Yi{R:Type}(n:Nat)(k':Kx R):Kx R:=(b8 0 (eP D9 Kz n (bC [1,1,1] GD) k'))
theorem Sm{R:Type}(n:Nat)(k:Kt R)(a0:BA)(a1:List ai)(wE:BA)(wB:List ai)(wN:Int)(wO:Bool)(B2:Nat)(wM:List ai):Yi n (aI D9 [.ro,.oh] [false] true [.tmp 4] [30] [.d .str a0,.d (.sl .pop) a1] k) (.exit 0) (Sj wE wN wO B2 wB wM)=
 (k [.d (.sl .pop) wM]):=by kernel_rfl
theorem WH{R:Type}(n:Nat)(k:Kt R)(a0:BA)(a1:List ai):aG D9 Kz n GD [.ro,.oh] [false] true [.tmp 4] [30] [.d .str a0,.d (.sl .pop) a1] k=
 (yo n (fun(wN:Int)(wO:Bool)(B2:Nat)(wM:List ai)=>
 (k [.d (.sl .pop) wM])) a0 a1 n (0:Int) (0:Nat) ([]:List ai)):=by
 refine Eq.trans (b:=(iter (fun st k=>ev D9 Kz n (bC [1,1,0,1,0,0] GD) st k) n (IB a0 (0:Int) (0:Nat) a1 ([]:List ai)) (Yi n (aI D9 [.ro,.oh] [false] true [.tmp 4] [30] [.d .str a0,.d (.sl .pop) a1] k)))) (by kernel_rfl) ?_
 simp only[Sk,Sm]
theorem Sn(a0:BA)(a1:List ai)(hg:qL a0 a1=true):∃keep rounds,∀{R:Type}(k:Kt R),aG D9 keep rounds GD [.ro,.oh] [false] true [.tmp 4] [30] [.d .str a0,.d (.sl .pop) a1] k=k [.d (.sl .pop) (bK a0 a1)]:=by
 simp only[qL,nZ,Bool.and_eq_true,Nat.ble_eq] at hg
 obtain⟨⟨hn,hs⟩,gZ⟩:=hg
 have R6:(bT:Nat)=4294967296:=rfl
 refine⟨Kz,a1.length+1,fun {R} k=> ?_⟩
 rw[WH]
 refine Eq.trans (oR (xs:=a1) (F:=fun m j o=>yo (a1.length+1) _ a0 a1 m (j:Int) j o) (f:=fun o x=>o++[o4 a0 x]) (good:=fun o=>k [.d (.sl .pop) o]) (fun j o=>o.length=j)
  (fun j o x hx hi=>by rw[List.length_append,hi];rfl) (fun m j o x hx hi=> ?_) (fun m o hi=>by simp only[yo,iX,cond_false]) a1.length 0 (a1.length+1) [] (by omega) (by omega) rfl) ?_
 ·obtain⟨h1,h0,hw,ht⟩:=idx (aP hx) (by omega)
  have hj:=aP hx
  have hm:=List.mem_of_getElem? hx
  have hl:=List.all_eq_true.1 hs x hm
  have he:x.src=[]:=List.isEmpty_iff.1 (List.all_eq_true.1 gZ x hm)
  have pZ:Nat.ble (o.length+1) bT=true:=Nat.ble_eq_true_of_le (by omega)
  have e:o4 a0 x=⟨x.kind,[a0]++x.path,[],x.x⟩:=by unfold o4;rw[he]
  have c1:ov j 0 j 1=true:=eX.2 (.inr ⟨rfl,by omega⟩)
  have c2:ov j 0 j 6=true:=eX.2 (.inr ⟨rfl,by omega⟩)
  have c3:ov j 7 j 7=true:=eX.2 (.inr ⟨rfl,by omega⟩)
  simp only[yo,h1,h0,hw,ht,c1,c2,c3,bm (t:= .pop) hx,aK,hl,pZ,e,Bool.and_self,cond_true]
 ·rw[List.drop_zero]
  have:∀(l o:List ai),l.foldl (fun o x=>o++[o4 a0 x]) o=o++l.map (o4 a0):=by
   intro l
   induction l with
   |nil=>intro o;simp
   |cons x l ih=>intro o;rw[List.foldl_cons,ih];simp
  rw[this];rfl
noncomputable def q28:Qt
 | [.d .str a0,.d (.sl .pop) a1]=>some ((qL a0 a1),[.d (.sl .pop) (bK a0 a1)])
 |_=>none
noncomputable def s28:Gm.Spec:=Gm.Spec.of [.ro,.oh] [false] true q28
theorem Sp:Gm.Good Tryz.prog (28,s28):=by
 have hl:∀x∈([]:List (Nat×Gm.Spec)),Gm.Good Tryz.prog x:=fun _ h=>by cases h
 refine⟨⟨aD (aL.env hl) (bQ.cq hl) Tryz.func28 (by kernel_rfl:Tryz.f28.body=some GD) [30] (by kernel_rfl) ?_,_,Tryz.func28,by kernel_rfl,of_decide_eq_true (by kernel_rfl)⟩,Gm.Spec.ax _ _ _ _⟩
 intro ds outs h
 unfold q28 at h
 split at h
 ·simp only[Option.some.injEq,Prod.mk.injEq] at h;obtain⟨hg,h⟩:=h;cases h;exact Sn _ _ hg
 ·cases h
end Go.Proofs.YtalnkjjnohgjkaaGreat
