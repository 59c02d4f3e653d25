/- What the functions compute, part 3. No conditions. -/
import Derived.Test.YtglijihijmkpaaaDoorFnPrunedFn2
import Derived.Ground.NamesProg
import Derived.Shelf.Strings.SplitShaped
namespace Go.Proofs
open Go.Shelf Go.RowKit
def Tryd.qY:Go.Shelf.Ren:=⟨fun | 155=>90 | 154=>108 | 138=>110 | 165=>111 | 143=>112 | 166=>113 | 197=>114 | 169=>115 | 195=>116 | 218=>117 | 240=>118 | 241=>119 | 219=>120 | 260=>121 | 276=>122 | 277=>123 | 217=>124 | 225=>125 | 224=>126 | 267=>127 | 266=>128 | 314=>129 | n=>n,fun | 9=>9 | 3=>3 | 4=>4 | 72=>124 | 0=>0 | 76=>128 | 105=>130 | 21=>21 | 5=>5 | 70=>122 | 20=>20 | 37=>48 | 75=>127 | 127=>135 | 164=>136 | 46=>120 | 119=>140 | 139=>143 | 138=>142 | 146=>145 | 51=>144 | 80=>132 | n=>n,fun | 1=>0 | 3=>1 | 4=>2 | n=>n⟩
theorem Tryd.Cq:Go.Proofs.LaysM.n155 Tryd.prog Tryd.qY:={
 mixed:=by kernel_rfl
 f138:=Tryd.func110.trans (congrArg some (by kernel_rfl))
 f143:=Tryd.func112.trans (congrArg some (by kernel_rfl))
 f154:=Tryd.func108.trans (congrArg some (by kernel_rfl))
 f155:=Tryd.func90.trans (congrArg some (by kernel_rfl))
 f165:=Tryd.func111.trans (congrArg some (by kernel_rfl))
 f166:=Tryd.func113.trans (congrArg some (by kernel_rfl))
 f169:=Tryd.func115.trans (congrArg some (by kernel_rfl))
 f195:=Tryd.func116.trans (congrArg some (by kernel_rfl))
 f197:=Tryd.func114.trans (congrArg some (by kernel_rfl))
 f217:=Tryd.func124.trans (congrArg some (by kernel_rfl))
 f218:=Tryd.func117.trans (congrArg some (by kernel_rfl))
 f219:=Tryd.func120.trans (congrArg some (by kernel_rfl))
 f224:=Tryd.func126.trans (congrArg some (by kernel_rfl))
 f225:=Tryd.func125.trans (congrArg some (by kernel_rfl))
 f240:=Tryd.func118.trans (congrArg some (by kernel_rfl))
 f241:=Tryd.func119.trans (congrArg some (by kernel_rfl))
 f260:=Tryd.func121.trans (congrArg some (by kernel_rfl))
 f266:=Tryd.func128.trans (congrArg some (by kernel_rfl))
 f267:=Tryd.func127.trans (congrArg some (by kernel_rfl))
 f276:=Tryd.func122.trans (congrArg some (by kernel_rfl))
 f277:=Tryd.func123.trans (congrArg some (by kernel_rfl))
 f314:=Tryd.func129.trans (congrArg some (by kernel_rfl))
 t0:=Tryd.underlying0
 a0:=Tryd.isAgg0
 z0:=Tryd.sizeOf0
 v0:=Tryd.zeroValue0
 t3:=Tryd.underlying3
 a3:=Tryd.isAgg3
 z3:=Tryd.sizeOf3
 v3:=Tryd.zeroValue3
 t4:=Tryd.underlying4
 a4:=Tryd.isAgg4
 z4:=Tryd.sizeOf4
 v4:=Tryd.zeroValue4
 t5:=Tryd.underlying5
 a5:=Tryd.isAgg5
 z5:=Tryd.sizeOf5
 v5:=Tryd.zeroValue5
 t9:=Tryd.underlying9
 a9:=Tryd.isAgg9
 z9:=Tryd.sizeOf9
 v9:=Tryd.zeroValue9
 t20:=Tryd.underlying20
 a20:=Tryd.isAgg20
 z20:=Tryd.sizeOf20
 v20:=Tryd.zeroValue20
 t21:=Tryd.underlying21
 a21:=Tryd.isAgg21
 z21:=Tryd.sizeOf21
 v21:=Tryd.zeroValue21
 t37:=Tryd.underlying48
 a37:=Tryd.isAgg48
 z37:=Tryd.sizeOf48
 v37:=Tryd.zeroValue48
 t46:=Tryd.underlying120
 a46:=Tryd.isAgg120
 z46:=Tryd.sizeOf120
 v46:=Tryd.zeroValue120
 t51:=Tryd.underlying144
 a51:=Tryd.isAgg144
 z51:=Tryd.sizeOf144
 v51:=Tryd.zeroValue144
 t70:=Tryd.underlying122
 a70:=Tryd.isAgg122
 z70:=Tryd.sizeOf122
 v70:=Tryd.zeroValue122
 t72:=Tryd.underlying124
 a72:=Tryd.isAgg124
 z72:=Tryd.sizeOf124
 v72:=Tryd.zeroValue124
 t75:=Tryd.underlying127
 a75:=Tryd.isAgg127
 z75:=Tryd.sizeOf127
 v75:=Tryd.zeroValue127
 t76:=Tryd.underlying128
 a76:=Tryd.isAgg128
 z76:=Tryd.sizeOf128
 v76:=Tryd.zeroValue128
 t105:=Tryd.underlying130
 a105:=Tryd.isAgg130
 z105:=Tryd.sizeOf130
 v105:=Tryd.zeroValue130
 t119:=Tryd.underlying140
 a119:=Tryd.isAgg140
 z119:=Tryd.sizeOf140
 t127:=Tryd.underlying135
 a127:=Tryd.isAgg135
 z127:=Tryd.sizeOf135
 v127:=Tryd.zeroValue135
 t138:=Tryd.underlying142
 a138:=Tryd.isAgg142
 z138:=Tryd.sizeOf142
 v138:=Tryd.zeroValue142
 t139:=Tryd.underlying143
 a139:=Tryd.isAgg143
 z139:=Tryd.sizeOf143
 v139:=Tryd.zeroValue143
 t146:=Tryd.underlying145
 a146:=Tryd.isAgg145
 z146:=Tryd.sizeOf145
 v146:=Tryd.zeroValue145
 t164:=Tryd.underlying136
 a164:=Tryd.isAgg136
 z164:=Tryd.sizeOf136
 v164:=Tryd.zeroValue136
 g1:=by kernel_rfl
 g3:=by kernel_rfl
 g4:=by kernel_rfl
 t80:=Tryd.underlying132
 a80:=Tryd.isAgg132
 z80:=Tryd.sizeOf132
 v80:=Tryd.zeroValue132
 i0:=by kernel_rfl
 i3:=by kernel_rfl
 i4:=by kernel_rfl
 i5:=by kernel_rfl
 i9:=by kernel_rfl
 i20:=by kernel_rfl
 i21:=by kernel_rfl
 i37:=by kernel_rfl
 i46:=by kernel_rfl
 i51:=by kernel_rfl
 i70:=by kernel_rfl
 i72:=by kernel_rfl
 i75:=by kernel_rfl
 i76:=by kernel_rfl
 i80:=by kernel_rfl
 i105:=by kernel_rfl
 i127:=by kernel_rfl
 i138:=by kernel_rfl
 i139:=by kernel_rfl
 i146:=by kernel_rfl
 i164:=by kernel_rfl
 m1:=by kernel_rfl
 s1_3:=fun w h=>Go.Proofs.cell_of_shapedOpen_int (zero:= #[.int .i64 0]) (t:=3) h (of_decide_eq_true (by kernel_rfl)) (by kernel_rfl) rfl (by kernel_rfl) (by kernel_rfl) Tryd.underlying3
 m3:=by kernel_rfl
 m4:=by kernel_rfl }
theorem Tryd.extra:Builder.Extra Tryd.prog Tryd.qY:={
 sizeBuilder:=by kernel_rfl
 liesBuilder:=by kernel_rfl
 t5:=Tryd.underlying5
 a5:=Tryd.isAgg5
 z5:=Tryd.sizeOf5
 v5:=Tryd.zeroValue5
 infoByte:=by kernel_rfl
 cellsByte:=by kernel_rfl
 sizeByte:=by kernel_rfl
 neB5:=by decide }
end Go.Proofs
namespace Go.Proofs.YtglijihijmkpaaaDoor
open Go Go.Gm Go.RowKit
noncomputable def q90:Qt
 | [.d .str a0,.d .str a1,.d .str a2]=>some (og a0 a1 a2,[.d .str (gu a0 a1 a2)])
 | _=>none
noncomputable def s90:Gm.Spec:=Gm.Spec.of [.ro,.ro,.ro] [false] true q90
theorem W5:Gm.Good Tryd.prog (90,s90):=by
 refine ⟨⟨DJ rfl ?_,_,Tryd.func90,by kernel_rfl,of_decide_eq_true (by kernel_rfl)⟩,Gm.Spec.aB _ _ _ _⟩
 intro ds outs h
 unfold q90 at h
 split at h
 ·rename_i a0 a1 a2
  simp only [Option.some.injEq,Prod.mk.injEq] at h
  obtain ⟨hg,h⟩:=h
  cases h
  refine ⟨_,_,.string (gu a0 a1 a2),rfl,rfl,rfl,rfl,fun w us ROa Fs hW hB hA ct=> ?_⟩
  cases hA with
  | cons h1 hA=>
   cases hA with
   | cons h2 hA=>
    cases hA with
    | cons h3 hA=>
    cases hA
    have e1:=zC (t:= .str) (v:= .string a0) rfl rfl h1
    have e2:=zC (t:= .str) (v:= .string a1) rfl rfl h2
    have e3:=zC (t:= .str) (v:= .string a2) rfl rfl h3
    subst e1;subst e2;subst e3
    obtain ⟨g1,g2,g3⟩:=Ho hg
    obtain ⟨m,hm⟩:=Go.Proofs.Tryd.Cq.s1_3 _ hW
    exact Go.Proofs.Any.strings_ReplaceAll { Go.Proofs.Tryd.Cq with } Go.Proofs.Tryd.extra a0 a1 a2 m w g1 (hB.cell hm) g2 g3
 ·cases h
noncomputable def Gi (y0:BA) (y1:List BA) (y2:Int) (y3:Int):St:=⟨[(3,.c (.one (.v (.string y0)))),(6,.c (.one (.ro .str y1))),(7,.c (.one (.v (.int .i64 y2)))),(8,.c (.one (.v (.int .i64 y3))))],[],[]⟩
noncomputable def N0 (y0:BA) (y1:List BA) (y2:Int) (y3:Int) (y4:Bool):St:=⟨[(3,.c (.one (.v (.string y0)))),(6,.c (.one (.ro .str y1))),(7,.c (.one (.v (.int .i64 y2)))),(8,.c (.one (.v (.int .i64 y3)))),(9,.c (.one (.v (.bool y4))))],[],[]⟩
noncomputable def Ea:Code:=(Tryd.f65.body).getD .skip
def HW:Nat→Kp:=fT [⟨[0],[],[],[]⟩,⟨[0,3],[],[],[]⟩,⟨[3,6,7,8],[],[],[]⟩,⟨[3,6,7,8,9],[],[],[]⟩,⟨[3,5,6,7,8],[],[],[]⟩,⟨[3,6,7,8],[],[],[]⟩,⟨[3,6,7,8],[],[],[]⟩,⟨[2],[],[],[]⟩]
noncomputable def Cr:Env:=b9.env [(90,s90)]
noncomputable def wk {R:Type} (n:Nat) (x0:BA→Int→Bool→Option R) (wB:List BA) (wC:Int):Nat→BA→Int→Option R
  | 0,_,_=>none
  | m+1,wD,wA=>
    (cond (decide (wA<wC))
   (cond ((decide ((0:Int)≤wA))&&(decide (wA<(wB.length:Int))))
    (cond (og (ar (t:= .str) wB (Int.toNat wA)) (bs [126]) (bs [126,48]))
     (cond (og (gu (ar (t:= .str) wB (Int.toNat wA)) (bs [126]) (bs [126,48])) (bs [47]) (bs [126,49]))
      (cond (decide (ByteArray.size (bs [47])+ByteArray.size (gu (gu (ar (t:= .str) wB (Int.toNat wA)) (bs [126]) (bs [126,48])) (bs [47]) (bs [126,49]))≤9223372036854775807))
       (cond (decide (ByteArray.size wD+ByteArray.size ((bs [47])++(gu (gu (ar (t:= .str) wB (Int.toNat wA)) (bs [126]) (bs [126,48])) (bs [47]) (bs [126,49])))≤9223372036854775807))
        (wk n x0 wB wC m (wD++((bs [47])++(gu (gu (ar (t:= .str) wB (Int.toNat wA)) (bs [126]) (bs [126,48])) (bs [47]) (bs [126,49])))) (IntKind.wrap .i64 (wA+(1:Int))))
        none)
       none)
      none)
     none)
    none)
   (x0 wD wA (decide (wA<wC))))
theorem Sy {R:Type} (n:Nat) (k':Kx R) (wD:BA) (wB:List BA) (wC:Int) (wA:Int):ev Cr HW n (bl [1,1,0,1,0,0] Ea) (Gi wD wB wC wA) k'=
 (cond (decide (wA<wC))
 (cond ((decide ((0:Int)≤wA))&&(decide (wA<(wB.length:Int))))
 (cond (og (ar (t:= .str) wB (Int.toNat wA)) (bs [126]) (bs [126,48]))
 (cond (og (gu (ar (t:= .str) wB (Int.toNat wA)) (bs [126]) (bs [126,48])) (bs [47]) (bs [126,49]))
 (cond (decide (ByteArray.size (bs [47])+ByteArray.size (gu (gu (ar (t:= .str) wB (Int.toNat wA)) (bs [126]) (bs [126,48])) (bs [47]) (bs [126,49]))≤9223372036854775807))
 (cond (decide (ByteArray.size wD+ByteArray.size ((bs [47])++(gu (gu (ar (t:= .str) wB (Int.toNat wA)) (bs [126]) (bs [126,48])) (bs [47]) (bs [126,49])))≤9223372036854775807))
 (k' .normal (Gi (wD++((bs [47])++(gu (gu (ar (t:= .str) wB (Int.toNat wA)) (bs [126]) (bs [126,48])) (bs [47]) (bs [126,49])))) wB wC (IntKind.wrap .i64 (wA+(1:Int)))))
 none)
 none)
 none)
 none)
 none)
 (k' (.exit 0) (N0 wD wB wC wA (decide (wA<wC))))):=by kernel_rfl
theorem N1 {R:Type} (n:Nat) (k':Kx R) (wB:List BA) (wC:Int):∀(m:Nat) (wD:BA) (wA:Int),iter (fun st k=>ev Cr HW n (bl [1,1,0,1,0,0] Ea) st k) m (Gi wD wB wC wA) k'=wk n (fun (wE:BA) (wF:Int) (wG:Bool)=>k' (.exit 0) (N0 wE wB wC wF wG)) wB wC m wD wA:=by
 intro m;induction m with
 | zero=>intros;rfl
 | succ m ih=>
  intro wD wA
  simp only [iter]
  rw [Sy]
  simp only [ih,wk]
noncomputable def Ux {R:Type} (n:Nat) (k':Kx R):Kx R:=(bZ 0 (dS Cr HW n (bl [1,1,1] Ea) k'))
theorem N2 {R:Type} (n:Nat) (k:Kt R) (a0:List BA) (wB:List BA) (wC:Int) (wE:BA) (wF:Int) (wG:Bool):Ux n (aC Cr [.ro] [false] true [.tmp 2] [9] [.d (.sl .str) a0] k) (.exit 0) (N0 wE wB wC wF wG)=
 (k [.d .str wE]):=by kernel_rfl
theorem Sz {R:Type} (n:Nat) (k:Kt R) (a0:List BA):aM Cr HW n Ea [.ro] [false] true [.tmp 2] [9] [.d (.sl .str) a0] k=
 (wk n (fun (wE:BA) (wF:Int) (wG:Bool)=>
 (k [.d .str wE])) a0 (a0.length:Int) n ByteArray.empty (0:Int)):=by
 refine Eq.trans (b:=(iter (fun st k=>ev Cr HW n (bl [1,1,0,1,0,0] Ea) st k) n (Gi ByteArray.empty a0 (a0.length:Int) (0:Int)) (Ux n (aC Cr [.ro] [false] true [.tmp 2] [9] [.d (.sl .str) a0] k)))) (by kernel_rfl) ?_
 simp only [N1,N2]
theorem N3 (a0:List BA) (hg:k7 a0=true):∃aJ rounds,∀ {R:Type} (k:Kt R),aM Cr aJ rounds Ea [.ro] [false] true [.tmp 2] [9] [.d (.sl .str) a0] k=k [.d .str (aL a0)]:=by
 have hl:dw ByteArray.size a0≤2097152:=gw hg
 have hn:=lF ByteArray.size a0
 refine ⟨HW,a0.length+1,fun {R} k=> ?_⟩
 rw [Sz]
 refine Eq.trans (nT (xs:=a0) (F:=fun m j out=>wk (a0.length+1) _ a0 (a0.length:Int) m out (j:Int)) (f:=fun out s=>out++vI (qH s)) (good:=fun out=>k [.d .str out]) (fun j out=>out.size≤5000000*j)
  (fun j out x hx hi=> ?_) (fun m j out x hx hi=> ?_) (fun m out hi=>by simp only [wk,gG,cond_false]) a0.length 0 (a0.length+1) ByteArray.empty (by omega) (by omega) (by simp)) ?_
 ·have h1:=BX hx
  have h2:=Ft x.data.toList
  have hi:out.size≤5000000*j:=hi
  show (out++vI (qH x)).size≤5000000*(j+1)
  rw [ByteArray.size_append,qI]
  simp only [qH,List.length_cons]
  have:x.data.toList.length=x.size:=Zw _
  rw [Nat.mul_add_one];omega
 ·obtain ⟨h1,h0,hw,ht⟩:=idx (aY hx) (by omega)
  have hj:=aY hx
  have hs:=BX hx
  have hi:out.size≤5000000*j:=hi
  have Jb:og x (bs [126]) (bs [126,48])=true:=by
   unfold og;rw [Nat.ble_eq_true_of_le (by omega:x.size≤2147483648)];rfl
  have ff:=DK x.data.toList
  have hxl:x.data.toList.length=x.size:=Zw _
  have Ny:og (gu x (bs [126]) (bs [126,48])) (bs [47]) (bs [126,49])=true:=by
   unfold og;rw [Fu,qI,Nat.ble_eq_true_of_le (by omega)];rfl
  have he:=Ft x.data.toList
  have e:bs [47]++vI (x.data.toList.flatMap zO)=vI (qH x):=by
   rw [show bs [47]=vI [47] from rfl,Fq];rfl
  have Gx:decide (ByteArray.size (bs [47])+ByteArray.size (vI (x.data.toList.flatMap zO))≤9223372036854775807)=true:=decide_eq_true (by rw [qI,show (bs [47]).size=1 from rfl];omega)
  have hz2:decide (ByteArray.size out+ByteArray.size (vI (qH x))≤9223372036854775807)=true:=decide_eq_true (by rw [qI];simp only [qH,List.length_cons];omega)
  simp only [wk,h1,h0,hw,ht,bz (t:= .str) hx,Jb,Ny,QG,Gx,e,hz2,Bool.and_self,cond_true]
 ·rw [List.drop_zero]
  have key:∀(xs:List BA) (l:List UInt8),xs.foldl (fun out s=>out++vI (qH s)) (vI l)=vI (l++xs.flatMap qH):=by
   intro xs
   induction xs with
   | nil=>intro l;simp
   | cons x r ih=>intro l;rw [List.foldl_cons,Fq,ih,List.flatMap_cons,List.append_assoc]
  have:=key a0 []
  rw [show ByteArray.empty=vI [] from rfl,this];rfl
noncomputable def q65:Qt
 | [.d (.sl .str) a0]=>some ((k7 a0),[.d .str (aL a0)])
 | _=>none
noncomputable def s65:Gm.Spec:=Gm.Spec.of [.ro] [false] true q65
theorem W6:Gm.Good Tryd.prog (65,s65):=by
 have hl:∀x∈[(90,s90)],Gm.Good Tryd.prog x:=bJ.2 ⟨W5,im⟩
 refine ⟨⟨aK (aV.env hl) (b9.cF hl) Tryd.func65 (by kernel_rfl:Tryd.f65.body=some Ea) [9] (by kernel_rfl) ?_,_,Tryd.func65,by kernel_rfl,of_decide_eq_true (by kernel_rfl)⟩,Gm.Spec.aB _ _ _ _⟩
 intro ds outs h
 unfold q65 at h
 split at h
 ·simp only [Option.some.injEq,Prod.mk.injEq] at h;obtain ⟨hg,h⟩:=h;cases h;exact N3 _ hg
 ·cases h
noncomputable def q40:Qt
 | [.d .node a0,.d .aq a1,.d (.sl .str) a2]=>some ((fD a0 a1 a2),[.d (.sl .str) ((cO aL) a0 a1 a2)])
 | _=>none
noncomputable def W7:List Dt→Nat
 | [.d .node a0,.d .aq a1,.d (.sl .str) a2]=>(fun (t:ae) (_:af) (_:List BA)=>ao t) a0 a1 a2
 | _=>0
noncomputable def aaQ (N:Nat):Gm.Spec:=Gm.Spec.of [.ro,.ro,.ro] [false] true (nS W7 N q40)
noncomputable def lh (y0:List BA) (y1:List ae) (y2:Int) (y3:Int) (y4:Int) (y5:Int) (y6:BA) (y7:List BA) (y8:List ae) (y9:Int) (fc:List BA) (fE:List af) (iN:List Bool) (ml:Int) (o4:Int) (oq:List BA):St:=⟨[(2,.c (.one (.ro .str y0))),(3,.c (.one (.pt 3 0))),(4,.c (.one (.pt 4 0))),(8,.c (.one (.h 1152 0 0 []))),(76,.c (.one (.ro .node y1))),(77,.c (.one (.v (.int .i64 y2)))),(78,.c (.one (.v (.int .i64 y3))))],[(3,⟨.node,[.v (.int .i64 y4),.v (.int .i64 y5),.v (.string y6),.ro .str y7,.ro .node y8]⟩),(4,⟨.aq,[.v (.int .i64 y9),.ro .str fc,.ro .aq fE,.ro .bool iN,.v (.int .i64 ml),.v (.int .i64 o4)]⟩)],[(1152,.live ⟨.str,.deep,0,[],oq⟩)]⟩
noncomputable def N4 (y0:List BA) (y1:List ae) (y2:Int) (y3:Int) (y4:Bool) (y5:Int) (y6:Int) (y7:BA) (y8:List BA) (y9:List ae) (fc:Int) (fE:List BA) (iN:List af) (ml:List Bool) (o4:Int) (oq:Int) (qP:List BA):St:=⟨[(2,.c (.one (.ro .str y0))),(3,.c (.one (.pt 3 0))),(4,.c (.one (.pt 4 0))),(8,.c (.one (.h 1152 0 0 []))),(76,.c (.one (.ro .node y1))),(77,.c (.one (.v (.int .i64 y2)))),(78,.c (.one (.v (.int .i64 y3)))),(79,.c (.one (.v (.bool y4))))],[(3,⟨.node,[.v (.int .i64 y5),.v (.int .i64 y6),.v (.string y7),.ro .str y8,.ro .node y9]⟩),(4,⟨.aq,[.v (.int .i64 fc),.ro .str fE,.ro .aq iN,.ro .bool ml,.v (.int .i64 o4),.v (.int .i64 oq)]⟩)],[(1152,.live ⟨.str,.deep,0,[],qP⟩)]⟩
noncomputable def yD (y0:List BA) (y1:List BA) (y2:Int) (y3:Int) (y4:Int) (y5:Int) (y6:BA) (y7:List BA) (y8:List ae) (y9:Int) (fc:List BA) (fE:List af) (iN:List Bool) (ml:Int) (o4:Int) (oq:List BA):St:=⟨[(2,.c (.one (.ro .str y0))),(3,.c (.one (.pt 3 0))),(4,.c (.one (.pt 4 0))),(8,.c (.one (.h 1152 0 0 []))),(141,.c (.one (.ro .str y1))),(142,.c (.one (.v (.int .i64 y2)))),(143,.c (.one (.v (.int .i64 y3))))],[(3,⟨.node,[.v (.int .i64 y4),.v (.int .i64 y5),.v (.string y6),.ro .str y7,.ro .node y8]⟩),(4,⟨.aq,[.v (.int .i64 y9),.ro .str fc,.ro .aq fE,.ro .bool iN,.v (.int .i64 ml),.v (.int .i64 o4)]⟩)],[(1152,.live ⟨.str,.deep,0,[],oq⟩)]⟩
noncomputable def N5 (y0:List BA) (y1:List BA) (y2:Int) (y3:Int) (y4:Bool) (y5:Int) (y6:Int) (y7:BA) (y8:List BA) (y9:List ae) (fc:Int) (fE:List BA) (iN:List af) (ml:List Bool) (o4:Int) (oq:Int) (qP:List BA):St:=⟨[(2,.c (.one (.ro .str y0))),(3,.c (.one (.pt 3 0))),(4,.c (.one (.pt 4 0))),(8,.c (.one (.h 1152 0 0 []))),(141,.c (.one (.ro .str y1))),(142,.c (.one (.v (.int .i64 y2)))),(143,.c (.one (.v (.int .i64 y3)))),(144,.c (.one (.v (.bool y4))))],[(3,⟨.node,[.v (.int .i64 y5),.v (.int .i64 y6),.v (.string y7),.ro .str y8,.ro .node y9]⟩),(4,⟨.aq,[.v (.int .i64 fc),.ro .str fE,.ro .aq iN,.ro .bool ml,.v (.int .i64 o4),.v (.int .i64 oq)]⟩)],[(1152,.live ⟨.str,.deep,0,[],qP⟩)]⟩
noncomputable def iS (y0:List BA) (y1:List ae) (y2:Int) (y3:Int) (y4:Int) (y5:Int) (y6:BA) (y7:List BA) (y8:List ae) (y9:Int) (fc:List BA) (fE:List af) (iN:List Bool) (ml:Int) (o4:Int) (oq:List BA):St:=⟨[(2,.c (.one (.ro .str y0))),(3,.c (.one (.pt 3 0))),(4,.c (.one (.pt 4 0))),(8,.c (.one (.h 1216 0 0 []))),(76,.c (.one (.ro .node y1))),(77,.c (.one (.v (.int .i64 y2)))),(78,.c (.one (.v (.int .i64 y3))))],[(3,⟨.node,[.v (.int .i64 y4),.v (.int .i64 y5),.v (.string y6),.ro .str y7,.ro .node y8]⟩),(4,⟨.aq,[.v (.int .i64 y9),.ro .str fc,.ro .aq fE,.ro .bool iN,.v (.int .i64 ml),.v (.int .i64 o4)]⟩)],[(1216,.live ⟨.str,.deep,0,[],oq⟩)]⟩
noncomputable def N6 (y0:List BA) (y1:List ae) (y2:Int) (y3:Int) (y4:Bool) (y5:Int) (y6:Int) (y7:BA) (y8:List BA) (y9:List ae) (fc:Int) (fE:List BA) (iN:List af) (ml:List Bool) (o4:Int) (oq:Int) (qP:List BA):St:=⟨[(2,.c (.one (.ro .str y0))),(3,.c (.one (.pt 3 0))),(4,.c (.one (.pt 4 0))),(8,.c (.one (.h 1216 0 0 []))),(76,.c (.one (.ro .node y1))),(77,.c (.one (.v (.int .i64 y2)))),(78,.c (.one (.v (.int .i64 y3)))),(79,.c (.one (.v (.bool y4))))],[(3,⟨.node,[.v (.int .i64 y5),.v (.int .i64 y6),.v (.string y7),.ro .str y8,.ro .node y9]⟩),(4,⟨.aq,[.v (.int .i64 fc),.ro .str fE,.ro .aq iN,.ro .bool ml,.v (.int .i64 o4),.v (.int .i64 oq)]⟩)],[(1216,.live ⟨.str,.deep,0,[],qP⟩)]⟩
noncomputable def yE (y0:List BA) (y1:List BA) (y2:Int) (y3:Int) (y4:Int) (y5:Int) (y6:BA) (y7:List BA) (y8:List ae) (y9:Int) (fc:List BA) (fE:List af) (iN:List Bool) (ml:Int) (o4:Int) (oq:List BA):St:=⟨[(2,.c (.one (.ro .str y0))),(3,.c (.one (.pt 3 0))),(4,.c (.one (.pt 4 0))),(8,.c (.one (.h 1216 0 0 []))),(141,.c (.one (.ro .str y1))),(142,.c (.one (.v (.int .i64 y2)))),(143,.c (.one (.v (.int .i64 y3))))],[(3,⟨.node,[.v (.int .i64 y4),.v (.int .i64 y5),.v (.string y6),.ro .str y7,.ro .node y8]⟩),(4,⟨.aq,[.v (.int .i64 y9),.ro .str fc,.ro .aq fE,.ro .bool iN,.v (.int .i64 ml),.v (.int .i64 o4)]⟩)],[(1216,.live ⟨.str,.deep,0,[],oq⟩)]⟩
noncomputable def N7 (y0:List BA) (y1:List BA) (y2:Int) (y3:Int) (y4:Bool) (y5:Int) (y6:Int) (y7:BA) (y8:List BA) (y9:List ae) (fc:Int) (fE:List BA) (iN:List af) (ml:List Bool) (o4:Int) (oq:Int) (qP:List BA):St:=⟨[(2,.c (.one (.ro .str y0))),(3,.c (.one (.pt 3 0))),(4,.c (.one (.pt 4 0))),(8,.c (.one (.h 1216 0 0 []))),(141,.c (.one (.ro .str y1))),(142,.c (.one (.v (.int .i64 y2)))),(143,.c (.one (.v (.int .i64 y3)))),(144,.c (.one (.v (.bool y4))))],[(3,⟨.node,[.v (.int .i64 y5),.v (.int .i64 y6),.v (.string y7),.ro .str y8,.ro .node y9]⟩),(4,⟨.aq,[.v (.int .i64 fc),.ro .str fE,.ro .aq iN,.ro .bool ml,.v (.int .i64 o4),.v (.int .i64 oq)]⟩)],[(1216,.live ⟨.str,.deep,0,[],qP⟩)]⟩
noncomputable def fZ:Code:=(Tryd.f40.body).getD .skip
def gn:Nat→Kp:=fT [⟨[2,3,4],[],[],[]⟩,⟨[2,3,4,7],[],[],[]⟩,⟨[2,3,4,7,8],[],[],[]⟩,⟨[2,3,4,7,8,20],[],[],[]⟩,⟨[6],[],[],[]⟩,⟨[2,3,4,7,8,25],[],[],[]⟩,⟨[6],[],[],[]⟩,⟨[2,3,4,7,8,32],[],[],[]⟩,⟨[2,3,4,7,8,32],[],[],[]⟩,⟨[2,3,4,7,8,32],[],[],[]⟩,⟨[2,3,4,8],[],[],[]⟩,⟨[2,3,4,8,76,77,78],[],[],[]⟩,⟨[2,3,4,8,76,77,78,79],[],[],[]⟩,⟨[2,3,4,8,9,10,76,77,78],[],[],[]⟩,⟨[2,3,4,8,9,10,76,77,78,84],[],[],[]⟩,⟨[2,3,4,8,9,10,76,77,78,84,85],[],[],[]⟩,⟨[2,3,4,8,76,77,78],[],[],[]⟩,⟨[2,3,4,8,9,10,76,77,78,101],[],[],[]⟩,⟨[2,3,4,8,9,10,76,77,78,107],[],[],[]⟩,⟨[2,3,4,8,9,10,11,76,77,78],[],[],[]⟩,⟨[2,3,4,8,10,11,12,13,76,77,78],[],[],[]⟩,⟨[2,3,4,8,10,11,12,76,77,78,127],[],[],[]⟩,⟨[2,3,4,8,76,77,78],[],[],[]⟩,⟨[2,3,4,8,76,77,78],[],[],[]⟩,⟨[2,3,4,8,76,77,78],[],[],[]⟩,⟨[2,3,4,8,141,142,143],[],[],[]⟩,⟨[2,3,4,8,141,142,143,144],[],[],[]⟩,⟨[2,3,4,8,14,15,141,142,143],[],[],[]⟩,⟨[2,3,4,8,15,141,142,143,159],[],[],[]⟩,⟨[2,3,4,8,141,142,143],[],[],[]⟩,⟨[2,3,4,8,141,142,143],[],[],[]⟩,⟨[6],[],[],[]⟩]
noncomputable def dc (N:Nat):Env:=b9.env [(40,aaQ N),(65,s65),(66,QY),(67,s67),(68,s68),(69,s69),(70,s70)]
noncomputable def jR {R:Type} (N:Nat) (n:Nat) (x0:Int→Bool→(List BA)→Option R) (wB:List BA) (wK:List ae) (wQ:Int) (wJ:Int) (wL:Int) (wM:BA) (wC:List BA) (wN:List ae) (wG:Int) (wE:List BA) (wD:List af) (wF:List Bool) (wH:Int) (wI:Int):Nat→Int→(List BA)→Option R
  | 0,_,_=>none
  | m+1,wA,wR=>
    (cond (decide (wA<wQ))
   (cond ((decide ((0:Int)≤wA))&&(decide (wA<(wK.length:Int))))
    (cond (wJ==(4:Int))
     (cond (decide ((0:Int)<(wD.length:Int)))
      (cond ((fun (x:List BA)=>Nat.ble x.length bT) wB)
       (cond (gL wA)
        (cond (Nat.ble (wB.length+1) bT)
         (cond ((fD (eN (ar (t:= .node) wK (Int.toNat wA))) (eR (ar (t:= .aq) wD 0)) (wB++([(cj wA)]:List BA)))&&(Nat.blt ((fun (t:ae) (_:af) (_:List BA)=>ao t) (eN (ar (t:= .node) wK (Int.toNat wA))) (eR (ar (t:= .aq) wD 0)) (wB++([(cj wA)]:List BA))) N))
          (cond (Nat.ble (wR.length+((cO aL) (eN (ar (t:= .node) wK (Int.toNat wA))) (eR (ar (t:= .aq) wD 0)) (wB++([(cj wA)]:List BA))).length) bT)
           (jR N n x0 wB wK wQ wJ wL wM wC wN wG wE wD wF wH wI m (IntKind.wrap .i64 (wA+(1:Int))) (wR++((cO aL) (eN (ar (t:= .node) wK (Int.toNat wA))) (eR (ar (t:= .aq) wD 0)) (wB++([(cj wA)]:List BA)))))
           none)
          none)
         none)
        none)
       none)
      none)
     (cond (wJ==(5:Int))
      (cond (decide (wA≥(wC.length:Int)))
       (jR N n x0 wB wK wQ wJ wL wM wC wN wG wE wD wF wH wI m (IntKind.wrap .i64 (wA+(1:Int))) wR)
       (cond ((fun (x:List BA)=>Nat.ble x.length bT) wB)
        (cond ((decide ((0:Int)≤wA))&&(decide (wA<(wC.length:Int))))
         (cond (Nat.ble (wB.length+1) bT)
          (cond ((decide ((0:Int)≤wA))&&(decide (wA<(wC.length:Int))))
           (cond (BV (⟨wG,wE,wD,wF,wH,wI⟩:af) (ar (t:= .str) wC (Int.toNat wA)))
            (cond ((bI (⟨wG,wE,wD,wF,wH,wI⟩:af) (ar (t:= .str) wC (Int.toNat wA))).2)
             (cond ((fD (eN (ar (t:= .node) wK (Int.toNat wA))) (eR ((bI (⟨wG,wE,wD,wF,wH,wI⟩:af) (ar (t:= .str) wC (Int.toNat wA))).1)) (wB++([(ar (t:= .str) wC (Int.toNat wA))]:List BA)))&&(Nat.blt ((fun (t:ae) (_:af) (_:List BA)=>ao t) (eN (ar (t:= .node) wK (Int.toNat wA))) (eR ((bI (⟨wG,wE,wD,wF,wH,wI⟩:af) (ar (t:= .str) wC (Int.toNat wA))).1)) (wB++([(ar (t:= .str) wC (Int.toNat wA))]:List BA))) N))
              (cond (Nat.ble (wR.length+((cO aL) (eN (ar (t:= .node) wK (Int.toNat wA))) (eR ((bI (⟨wG,wE,wD,wF,wH,wI⟩:af) (ar (t:= .str) wC (Int.toNat wA))).1)) (wB++([(ar (t:= .str) wC (Int.toNat wA))]:List BA))).length) bT)
               (jR N n x0 wB wK wQ wJ wL wM wC wN wG wE wD wF wH wI m (IntKind.wrap .i64 (wA+(1:Int))) (wR++((cO aL) (eN (ar (t:= .node) wK (Int.toNat wA))) (eR ((bI (⟨wG,wE,wD,wF,wH,wI⟩:af) (ar (t:= .str) wC (Int.toNat wA))).1)) (wB++([(ar (t:= .str) wC (Int.toNat wA))]:List BA)))))
               none)
              none)
             (cond (k7 (wB++([(ar (t:= .str) wC (Int.toNat wA))]:List BA)))
              (cond (Nat.ble (wR.length+1) bT)
               (jR N n x0 wB wK wQ wJ wL wM wC wN wG wE wD wF wH wI m (IntKind.wrap .i64 (wA+(1:Int))) (wR++([(aL (wB++([(ar (t:= .str) wC (Int.toNat wA))]:List BA)))]:List BA)))
               none)
              none))
            none)
           none)
          none)
         none)
        none))
      (jR N n x0 wB wK wQ wJ wL wM wC wN wG wE wD wF wH wI m (IntKind.wrap .i64 (wA+(1:Int))) wR)))
    none)
   (x0 wA (decide (wA<wQ)) wR))
theorem SA {R:Type} (N:Nat) (n:Nat) (k':Kx R) (wB:List BA) (wK:List ae) (wQ:Int) (wA:Int) (wJ:Int) (wL:Int) (wM:BA) (wC:List BA) (wN:List ae) (wG:Int) (wE:List BA) (wD:List af) (wF:List Bool) (wH:Int) (wI:Int) (wR:List BA):ev (dc N) gn n (bl [1,1,1,1,0,1,0,0] fZ) (lh wB wK wQ wA wJ wL wM wC wN wG wE wD wF wH wI wR) k'=
 (cond (decide (wA<wQ))
 (cond ((decide ((0:Int)≤wA))&&(decide (wA<(wK.length:Int))))
 (cond (wJ==(4:Int))
 (cond (decide ((0:Int)<(wD.length:Int)))
 (cond ((fun (x:List BA)=>Nat.ble x.length bT) wB)
 (cond (gL wA)
 (cond (Nat.ble (wB.length+1) bT)
 (cond ((fD (eN (ar (t:= .node) wK (Int.toNat wA))) (eR (ar (t:= .aq) wD 0)) (wB++([(cj wA)]:List BA)))&&(Nat.blt ((fun (t:ae) (_:af) (_:List BA)=>ao t) (eN (ar (t:= .node) wK (Int.toNat wA))) (eR (ar (t:= .aq) wD 0)) (wB++([(cj wA)]:List BA))) N))
 (cond (Nat.ble (wR.length+((cO aL) (eN (ar (t:= .node) wK (Int.toNat wA))) (eR (ar (t:= .aq) wD 0)) (wB++([(cj wA)]:List BA))).length) bT)
 (k' .normal (lh wB wK wQ (IntKind.wrap .i64 (wA+(1:Int))) wJ wL wM wC wN wG wE wD wF wH wI (wR++((cO aL) (eN (ar (t:= .node) wK (Int.toNat wA))) (eR (ar (t:= .aq) wD 0)) (wB++([(cj wA)]:List BA))))))
 none)
 none)
 none)
 none)
 none)
 none)
 (cond (wJ==(5:Int))
 (cond (decide (wA≥(wC.length:Int)))
 (k' .normal (lh wB wK wQ (IntKind.wrap .i64 (wA+(1:Int))) wJ wL wM wC wN wG wE wD wF wH wI wR))
 (cond ((fun (x:List BA)=>Nat.ble x.length bT) wB)
 (cond ((decide ((0:Int)≤wA))&&(decide (wA<(wC.length:Int))))
 (cond (Nat.ble (wB.length+1) bT)
 (cond ((decide ((0:Int)≤wA))&&(decide (wA<(wC.length:Int))))
 (cond (BV (⟨wG,wE,wD,wF,wH,wI⟩:af) (ar (t:= .str) wC (Int.toNat wA)))
 (cond ((bI (⟨wG,wE,wD,wF,wH,wI⟩:af) (ar (t:= .str) wC (Int.toNat wA))).2)
 (cond ((fD (eN (ar (t:= .node) wK (Int.toNat wA))) (eR ((bI (⟨wG,wE,wD,wF,wH,wI⟩:af) (ar (t:= .str) wC (Int.toNat wA))).1)) (wB++([(ar (t:= .str) wC (Int.toNat wA))]:List BA)))&&(Nat.blt ((fun (t:ae) (_:af) (_:List BA)=>ao t) (eN (ar (t:= .node) wK (Int.toNat wA))) (eR ((bI (⟨wG,wE,wD,wF,wH,wI⟩:af) (ar (t:= .str) wC (Int.toNat wA))).1)) (wB++([(ar (t:= .str) wC (Int.toNat wA))]:List BA))) N))
 (cond (Nat.ble (wR.length+((cO aL) (eN (ar (t:= .node) wK (Int.toNat wA))) (eR ((bI (⟨wG,wE,wD,wF,wH,wI⟩:af) (ar (t:= .str) wC (Int.toNat wA))).1)) (wB++([(ar (t:= .str) wC (Int.toNat wA))]:List BA))).length) bT)
 (k' .normal (lh wB wK wQ (IntKind.wrap .i64 (wA+(1:Int))) wJ wL wM wC wN wG wE wD wF wH wI (wR++((cO aL) (eN (ar (t:= .node) wK (Int.toNat wA))) (eR ((bI (⟨wG,wE,wD,wF,wH,wI⟩:af) (ar (t:= .str) wC (Int.toNat wA))).1)) (wB++([(ar (t:= .str) wC (Int.toNat wA))]:List BA))))))
 none)
 none)
 (cond (k7 (wB++([(ar (t:= .str) wC (Int.toNat wA))]:List BA)))
 (cond (Nat.ble (wR.length+1) bT)
 (k' .normal (lh wB wK wQ (IntKind.wrap .i64 (wA+(1:Int))) wJ wL wM wC wN wG wE wD wF wH wI (wR++([(aL (wB++([(ar (t:= .str) wC (Int.toNat wA))]:List BA)))]:List BA))))
 none)
 none))
 none)
 none)
 none)
 none)
 none))
 (k' .normal (lh wB wK wQ (IntKind.wrap .i64 (wA+(1:Int))) wJ wL wM wC wN wG wE wD wF wH wI wR))))
 none)
 (k' (.exit 1) (N4 wB wK wQ wA (decide (wA<wQ)) wJ wL wM wC wN wG wE wD wF wH wI wR))):=by kernel_rfl
theorem N8 {R:Type} (N:Nat) (n:Nat) (k':Kx R) (wB:List BA) (wK:List ae) (wQ:Int) (wJ:Int) (wL:Int) (wM:BA) (wC:List BA) (wN:List ae) (wG:Int) (wE:List BA) (wD:List af) (wF:List Bool) (wH:Int) (wI:Int):∀(m:Nat) (wA:Int) (wR:List BA),iter (fun st k=>ev (dc N) gn n (bl [1,1,1,1,0,1,0,0] fZ) st k) m (lh wB wK wQ wA wJ wL wM wC wN wG wE wD wF wH wI wR) k'=jR N n (fun (wY:Int) (wZ:Bool) (wU:List BA)=>k' (.exit 1) (N4 wB wK wQ wY wZ wJ wL wM wC wN wG wE wD wF wH wI wU)) wB wK wQ wJ wL wM wC wN wG wE wD wF wH wI m wA wR:=by
 intro m;induction m with
 | zero=>intros;rfl
 | succ m ih=>
  intro wA wR
  simp only [iter]
  rw [SA]
  simp only [ih,jR]
noncomputable def mq {R:Type} (N:Nat) (n:Nat) (x0:Int→Bool→(List BA)→Option R) (wB:List BA) (wP:List BA) (wT:Int) (wJ:Int) (wL:Int) (wM:BA) (wC:List BA) (wN:List ae) (wG:Int) (wE:List BA) (wD:List af) (wF:List Bool) (wH:Int) (wI:Int):Nat→Int→(List BA)→Option R
  | 0,_,_=>none
  | m+1,wO,wR=>
    (cond (decide (wO<wT))
   (cond ((decide ((0:Int)≤wO))&&(decide (wO<(wP.length:Int))))
    (cond ((decide ((0:Int)≤wO))&&(decide (wO<(wF.length:Int))))
     (cond (ar (t:= .bool) wF (Int.toNat wO))
      (cond ((fun (x:List BA) (_:BA)=>fW x) wC (ar (t:= .str) wP (Int.toNat wO)))
       (cond (!(rG wC (ar (t:= .str) wP (Int.toNat wO))))
        (cond ((fun (x:List BA)=>Nat.ble x.length bT) wB)
         (cond (Nat.ble (wB.length+1) bT)
          (cond (k7 (wB++([(ar (t:= .str) wP (Int.toNat wO))]:List BA)))
           (cond (Nat.ble (wR.length+1) bT)
            (mq N n x0 wB wP wT wJ wL wM wC wN wG wE wD wF wH wI m (IntKind.wrap .i64 (wO+(1:Int))) (wR++([(aL (wB++([(ar (t:= .str) wP (Int.toNat wO))]:List BA)))]:List BA)))
            none)
           none)
          none)
         none)
        (mq N n x0 wB wP wT wJ wL wM wC wN wG wE wD wF wH wI m (IntKind.wrap .i64 (wO+(1:Int))) wR))
       none)
      (mq N n x0 wB wP wT wJ wL wM wC wN wG wE wD wF wH wI m (IntKind.wrap .i64 (wO+(1:Int))) wR))
     none)
    none)
   (x0 wO (decide (wO<wT)) wR))
theorem SB {R:Type} (N:Nat) (n:Nat) (k':Kx R) (wB:List BA) (wP:List BA) (wT:Int) (wO:Int) (wJ:Int) (wL:Int) (wM:BA) (wC:List BA) (wN:List ae) (wG:Int) (wE:List BA) (wD:List af) (wF:List Bool) (wH:Int) (wI:Int) (wR:List BA):ev (dc N) gn n (bl [1,1,1,1,1,0,1,0,0] fZ) (yD wB wP wT wO wJ wL wM wC wN wG wE wD wF wH wI wR) k'=
 (cond (decide (wO<wT))
 (cond ((decide ((0:Int)≤wO))&&(decide (wO<(wP.length:Int))))
 (cond ((decide ((0:Int)≤wO))&&(decide (wO<(wF.length:Int))))
 (cond (ar (t:= .bool) wF (Int.toNat wO))
 (cond ((fun (x:List BA) (_:BA)=>fW x) wC (ar (t:= .str) wP (Int.toNat wO)))
 (cond (!(rG wC (ar (t:= .str) wP (Int.toNat wO))))
 (cond ((fun (x:List BA)=>Nat.ble x.length bT) wB)
 (cond (Nat.ble (wB.length+1) bT)
 (cond (k7 (wB++([(ar (t:= .str) wP (Int.toNat wO))]:List BA)))
 (cond (Nat.ble (wR.length+1) bT)
 (k' .normal (yD wB wP wT (IntKind.wrap .i64 (wO+(1:Int))) wJ wL wM wC wN wG wE wD wF wH wI (wR++([(aL (wB++([(ar (t:= .str) wP (Int.toNat wO))]:List BA)))]:List BA))))
 none)
 none)
 none)
 none)
 (k' .normal (yD wB wP wT (IntKind.wrap .i64 (wO+(1:Int))) wJ wL wM wC wN wG wE wD wF wH wI wR)))
 none)
 (k' .normal (yD wB wP wT (IntKind.wrap .i64 (wO+(1:Int))) wJ wL wM wC wN wG wE wD wF wH wI wR)))
 none)
 none)
 (k' (.exit 4) (N5 wB wP wT wO (decide (wO<wT)) wJ wL wM wC wN wG wE wD wF wH wI wR))):=by kernel_rfl
theorem Cs {R:Type} (N:Nat) (n:Nat) (k':Kx R) (wB:List BA) (wP:List BA) (wT:Int) (wJ:Int) (wL:Int) (wM:BA) (wC:List BA) (wN:List ae) (wG:Int) (wE:List BA) (wD:List af) (wF:List Bool) (wH:Int) (wI:Int):∀(m:Nat) (wO:Int) (wR:List BA),iter (fun st k=>ev (dc N) gn n (bl [1,1,1,1,1,0,1,0,0] fZ) st k) m (yD wB wP wT wO wJ wL wM wC wN wG wE wD wF wH wI wR) k'=mq N n (fun (wW:Int) (wX:Bool) (wU:List BA)=>k' (.exit 4) (N5 wB wP wT wW wX wJ wL wM wC wN wG wE wD wF wH wI wU)) wB wP wT wJ wL wM wC wN wG wE wD wF wH wI m wO wR:=by
 intro m;induction m with
 | zero=>intros;rfl
 | succ m ih=>
  intro wO wR
  simp only [iter]
  rw [SB]
  simp only [ih,mq]
noncomputable def Uy {R:Type} (N:Nat) (n:Nat) (k':Kx R):Kx R:=(bZ 4 (dS (dc N) gn n (bl [1,1,1,1,1,1] fZ) k'))
theorem Ct {R:Type} (N:Nat) (n:Nat) (k:Kt R) (a0:ae) (a1:af) (a2:List BA) (wB:List BA) (wP:List BA) (wT:Int) (wJ:Int) (wL:Int) (wM:BA) (wC:List BA) (wN:List ae) (wG:Int) (wE:List BA) (wD:List af) (wF:List Bool) (wH:Int) (wI:Int) (wW:Int) (wX:Bool) (wU:List BA):Uy N n (aC (dc N) [.ro,.ro,.ro] [false] true [.tmp 6] [22] [.d .node a0,.d .aq a1,.d (.sl .str) a2] k) (.exit 4) (N5 wB wP wT wW wX wJ wL wM wC wN wG wE wD wF wH wI wU)=
 (k [.d (.sl .str) wU]):=by kernel_rfl
noncomputable def sP {R:Type} (N:Nat) (n:Nat) (k':Kx R):Kx R:=(bZ 1 (dS (dc N) gn n (bl [1,1,1,1,1] fZ) k'))
theorem N9 {R:Type} (N:Nat) (n:Nat) (k:Kt R) (a0:ae) (a1:af) (a2:List BA) (wB:List BA) (wK:List ae) (wQ:Int) (wJ:Int) (wL:Int) (wM:BA) (wC:List BA) (wN:List ae) (wG:Int) (wE:List BA) (wD:List af) (wF:List Bool) (wH:Int) (wI:Int) (wY:Int) (wZ:Bool) (wU:List BA):sP N n (aC (dc N) [.ro,.ro,.ro] [false] true [.tmp 6] [22] [.d .node a0,.d .aq a1,.d (.sl .str) a2] k) (.exit 1) (N4 wB wK wQ wY wZ wJ wL wM wC wN wG wE wD wF wH wI wU)=
 (mq N n (fun (wW:Int) (wX:Bool) (wU:List BA)=>
 (k [.d (.sl .str) wU])) wB wE (wE.length:Int) wJ wL wM wC wN wG wE wD wF wH wI n (0:Int) wU):=by
 refine Eq.trans (b:=(iter (fun st k=>ev (dc N) gn n (bl [1,1,1,1,1,0,1,0,0] fZ) st k) n (yD wB wE (wE.length:Int) (0:Int) wJ wL wM wC wN wG wE wD wF wH wI wU) (Uy N n (aC (dc N) [.ro,.ro,.ro] [false] true [.tmp 6] [22] [.d .node a0,.d .aq a1,.d (.sl .str) a2] k)))) (by kernel_rfl) ?_
 simp only [Cs,Ct]
noncomputable def jS {R:Type} (N:Nat) (n:Nat) (x0:Int→Bool→(List BA)→Option R) (wB:List BA) (wK:List ae) (wQ:Int) (wJ:Int) (wL:Int) (wM:BA) (wC:List BA) (wN:List ae) (wG:Int) (wE:List BA) (wD:List af) (wF:List Bool) (wH:Int) (wI:Int):Nat→Int→(List BA)→Option R
  | 0,_,_=>none
  | m+1,wA,wS=>
    (cond (decide (wA<wQ))
   (cond ((decide ((0:Int)≤wA))&&(decide (wA<(wK.length:Int))))
    (cond (wJ==(4:Int))
     (cond (decide ((0:Int)<(wD.length:Int)))
      (cond ((fun (x:List BA)=>Nat.ble x.length bT) wB)
       (cond (gL wA)
        (cond (Nat.ble (wB.length+1) bT)
         (cond ((fD (eN (ar (t:= .node) wK (Int.toNat wA))) (eR (ar (t:= .aq) wD 0)) (wB++([(cj wA)]:List BA)))&&(Nat.blt ((fun (t:ae) (_:af) (_:List BA)=>ao t) (eN (ar (t:= .node) wK (Int.toNat wA))) (eR (ar (t:= .aq) wD 0)) (wB++([(cj wA)]:List BA))) N))
          (cond (Nat.ble (wS.length+((cO aL) (eN (ar (t:= .node) wK (Int.toNat wA))) (eR (ar (t:= .aq) wD 0)) (wB++([(cj wA)]:List BA))).length) bT)
           (jS N n x0 wB wK wQ wJ wL wM wC wN wG wE wD wF wH wI m (IntKind.wrap .i64 (wA+(1:Int))) (wS++((cO aL) (eN (ar (t:= .node) wK (Int.toNat wA))) (eR (ar (t:= .aq) wD 0)) (wB++([(cj wA)]:List BA)))))
           none)
          none)
         none)
        none)
       none)
      none)
     (cond (wJ==(5:Int))
      (cond (decide (wA≥(wC.length:Int)))
       (jS N n x0 wB wK wQ wJ wL wM wC wN wG wE wD wF wH wI m (IntKind.wrap .i64 (wA+(1:Int))) wS)
       (cond ((fun (x:List BA)=>Nat.ble x.length bT) wB)
        (cond ((decide ((0:Int)≤wA))&&(decide (wA<(wC.length:Int))))
         (cond (Nat.ble (wB.length+1) bT)
          (cond ((decide ((0:Int)≤wA))&&(decide (wA<(wC.length:Int))))
           (cond (BV (⟨wG,wE,wD,wF,wH,wI⟩:af) (ar (t:= .str) wC (Int.toNat wA)))
            (cond ((bI (⟨wG,wE,wD,wF,wH,wI⟩:af) (ar (t:= .str) wC (Int.toNat wA))).2)
             (cond ((fD (eN (ar (t:= .node) wK (Int.toNat wA))) (eR ((bI (⟨wG,wE,wD,wF,wH,wI⟩:af) (ar (t:= .str) wC (Int.toNat wA))).1)) (wB++([(ar (t:= .str) wC (Int.toNat wA))]:List BA)))&&(Nat.blt ((fun (t:ae) (_:af) (_:List BA)=>ao t) (eN (ar (t:= .node) wK (Int.toNat wA))) (eR ((bI (⟨wG,wE,wD,wF,wH,wI⟩:af) (ar (t:= .str) wC (Int.toNat wA))).1)) (wB++([(ar (t:= .str) wC (Int.toNat wA))]:List BA))) N))
              (cond (Nat.ble (wS.length+((cO aL) (eN (ar (t:= .node) wK (Int.toNat wA))) (eR ((bI (⟨wG,wE,wD,wF,wH,wI⟩:af) (ar (t:= .str) wC (Int.toNat wA))).1)) (wB++([(ar (t:= .str) wC (Int.toNat wA))]:List BA))).length) bT)
               (jS N n x0 wB wK wQ wJ wL wM wC wN wG wE wD wF wH wI m (IntKind.wrap .i64 (wA+(1:Int))) (wS++((cO aL) (eN (ar (t:= .node) wK (Int.toNat wA))) (eR ((bI (⟨wG,wE,wD,wF,wH,wI⟩:af) (ar (t:= .str) wC (Int.toNat wA))).1)) (wB++([(ar (t:= .str) wC (Int.toNat wA))]:List BA)))))
               none)
              none)
             (cond (k7 (wB++([(ar (t:= .str) wC (Int.toNat wA))]:List BA)))
              (cond (Nat.ble (wS.length+1) bT)
               (jS N n x0 wB wK wQ wJ wL wM wC wN wG wE wD wF wH wI m (IntKind.wrap .i64 (wA+(1:Int))) (wS++([(aL (wB++([(ar (t:= .str) wC (Int.toNat wA))]:List BA)))]:List BA)))
               none)
              none))
            none)
           none)
          none)
         none)
        none))
      (jS N n x0 wB wK wQ wJ wL wM wC wN wG wE wD wF wH wI m (IntKind.wrap .i64 (wA+(1:Int))) wS)))
    none)
   (x0 wA (decide (wA<wQ)) wS))
theorem SC {R:Type} (N:Nat) (n:Nat) (k':Kx R) (wB:List BA) (wK:List ae) (wQ:Int) (wA:Int) (wJ:Int) (wL:Int) (wM:BA) (wC:List BA) (wN:List ae) (wG:Int) (wE:List BA) (wD:List af) (wF:List Bool) (wH:Int) (wI:Int) (wS:List BA):ev (dc N) gn n (bl [1,1,1,1,0,1,0,0] fZ) (iS wB wK wQ wA wJ wL wM wC wN wG wE wD wF wH wI wS) k'=
 (cond (decide (wA<wQ))
 (cond ((decide ((0:Int)≤wA))&&(decide (wA<(wK.length:Int))))
 (cond (wJ==(4:Int))
 (cond (decide ((0:Int)<(wD.length:Int)))
 (cond ((fun (x:List BA)=>Nat.ble x.length bT) wB)
 (cond (gL wA)
 (cond (Nat.ble (wB.length+1) bT)
 (cond ((fD (eN (ar (t:= .node) wK (Int.toNat wA))) (eR (ar (t:= .aq) wD 0)) (wB++([(cj wA)]:List BA)))&&(Nat.blt ((fun (t:ae) (_:af) (_:List BA)=>ao t) (eN (ar (t:= .node) wK (Int.toNat wA))) (eR (ar (t:= .aq) wD 0)) (wB++([(cj wA)]:List BA))) N))
 (cond (Nat.ble (wS.length+((cO aL) (eN (ar (t:= .node) wK (Int.toNat wA))) (eR (ar (t:= .aq) wD 0)) (wB++([(cj wA)]:List BA))).length) bT)
 (k' .normal (iS wB wK wQ (IntKind.wrap .i64 (wA+(1:Int))) wJ wL wM wC wN wG wE wD wF wH wI (wS++((cO aL) (eN (ar (t:= .node) wK (Int.toNat wA))) (eR (ar (t:= .aq) wD 0)) (wB++([(cj wA)]:List BA))))))
 none)
 none)
 none)
 none)
 none)
 none)
 (cond (wJ==(5:Int))
 (cond (decide (wA≥(wC.length:Int)))
 (k' .normal (iS wB wK wQ (IntKind.wrap .i64 (wA+(1:Int))) wJ wL wM wC wN wG wE wD wF wH wI wS))
 (cond ((fun (x:List BA)=>Nat.ble x.length bT) wB)
 (cond ((decide ((0:Int)≤wA))&&(decide (wA<(wC.length:Int))))
 (cond (Nat.ble (wB.length+1) bT)
 (cond ((decide ((0:Int)≤wA))&&(decide (wA<(wC.length:Int))))
 (cond (BV (⟨wG,wE,wD,wF,wH,wI⟩:af) (ar (t:= .str) wC (Int.toNat wA)))
 (cond ((bI (⟨wG,wE,wD,wF,wH,wI⟩:af) (ar (t:= .str) wC (Int.toNat wA))).2)
 (cond ((fD (eN (ar (t:= .node) wK (Int.toNat wA))) (eR ((bI (⟨wG,wE,wD,wF,wH,wI⟩:af) (ar (t:= .str) wC (Int.toNat wA))).1)) (wB++([(ar (t:= .str) wC (Int.toNat wA))]:List BA)))&&(Nat.blt ((fun (t:ae) (_:af) (_:List BA)=>ao t) (eN (ar (t:= .node) wK (Int.toNat wA))) (eR ((bI (⟨wG,wE,wD,wF,wH,wI⟩:af) (ar (t:= .str) wC (Int.toNat wA))).1)) (wB++([(ar (t:= .str) wC (Int.toNat wA))]:List BA))) N))
 (cond (Nat.ble (wS.length+((cO aL) (eN (ar (t:= .node) wK (Int.toNat wA))) (eR ((bI (⟨wG,wE,wD,wF,wH,wI⟩:af) (ar (t:= .str) wC (Int.toNat wA))).1)) (wB++([(ar (t:= .str) wC (Int.toNat wA))]:List BA))).length) bT)
 (k' .normal (iS wB wK wQ (IntKind.wrap .i64 (wA+(1:Int))) wJ wL wM wC wN wG wE wD wF wH wI (wS++((cO aL) (eN (ar (t:= .node) wK (Int.toNat wA))) (eR ((bI (⟨wG,wE,wD,wF,wH,wI⟩:af) (ar (t:= .str) wC (Int.toNat wA))).1)) (wB++([(ar (t:= .str) wC (Int.toNat wA))]:List BA))))))
 none)
 none)
 (cond (k7 (wB++([(ar (t:= .str) wC (Int.toNat wA))]:List BA)))
 (cond (Nat.ble (wS.length+1) bT)
 (k' .normal (iS wB wK wQ (IntKind.wrap .i64 (wA+(1:Int))) wJ wL wM wC wN wG wE wD wF wH wI (wS++([(aL (wB++([(ar (t:= .str) wC (Int.toNat wA))]:List BA)))]:List BA))))
 none)
 none))
 none)
 none)
 none)
 none)
 none))
 (k' .normal (iS wB wK wQ (IntKind.wrap .i64 (wA+(1:Int))) wJ wL wM wC wN wG wE wD wF wH wI wS))))
 none)
 (k' (.exit 1) (N6 wB wK wQ wA (decide (wA<wQ)) wJ wL wM wC wN wG wE wD wF wH wI wS))):=by kernel_rfl
theorem N' {R:Type} (N:Nat) (n:Nat) (k':Kx R) (wB:List BA) (wK:List ae) (wQ:Int) (wJ:Int) (wL:Int) (wM:BA) (wC:List BA) (wN:List ae) (wG:Int) (wE:List BA) (wD:List af) (wF:List Bool) (wH:Int) (wI:Int):∀(m:Nat) (wA:Int) (wS:List BA),iter (fun st k=>ev (dc N) gn n (bl [1,1,1,1,0,1,0,0] fZ) st k) m (iS wB wK wQ wA wJ wL wM wC wN wG wE wD wF wH wI wS) k'=jS N n (fun (wY:Int) (wZ:Bool) (wV:List BA)=>k' (.exit 1) (N6 wB wK wQ wY wZ wJ wL wM wC wN wG wE wD wF wH wI wV)) wB wK wQ wJ wL wM wC wN wG wE wD wF wH wI m wA wS:=by
 intro m;induction m with
 | zero=>intros;rfl
 | succ m ih=>
  intro wA wS
  simp only [iter]
  rw [SC]
  simp only [ih,jS]
noncomputable def mr {R:Type} (N:Nat) (n:Nat) (x0:Int→Bool→(List BA)→Option R) (wB:List BA) (wP:List BA) (wT:Int) (wJ:Int) (wL:Int) (wM:BA) (wC:List BA) (wN:List ae) (wG:Int) (wE:List BA) (wD:List af) (wF:List Bool) (wH:Int) (wI:Int):Nat→Int→(List BA)→Option R
  | 0,_,_=>none
  | m+1,wO,wS=>
    (cond (decide (wO<wT))
   (cond ((decide ((0:Int)≤wO))&&(decide (wO<(wP.length:Int))))
    (cond ((decide ((0:Int)≤wO))&&(decide (wO<(wF.length:Int))))
     (cond (ar (t:= .bool) wF (Int.toNat wO))
      (cond ((fun (x:List BA) (_:BA)=>fW x) wC (ar (t:= .str) wP (Int.toNat wO)))
       (cond (!(rG wC (ar (t:= .str) wP (Int.toNat wO))))
        (cond ((fun (x:List BA)=>Nat.ble x.length bT) wB)
         (cond (Nat.ble (wB.length+1) bT)
          (cond (k7 (wB++([(ar (t:= .str) wP (Int.toNat wO))]:List BA)))
           (cond (Nat.ble (wS.length+1) bT)
            (mr N n x0 wB wP wT wJ wL wM wC wN wG wE wD wF wH wI m (IntKind.wrap .i64 (wO+(1:Int))) (wS++([(aL (wB++([(ar (t:= .str) wP (Int.toNat wO))]:List BA)))]:List BA)))
            none)
           none)
          none)
         none)
        (mr N n x0 wB wP wT wJ wL wM wC wN wG wE wD wF wH wI m (IntKind.wrap .i64 (wO+(1:Int))) wS))
       none)
      (mr N n x0 wB wP wT wJ wL wM wC wN wG wE wD wF wH wI m (IntKind.wrap .i64 (wO+(1:Int))) wS))
     none)
    none)
   (x0 wO (decide (wO<wT)) wS))
theorem SD {R:Type} (N:Nat) (n:Nat) (k':Kx R) (wB:List BA) (wP:List BA) (wT:Int) (wO:Int) (wJ:Int) (wL:Int) (wM:BA) (wC:List BA) (wN:List ae) (wG:Int) (wE:List BA) (wD:List af) (wF:List Bool) (wH:Int) (wI:Int) (wS:List BA):ev (dc N) gn n (bl [1,1,1,1,1,0,1,0,0] fZ) (yE wB wP wT wO wJ wL wM wC wN wG wE wD wF wH wI wS) k'=
 (cond (decide (wO<wT))
 (cond ((decide ((0:Int)≤wO))&&(decide (wO<(wP.length:Int))))
 (cond ((decide ((0:Int)≤wO))&&(decide (wO<(wF.length:Int))))
 (cond (ar (t:= .bool) wF (Int.toNat wO))
 (cond ((fun (x:List BA) (_:BA)=>fW x) wC (ar (t:= .str) wP (Int.toNat wO)))
 (cond (!(rG wC (ar (t:= .str) wP (Int.toNat wO))))
 (cond ((fun (x:List BA)=>Nat.ble x.length bT) wB)
 (cond (Nat.ble (wB.length+1) bT)
 (cond (k7 (wB++([(ar (t:= .str) wP (Int.toNat wO))]:List BA)))
 (cond (Nat.ble (wS.length+1) bT)
 (k' .normal (yE wB wP wT (IntKind.wrap .i64 (wO+(1:Int))) wJ wL wM wC wN wG wE wD wF wH wI (wS++([(aL (wB++([(ar (t:= .str) wP (Int.toNat wO))]:List BA)))]:List BA))))
 none)
 none)
 none)
 none)
 (k' .normal (yE wB wP wT (IntKind.wrap .i64 (wO+(1:Int))) wJ wL wM wC wN wG wE wD wF wH wI wS)))
 none)
 (k' .normal (yE wB wP wT (IntKind.wrap .i64 (wO+(1:Int))) wJ wL wM wC wN wG wE wD wF wH wI wS)))
 none)
 none)
 (k' (.exit 4) (N7 wB wP wT wO (decide (wO<wT)) wJ wL wM wC wN wG wE wD wF wH wI wS))):=by kernel_rfl
theorem Cu {R:Type} (N:Nat) (n:Nat) (k':Kx R) (wB:List BA) (wP:List BA) (wT:Int) (wJ:Int) (wL:Int) (wM:BA) (wC:List BA) (wN:List ae) (wG:Int) (wE:List BA) (wD:List af) (wF:List Bool) (wH:Int) (wI:Int):∀(m:Nat) (wO:Int) (wS:List BA),iter (fun st k=>ev (dc N) gn n (bl [1,1,1,1,1,0,1,0,0] fZ) st k) m (yE wB wP wT wO wJ wL wM wC wN wG wE wD wF wH wI wS) k'=mr N n (fun (wW:Int) (wX:Bool) (wV:List BA)=>k' (.exit 4) (N7 wB wP wT wW wX wJ wL wM wC wN wG wE wD wF wH wI wV)) wB wP wT wJ wL wM wC wN wG wE wD wF wH wI m wO wS:=by
 intro m;induction m with
 | zero=>intros;rfl
 | succ m ih=>
  intro wO wS
  simp only [iter]
  rw [SD]
  simp only [ih,mr]
noncomputable def Uz {R:Type} (N:Nat) (n:Nat) (k':Kx R):Kx R:=(bZ 4 (dS (dc N) gn n (bl [1,1,1,1,1,1] fZ) k'))
theorem Cw {R:Type} (N:Nat) (n:Nat) (k:Kt R) (a0:ae) (a1:af) (a2:List BA) (wB:List BA) (wP:List BA) (wT:Int) (wJ:Int) (wL:Int) (wM:BA) (wC:List BA) (wN:List ae) (wG:Int) (wE:List BA) (wD:List af) (wF:List Bool) (wH:Int) (wI:Int) (wW:Int) (wX:Bool) (wV:List BA):Uz N n (aC (dc N) [.ro,.ro,.ro] [false] true [.tmp 6] [22] [.d .node a0,.d .aq a1,.d (.sl .str) a2] k) (.exit 4) (N7 wB wP wT wW wX wJ wL wM wC wN wG wE wD wF wH wI wV)=
 (k [.d (.sl .str) wV]):=by kernel_rfl
noncomputable def np {R:Type} (N:Nat) (n:Nat) (k':Kx R):Kx R:=(bZ 1 (dS (dc N) gn n (bl [1,1,1,1,1] fZ) k'))
theorem Oa {R:Type} (N:Nat) (n:Nat) (k:Kt R) (a0:ae) (a1:af) (a2:List BA) (wB:List BA) (wK:List ae) (wQ:Int) (wJ:Int) (wL:Int) (wM:BA) (wC:List BA) (wN:List ae) (wG:Int) (wE:List BA) (wD:List af) (wF:List Bool) (wH:Int) (wI:Int) (wY:Int) (wZ:Bool) (wV:List BA):np N n (aC (dc N) [.ro,.ro,.ro] [false] true [.tmp 6] [22] [.d .node a0,.d .aq a1,.d (.sl .str) a2] k) (.exit 1) (N6 wB wK wQ wY wZ wJ wL wM wC wN wG wE wD wF wH wI wV)=
 (mr N n (fun (wW:Int) (wX:Bool) (wV:List BA)=>
 (k [.d (.sl .str) wV])) wB wE (wE.length:Int) wJ wL wM wC wN wG wE wD wF wH wI n (0:Int) wV):=by
 refine Eq.trans (b:=(iter (fun st k=>ev (dc N) gn n (bl [1,1,1,1,1,0,1,0,0] fZ) st k) n (yE wB wE (wE.length:Int) (0:Int) wJ wL wM wC wN wG wE wD wF wH wI wV) (Uz N n (aC (dc N) [.ro,.ro,.ro] [false] true [.tmp 6] [22] [.d .node a0,.d .aq a1,.d (.sl .str) a2] k)))) (by kernel_rfl) ?_
 simp only [Cu,Cw]
noncomputable def xu {R:Type} (N:Nat) (n:Nat) (k:Kt R) (a0:ae) (a1:af) (a2:List BA):Option R:=(jR N n (fun (wY:Int) (wZ:Bool) (wU:List BA)=>(mq N n (fun (wW:Int) (wX:Bool) (wU:List BA)=>(k [.d (.sl .str) wU])) a2 (af.keys a1) ((af.keys a1).length:Int) (ae.kind a0) (ae.n a0) (ae.s a0) (ae.keys a0) (ae.kids a0) (af.kind a1) (af.keys a1) (af.kids a1) (af.need a1) (af.low a1) (af.high a1) n (0:Int) wU)) a2 (ae.kids a0) ((ae.kids a0).length:Int) (ae.kind a0) (ae.n a0) (ae.s a0) (ae.keys a0) (ae.kids a0) (af.kind a1) (af.keys a1) (af.kids a1) (af.need a1) (af.low a1) (af.high a1) n (0:Int) [(aL a2)])
noncomputable def qZ {R:Type} (N:Nat) (n:Nat) (k:Kt R) (a0:ae) (a1:af) (a2:List BA):Option R:=(jS N n (fun (wY:Int) (wZ:Bool) (wV:List BA)=>(mr N n (fun (wW:Int) (wX:Bool) (wV:List BA)=>(k [.d (.sl .str) wV])) a2 (af.keys a1) ((af.keys a1).length:Int) (ae.kind a0) (ae.n a0) (ae.s a0) (ae.keys a0) (ae.kids a0) (af.kind a1) (af.keys a1) (af.kids a1) (af.need a1) (af.low a1) (af.high a1) n (0:Int) wV)) a2 (ae.kids a0) ((ae.kids a0).length:Int) (ae.kind a0) (ae.n a0) (ae.s a0) (ae.keys a0) (ae.kids a0) (af.kind a1) (af.keys a1) (af.kids a1) (af.need a1) (af.low a1) (af.high a1) n (0:Int) ([]:List BA))
theorem SE {R:Type} (N:Nat) (n:Nat) (k:Kt R) (a0:ae) (a1:af) (a2:List BA):aM (dc N) gn n fZ [.ro,.ro,.ro] [false] true [.tmp 6] [22] [.d .node a0,.d .aq a1,.d (.sl .str) a2] k=(cond (k7 a2) (cond ((af.kind a1)==(-1:Int)) (k [.d (.sl .str) ([]:List BA)]) (cond ((ae.kind a0) !=(af.kind a1)) (k [.d (.sl .str) ([(aL a2)]:List BA)]) (cond ((ae.kind a0)==(2:Int)) (cond (!(gZ (ae.n a0) (af.low a1) (af.high a1))) (cond (!(gZ (ae.n a0) (af.low a1) (af.high a1))) (xu N n k a0 a1 a2) (qZ N n k a0 a1 a2)) (cond ((ae.kind a0)==(3:Int)) (cond (!(gZ (ByteArray.size (ae.s a0):Int) (af.low a1) (af.high a1))) (cond (!(gZ (ByteArray.size (ae.s a0):Int) (af.low a1) (af.high a1))) (xu N n k a0 a1 a2) (qZ N n k a0 a1 a2)) (cond ((ae.kind a0)==(4:Int)) (cond (!(gZ ((ae.kids a0).length:Int) (af.low a1) (af.high a1))) (xu N n k a0 a1 a2) (qZ N n k a0 a1 a2)) (qZ N n k a0 a1 a2))) (cond ((ae.kind a0)==(4:Int)) (cond (!(gZ ((ae.kids a0).length:Int) (af.low a1) (af.high a1))) (xu N n k a0 a1 a2) (qZ N n k a0 a1 a2)) (qZ N n k a0 a1 a2)))) (cond ((ae.kind a0)==(3:Int)) (cond (!(gZ (ByteArray.size (ae.s a0):Int) (af.low a1) (af.high a1))) (cond (!(gZ (ByteArray.size (ae.s a0):Int) (af.low a1) (af.high a1))) (xu N n k a0 a1 a2) (qZ N n k a0 a1 a2)) (cond ((ae.kind a0)==(4:Int)) (cond (!(gZ ((ae.kids a0).length:Int) (af.low a1) (af.high a1))) (xu N n k a0 a1 a2) (qZ N n k a0 a1 a2)) (qZ N n k a0 a1 a2))) (cond ((ae.kind a0)==(4:Int)) (cond (!(gZ ((ae.kids a0).length:Int) (af.low a1) (af.high a1))) (xu N n k a0 a1 a2) (qZ N n k a0 a1 a2)) (qZ N n k a0 a1 a2)))))) none):=by
  refine Eq.trans (b:=(cond (k7 a2)
  (cond ((af.kind a1)==(-1:Int))
   (k [.d (.sl .str) ([]:List BA)])
   (cond ((ae.kind a0) !=(af.kind a1))
    (k [.d (.sl .str) ([(aL a2)]:List BA)])
    (cond ((ae.kind a0)==(2:Int))
     (cond (!(gZ (ae.n a0) (af.low a1) (af.high a1)))
      (cond (!(gZ (ae.n a0) (af.low a1) (af.high a1)))
       (iter (fun st k=>ev (dc N) gn n (bl [1,1,1,1,0,1,0,0] fZ) st k) n (lh a2 (ae.kids a0) ((ae.kids a0).length:Int) (0:Int) (ae.kind a0) (ae.n a0) (ae.s a0) (ae.keys a0) (ae.kids a0) (af.kind a1) (af.keys a1) (af.kids a1) (af.need a1) (af.low a1) (af.high a1) ([(aL a2)]:List BA)) (sP N n (aC (dc N) [.ro,.ro,.ro] [false] true [.tmp 6] [22] [.d .node a0,.d .aq a1,.d (.sl .str) a2] k)))
       (iter (fun st k=>ev (dc N) gn n (bl [1,1,1,1,0,1,0,0] fZ) st k) n (iS a2 (ae.kids a0) ((ae.kids a0).length:Int) (0:Int) (ae.kind a0) (ae.n a0) (ae.s a0) (ae.keys a0) (ae.kids a0) (af.kind a1) (af.keys a1) (af.kids a1) (af.need a1) (af.low a1) (af.high a1) ([]:List BA)) (np N n (aC (dc N) [.ro,.ro,.ro] [false] true [.tmp 6] [22] [.d .node a0,.d .aq a1,.d (.sl .str) a2] k))))
      (cond ((ae.kind a0)==(3:Int))
       (cond (!(gZ (ByteArray.size (ae.s a0):Int) (af.low a1) (af.high a1)))
        (cond (!(gZ (ByteArray.size (ae.s a0):Int) (af.low a1) (af.high a1)))
         (iter (fun st k=>ev (dc N) gn n (bl [1,1,1,1,0,1,0,0] fZ) st k) n (lh a2 (ae.kids a0) ((ae.kids a0).length:Int) (0:Int) (ae.kind a0) (ae.n a0) (ae.s a0) (ae.keys a0) (ae.kids a0) (af.kind a1) (af.keys a1) (af.kids a1) (af.need a1) (af.low a1) (af.high a1) ([(aL a2)]:List BA)) (sP N n (aC (dc N) [.ro,.ro,.ro] [false] true [.tmp 6] [22] [.d .node a0,.d .aq a1,.d (.sl .str) a2] k)))
         (iter (fun st k=>ev (dc N) gn n (bl [1,1,1,1,0,1,0,0] fZ) st k) n (iS a2 (ae.kids a0) ((ae.kids a0).length:Int) (0:Int) (ae.kind a0) (ae.n a0) (ae.s a0) (ae.keys a0) (ae.kids a0) (af.kind a1) (af.keys a1) (af.kids a1) (af.need a1) (af.low a1) (af.high a1) ([]:List BA)) (np N n (aC (dc N) [.ro,.ro,.ro] [false] true [.tmp 6] [22] [.d .node a0,.d .aq a1,.d (.sl .str) a2] k))))
        (cond ((ae.kind a0)==(4:Int))
         (cond (!(gZ ((ae.kids a0).length:Int) (af.low a1) (af.high a1)))
          (iter (fun st k=>ev (dc N) gn n (bl [1,1,1,1,0,1,0,0] fZ) st k) n (lh a2 (ae.kids a0) ((ae.kids a0).length:Int) (0:Int) (ae.kind a0) (ae.n a0) (ae.s a0) (ae.keys a0) (ae.kids a0) (af.kind a1) (af.keys a1) (af.kids a1) (af.need a1) (af.low a1) (af.high a1) ([(aL a2)]:List BA)) (sP N n (aC (dc N) [.ro,.ro,.ro] [false] true [.tmp 6] [22] [.d .node a0,.d .aq a1,.d (.sl .str) a2] k)))
          (iter (fun st k=>ev (dc N) gn n (bl [1,1,1,1,0,1,0,0] fZ) st k) n (iS a2 (ae.kids a0) ((ae.kids a0).length:Int) (0:Int) (ae.kind a0) (ae.n a0) (ae.s a0) (ae.keys a0) (ae.kids a0) (af.kind a1) (af.keys a1) (af.kids a1) (af.need a1) (af.low a1) (af.high a1) ([]:List BA)) (np N n (aC (dc N) [.ro,.ro,.ro] [false] true [.tmp 6] [22] [.d .node a0,.d .aq a1,.d (.sl .str) a2] k))))
         (iter (fun st k=>ev (dc N) gn n (bl [1,1,1,1,0,1,0,0] fZ) st k) n (iS a2 (ae.kids a0) ((ae.kids a0).length:Int) (0:Int) (ae.kind a0) (ae.n a0) (ae.s a0) (ae.keys a0) (ae.kids a0) (af.kind a1) (af.keys a1) (af.kids a1) (af.need a1) (af.low a1) (af.high a1) ([]:List BA)) (np N n (aC (dc N) [.ro,.ro,.ro] [false] true [.tmp 6] [22] [.d .node a0,.d .aq a1,.d (.sl .str) a2] k)))))
       (cond ((ae.kind a0)==(4:Int))
        (cond (!(gZ ((ae.kids a0).length:Int) (af.low a1) (af.high a1)))
         (iter (fun st k=>ev (dc N) gn n (bl [1,1,1,1,0,1,0,0] fZ) st k) n (lh a2 (ae.kids a0) ((ae.kids a0).length:Int) (0:Int) (ae.kind a0) (ae.n a0) (ae.s a0) (ae.keys a0) (ae.kids a0) (af.kind a1) (af.keys a1) (af.kids a1) (af.need a1) (af.low a1) (af.high a1) ([(aL a2)]:List BA)) (sP N n (aC (dc N) [.ro,.ro,.ro] [false] true [.tmp 6] [22] [.d .node a0,.d .aq a1,.d (.sl .str) a2] k)))
         (iter (fun st k=>ev (dc N) gn n (bl [1,1,1,1,0,1,0,0] fZ) st k) n (iS a2 (ae.kids a0) ((ae.kids a0).length:Int) (0:Int) (ae.kind a0) (ae.n a0) (ae.s a0) (ae.keys a0) (ae.kids a0) (af.kind a1) (af.keys a1) (af.kids a1) (af.need a1) (af.low a1) (af.high a1) ([]:List BA)) (np N n (aC (dc N) [.ro,.ro,.ro] [false] true [.tmp 6] [22] [.d .node a0,.d .aq a1,.d (.sl .str) a2] k))))
        (iter (fun st k=>ev (dc N) gn n (bl [1,1,1,1,0,1,0,0] fZ) st k) n (iS a2 (ae.kids a0) ((ae.kids a0).length:Int) (0:Int) (ae.kind a0) (ae.n a0) (ae.s a0) (ae.keys a0) (ae.kids a0) (af.kind a1) (af.keys a1) (af.kids a1) (af.need a1) (af.low a1) (af.high a1) ([]:List BA)) (np N n (aC (dc N) [.ro,.ro,.ro] [false] true [.tmp 6] [22] [.d .node a0,.d .aq a1,.d (.sl .str) a2] k))))))
     (cond ((ae.kind a0)==(3:Int))
      (cond (!(gZ (ByteArray.size (ae.s a0):Int) (af.low a1) (af.high a1)))
       (cond (!(gZ (ByteArray.size (ae.s a0):Int) (af.low a1) (af.high a1)))
        (iter (fun st k=>ev (dc N) gn n (bl [1,1,1,1,0,1,0,0] fZ) st k) n (lh a2 (ae.kids a0) ((ae.kids a0).length:Int) (0:Int) (ae.kind a0) (ae.n a0) (ae.s a0) (ae.keys a0) (ae.kids a0) (af.kind a1) (af.keys a1) (af.kids a1) (af.need a1) (af.low a1) (af.high a1) ([(aL a2)]:List BA)) (sP N n (aC (dc N) [.ro,.ro,.ro] [false] true [.tmp 6] [22] [.d .node a0,.d .aq a1,.d (.sl .str) a2] k)))
        (iter (fun st k=>ev (dc N) gn n (bl [1,1,1,1,0,1,0,0] fZ) st k) n (iS a2 (ae.kids a0) ((ae.kids a0).length:Int) (0:Int) (ae.kind a0) (ae.n a0) (ae.s a0) (ae.keys a0) (ae.kids a0) (af.kind a1) (af.keys a1) (af.kids a1) (af.need a1) (af.low a1) (af.high a1) ([]:List BA)) (np N n (aC (dc N) [.ro,.ro,.ro] [false] true [.tmp 6] [22] [.d .node a0,.d .aq a1,.d (.sl .str) a2] k))))
       (cond ((ae.kind a0)==(4:Int))
        (cond (!(gZ ((ae.kids a0).length:Int) (af.low a1) (af.high a1)))
         (iter (fun st k=>ev (dc N) gn n (bl [1,1,1,1,0,1,0,0] fZ) st k) n (lh a2 (ae.kids a0) ((ae.kids a0).length:Int) (0:Int) (ae.kind a0) (ae.n a0) (ae.s a0) (ae.keys a0) (ae.kids a0) (af.kind a1) (af.keys a1) (af.kids a1) (af.need a1) (af.low a1) (af.high a1) ([(aL a2)]:List BA)) (sP N n (aC (dc N) [.ro,.ro,.ro] [false] true [.tmp 6] [22] [.d .node a0,.d .aq a1,.d (.sl .str) a2] k)))
         (iter (fun st k=>ev (dc N) gn n (bl [1,1,1,1,0,1,0,0] fZ) st k) n (iS a2 (ae.kids a0) ((ae.kids a0).length:Int) (0:Int) (ae.kind a0) (ae.n a0) (ae.s a0) (ae.keys a0) (ae.kids a0) (af.kind a1) (af.keys a1) (af.kids a1) (af.need a1) (af.low a1) (af.high a1) ([]:List BA)) (np N n (aC (dc N) [.ro,.ro,.ro] [false] true [.tmp 6] [22] [.d .node a0,.d .aq a1,.d (.sl .str) a2] k))))
        (iter (fun st k=>ev (dc N) gn n (bl [1,1,1,1,0,1,0,0] fZ) st k) n (iS a2 (ae.kids a0) ((ae.kids a0).length:Int) (0:Int) (ae.kind a0) (ae.n a0) (ae.s a0) (ae.keys a0) (ae.kids a0) (af.kind a1) (af.keys a1) (af.kids a1) (af.need a1) (af.low a1) (af.high a1) ([]:List BA)) (np N n (aC (dc N) [.ro,.ro,.ro] [false] true [.tmp 6] [22] [.d .node a0,.d .aq a1,.d (.sl .str) a2] k)))))
      (cond ((ae.kind a0)==(4:Int))
       (cond (!(gZ ((ae.kids a0).length:Int) (af.low a1) (af.high a1)))
        (iter (fun st k=>ev (dc N) gn n (bl [1,1,1,1,0,1,0,0] fZ) st k) n (lh a2 (ae.kids a0) ((ae.kids a0).length:Int) (0:Int) (ae.kind a0) (ae.n a0) (ae.s a0) (ae.keys a0) (ae.kids a0) (af.kind a1) (af.keys a1) (af.kids a1) (af.need a1) (af.low a1) (af.high a1) ([(aL a2)]:List BA)) (sP N n (aC (dc N) [.ro,.ro,.ro] [false] true [.tmp 6] [22] [.d .node a0,.d .aq a1,.d (.sl .str) a2] k)))
        (iter (fun st k=>ev (dc N) gn n (bl [1,1,1,1,0,1,0,0] fZ) st k) n (iS a2 (ae.kids a0) ((ae.kids a0).length:Int) (0:Int) (ae.kind a0) (ae.n a0) (ae.s a0) (ae.keys a0) (ae.kids a0) (af.kind a1) (af.keys a1) (af.kids a1) (af.need a1) (af.low a1) (af.high a1) ([]:List BA)) (np N n (aC (dc N) [.ro,.ro,.ro] [false] true [.tmp 6] [22] [.d .node a0,.d .aq a1,.d (.sl .str) a2] k))))
       (iter (fun st k=>ev (dc N) gn n (bl [1,1,1,1,0,1,0,0] fZ) st k) n (iS a2 (ae.kids a0) ((ae.kids a0).length:Int) (0:Int) (ae.kind a0) (ae.n a0) (ae.s a0) (ae.keys a0) (ae.kids a0) (af.kind a1) (af.keys a1) (af.kids a1) (af.need a1) (af.low a1) (af.high a1) ([]:List BA)) (np N n (aC (dc N) [.ro,.ro,.ro] [false] true [.tmp 6] [22] [.d .node a0,.d .aq a1,.d (.sl .str) a2] k))))))))
  none)) (by kernel_rfl) ?_
  simp only [xu,qZ,N8,N9,Cs,Ct,N',Oa,Cu,Cw]
theorem Ob (N:Nat) (a0:ae) (a1:af) (a2:List BA) (hg:fD a0 a1 a2=true) (hm:W7 [.d .node a0,.d .aq a1,.d (.sl .str) a2]=N):∃aJ rounds,∀ {R:Type} (k:Kt R),aM (dc N) aJ rounds fZ [.ro,.ro,.ro] [false] true [.tmp 6] [22] [.d .node a0,.d .aq a1,.d (.sl .str) a2] k=k [.d (.sl .str) ((cO aL) a0 a1 a2)]:=by
 have hm:ao a0=N:=hm
 subst hm
 obtain ⟨hs,hr,hf,hz,kG⟩:=jf.1 hg
 obtain ⟨_,_,_,ng,mL⟩:=dr hs
 have xR:=hr
 rw [bL] at xR
 simp only [Bool.and_eq_true] at xR
 have nrk:=bp xR.2.1
 have nk:=bp mL
 have vS:=bp ng
 have gke:fW a0.keys=true:=vi ng
 have Oc:=hf
 rw [rO] at Oc
 simp only [Bool.and_eq_true,decide_eq_true_eq] at Oc
 obtain ⟨⟨eT,afP⟩,afQ⟩:=Oc
 have hpn:=lF ByteArray.size a2
 have aay:(bT:Nat)=4294967296:=rfl
 have gp:k7 a2=true:=Nat.ble_eq_true_of_le (by omega)
 have lp:Nat.ble a2.length bT=true:=Nat.ble_eq_true_of_le (by omega)
 have l1:Nat.ble (a2.length+1) bT=true:=Nat.ble_eq_true_of_le (by omega)
 have hlen:=vK hg aL
 refine ⟨gn,(a0.kids.length+a1.keys.length+1),fun {R} k=> ?_⟩
 rw [SE]
 show _=k [.d (.sl .str) (cO aL a0 a1 a2)]
 simp only [gp,cond_true]
 cases JN:(a1.kind==(-1:Int))
 rotate_left
 ·rw [ie,JN];rfl
 cases dP:(a0.kind !=a1.kind)
 rotate_left
 ·rw [ie,JN,dP];rfl
 simp only [cond_false]
 rw [DL _ _ _ _ JN dP] at hlen ⊢
 have X8:a0.kind=a1.kind:=by simpa [bne] using dP
 simp only [List.length_append] at hlen
 have hK0:∀(fin:Int→Bool→List BA→Option R) (out:List BA),out.length+(dF (fC aL a1 a2 a0.keys a0.kind) 0 a0.kids).length≤bT→jR (ao a0) (a0.kids.length+a1.keys.length+1) fin a2 a0.kids (a0.kids.length:Int) a0.kind a0.n a0.s a0.keys a0.kids a1.kind a1.keys a1.kids a1.need a1.low a1.high (a0.kids.length+a1.keys.length+1) (0:Int) out=fin (a0.kids.length:Int) false (out++dF (fC aL a1 a2 a0.keys a0.kind) 0 a0.kids):=by
  intro fin out hl
  refine Eq.trans (oP (xs:=a0.kids) (g:=fC aL a1 a2 a0.keys a0.kind) (F:=fun m j o=>jR (ao a0) (a0.kids.length+a1.keys.length+1) fin a2 a0.kids (a0.kids.length:Int) a0.kind a0.n a0.s a0.keys a0.kids a1.kind a1.keys a1.kids a1.need a1.low a1.high m (j:Int) o) (good:=fun o=>fin (a0.kids.length:Int) false o)
   (fun m j o x hx ho=> ?_) (fun m o=>by simp only [jR,gG,cond_false]) a0.kids.length 0 (a0.kids.length+a1.keys.length+1) out (by omega) (by omega) (by rw [List.drop_zero];exact hl)) (by rw [List.drop_zero])
  obtain ⟨h1,h0,hw,ht⟩:=idx (aY hx) (by omega)
  have nz:=List.mem_of_getElem? hx
  have hj:=aY hx
  have Wu:Nat.blt (ao x) (ao a0)=true:=by rw [Nat.blt_eq];exact bD nz
  have hoi:gL (j:Int)=true:=kt (by omega) (by omega)
  unfold fC at ho ⊢
  cases h4:a0.kind==(4:Int)
  ·cases h5:a0.kind==(5:Int)
   ·simp only [jR,h1,h0,hw,h4,h5,Bool.and_self,cond_true,cond_false,List.append_nil]
   ·have Tq:(a1.keys.length:Int)=(a1.kids.length:Int):=by
     unfold jB at eT
     rw [← X8,h5] at eT
     exact eq_of_beq eT
    by_cases hjk:j<a0.keys.length
    ·obtain ⟨key,hk,_⟩:=cL hjk
     obtain ⟨k1,_,_,_⟩:=idx hjk (by omega)
     have hkm:=List.mem_of_getElem? hk
     have Od:decide ((j:Int)≥(a0.keys.length:Int))=false:=decide_eq_false (by omega)
     have HL:BV a1 key=true:=by simp only [BV,Bool.and_eq_true,decide_eq_true_eq];exact ⟨hr,by omega⟩
     rw [h4,h5,Od,bz (t:= .str) hk] at ho
     by_cases hq:bg a1 key<0
     ·rw [decide_eq_true hq] at ho
      have si:Nat.ble (o.length+1) bT=true:=Nat.ble_eq_true_of_le ho
      have xe:=oQ hg (.inl hkm)
      simp only [jR,h1,h0,hw,ht,k1,lp,l1,Od,h4,h5,bz (t:= .str) hk,bN,cM,HL,bI,decide_eq_true hq,xe,si,Bool.and_self,cond_true,cond_false]
     ·rw [decide_eq_false hq] at ho
      obtain ⟨i,e,hi⟩:=je hq
      have W8:ar (t:= .aq) a1.kids i∈a1.kids:=List.mem_of_getElem? (c9 (t:= .aq) (by omega))
      have ei:Int.toNat (bg a1 key)=i:=by omega
      rw [ei] at ho
      have si:Nat.ble (o.length+(cO aL x (ar (t:= .aq) a1.kids i) (a2++[key])).length) bT=true:=Nat.ble_eq_true_of_le ho
      have EI:=mQ hg nz W8 (.inl hkm)
      simp only [jR,h1,h0,hw,ht,k1,lp,l1,Od,h4,h5,bz (t:= .str) hk,bz (t:= .node) hx,bu,cM,bN,cM,HL,bI,decide_eq_false hq,ei,EI,Wu,si,Bool.and_self,cond_true,cond_false]
    ·have Od:decide ((j:Int)≥(a0.keys.length:Int))=true:=decide_eq_true (by omega)
     simp only [jR,h1,h0,hw,Od,h4,h5,Bool.and_self,cond_true,cond_false,List.append_nil]
  ·have Ij:(1:Int)≤(a1.kids.length:Int):=by
    unfold jB at eT
    rw [← X8,eq_of_beq h4] at eT
    exact of_decide_eq_true eT
   have W0:decide ((0:Int)<(a1.kids.length:Int))=true:=decide_eq_true (by omega)
   have W8:ar (t:= .aq) a1.kids 0∈a1.kids:=List.mem_of_getElem? (c9 (t:= .aq) (by omega))
   rw [h4] at ho
   have si:Nat.ble (o.length+(cO aL x (ar (t:= .aq) a1.kids 0) (a2++[cj (j:Int)])).length) bT=true:=Nat.ble_eq_true_of_le ho
   have EI:=mQ (s:=cj (j:Int)) hg nz W8 (.inr (ib hoi))
   simp only [jR,h1,h0,hw,ht,lp,l1,h4,W0,hoi,bz (t:= .node) hx,bu,cM,EI,Wu,si,Bool.and_self,cond_true,cond_false]
 have hN1:∀(fin:Int→Bool→List BA→Option R) (out:List BA),out.length+(dF (k8 aL a2 a0.keys a1.need) 0 a1.keys).length≤bT→mq (ao a0) (a0.kids.length+a1.keys.length+1) fin a2 a1.keys (a1.keys.length:Int) a0.kind a0.n a0.s a0.keys a0.kids a1.kind a1.keys a1.kids a1.need a1.low a1.high (a0.kids.length+a1.keys.length+1) (0:Int) out=fin (a1.keys.length:Int) false (out++dF (k8 aL a2 a0.keys a1.need) 0 a1.keys):=by
  intro fin out hl
  refine Eq.trans (oP (xs:=a1.keys) (g:=k8 aL a2 a0.keys a1.need) (F:=fun m j o=>mq (ao a0) (a0.kids.length+a1.keys.length+1) fin a2 a1.keys (a1.keys.length:Int) a0.kind a0.n a0.s a0.keys a0.kids a1.kind a1.keys a1.kids a1.need a1.low a1.high m (j:Int) o) (good:=fun o=>fin (a1.keys.length:Int) false o)
   (fun m j o x hx ho=> ?_) (fun m o=>by simp only [mq,gG,cond_false]) a1.keys.length 0 (a0.kids.length+a1.keys.length+1) out (by omega) (by omega) (by rw [List.drop_zero];exact hl)) (by rw [List.drop_zero])
  obtain ⟨h1,h0,hw,ht⟩:=idx (aY hx) (by omega)
  have nz:=List.mem_of_getElem? hx
  have hj:=aY hx
  have k1:decide ((j:Int)<(a1.need.length:Int))=true:=decide_eq_true (by omega)
  have xe:=oQ hg (.inr nz)
  unfold k8 at ho ⊢
  cases hn:ar (t:= .bool) a1.need j
  ·simp only [mq,h1,h0,hw,ht,k1,hn,Bool.and_self,cond_true,cond_false,List.append_nil]
  ·cases hi:rG a0.keys x
   ·rw [hn,hi] at ho
    have si:Nat.ble (o.length+1) bT=true:=Nat.ble_eq_true_of_le ho
    simp only [mq,h1,h0,hw,ht,k1,hn,hi,lp,l1,gke,bz (t:= .str) hx,xe,si,Bool.and_self,Bool.not_false,cond_true]
   ·simp only [mq,h1,h0,hw,ht,k1,hn,hi,gke,bz (t:= .str) hx,Bool.and_self,Bool.not_true,cond_true,cond_false,List.append_nil]
 have hK2:∀(fin:Int→Bool→List BA→Option R) (out:List BA),out.length+(dF (fC aL a1 a2 a0.keys a0.kind) 0 a0.kids).length≤bT→jS (ao a0) (a0.kids.length+a1.keys.length+1) fin a2 a0.kids (a0.kids.length:Int) a0.kind a0.n a0.s a0.keys a0.kids a1.kind a1.keys a1.kids a1.need a1.low a1.high (a0.kids.length+a1.keys.length+1) (0:Int) out=fin (a0.kids.length:Int) false (out++dF (fC aL a1 a2 a0.keys a0.kind) 0 a0.kids):=by
  intro fin out hl
  refine Eq.trans (oP (xs:=a0.kids) (g:=fC aL a1 a2 a0.keys a0.kind) (F:=fun m j o=>jS (ao a0) (a0.kids.length+a1.keys.length+1) fin a2 a0.kids (a0.kids.length:Int) a0.kind a0.n a0.s a0.keys a0.kids a1.kind a1.keys a1.kids a1.need a1.low a1.high m (j:Int) o) (good:=fun o=>fin (a0.kids.length:Int) false o)
   (fun m j o x hx ho=> ?_) (fun m o=>by simp only [jS,gG,cond_false]) a0.kids.length 0 (a0.kids.length+a1.keys.length+1) out (by omega) (by omega) (by rw [List.drop_zero];exact hl)) (by rw [List.drop_zero])
  obtain ⟨h1,h0,hw,ht⟩:=idx (aY hx) (by omega)
  have nz:=List.mem_of_getElem? hx
  have hj:=aY hx
  have Wu:Nat.blt (ao x) (ao a0)=true:=by rw [Nat.blt_eq];exact bD nz
  have hoi:gL (j:Int)=true:=kt (by omega) (by omega)
  unfold fC at ho ⊢
  cases h4:a0.kind==(4:Int)
  ·cases h5:a0.kind==(5:Int)
   ·simp only [jS,h1,h0,hw,h4,h5,Bool.and_self,cond_true,cond_false,List.append_nil]
   ·have Tq:(a1.keys.length:Int)=(a1.kids.length:Int):=by
     unfold jB at eT
     rw [← X8,h5] at eT
     exact eq_of_beq eT
    by_cases hjk:j<a0.keys.length
    ·obtain ⟨key,hk,_⟩:=cL hjk
     obtain ⟨k1,_,_,_⟩:=idx hjk (by omega)
     have hkm:=List.mem_of_getElem? hk
     have Od:decide ((j:Int)≥(a0.keys.length:Int))=false:=decide_eq_false (by omega)
     have HL:BV a1 key=true:=by simp only [BV,Bool.and_eq_true,decide_eq_true_eq];exact ⟨hr,by omega⟩
     rw [h4,h5,Od,bz (t:= .str) hk] at ho
     by_cases hq:bg a1 key<0
     ·rw [decide_eq_true hq] at ho
      have si:Nat.ble (o.length+1) bT=true:=Nat.ble_eq_true_of_le ho
      have xe:=oQ hg (.inl hkm)
      simp only [jS,h1,h0,hw,ht,k1,lp,l1,Od,h4,h5,bz (t:= .str) hk,bN,cM,HL,bI,decide_eq_true hq,xe,si,Bool.and_self,cond_true,cond_false]
     ·rw [decide_eq_false hq] at ho
      obtain ⟨i,e,hi⟩:=je hq
      have W8:ar (t:= .aq) a1.kids i∈a1.kids:=List.mem_of_getElem? (c9 (t:= .aq) (by omega))
      have ei:Int.toNat (bg a1 key)=i:=by omega
      rw [ei] at ho
      have si:Nat.ble (o.length+(cO aL x (ar (t:= .aq) a1.kids i) (a2++[key])).length) bT=true:=Nat.ble_eq_true_of_le ho
      have EI:=mQ hg nz W8 (.inl hkm)
      simp only [jS,h1,h0,hw,ht,k1,lp,l1,Od,h4,h5,bz (t:= .str) hk,bz (t:= .node) hx,bu,cM,bN,cM,HL,bI,decide_eq_false hq,ei,EI,Wu,si,Bool.and_self,cond_true,cond_false]
    ·have Od:decide ((j:Int)≥(a0.keys.length:Int))=true:=decide_eq_true (by omega)
     simp only [jS,h1,h0,hw,Od,h4,h5,Bool.and_self,cond_true,cond_false,List.append_nil]
  ·have Ij:(1:Int)≤(a1.kids.length:Int):=by
    unfold jB at eT
    rw [← X8,eq_of_beq h4] at eT
    exact of_decide_eq_true eT
   have W0:decide ((0:Int)<(a1.kids.length:Int))=true:=decide_eq_true (by omega)
   have W8:ar (t:= .aq) a1.kids 0∈a1.kids:=List.mem_of_getElem? (c9 (t:= .aq) (by omega))
   rw [h4] at ho
   have si:Nat.ble (o.length+(cO aL x (ar (t:= .aq) a1.kids 0) (a2++[cj (j:Int)])).length) bT=true:=Nat.ble_eq_true_of_le ho
   have EI:=mQ (s:=cj (j:Int)) hg nz W8 (.inr (ib hoi))
   simp only [jS,h1,h0,hw,ht,lp,l1,h4,W0,hoi,bz (t:= .node) hx,bu,cM,EI,Wu,si,Bool.and_self,cond_true,cond_false]
 have hN3:∀(fin:Int→Bool→List BA→Option R) (out:List BA),out.length+(dF (k8 aL a2 a0.keys a1.need) 0 a1.keys).length≤bT→mr (ao a0) (a0.kids.length+a1.keys.length+1) fin a2 a1.keys (a1.keys.length:Int) a0.kind a0.n a0.s a0.keys a0.kids a1.kind a1.keys a1.kids a1.need a1.low a1.high (a0.kids.length+a1.keys.length+1) (0:Int) out=fin (a1.keys.length:Int) false (out++dF (k8 aL a2 a0.keys a1.need) 0 a1.keys):=by
  intro fin out hl
  refine Eq.trans (oP (xs:=a1.keys) (g:=k8 aL a2 a0.keys a1.need) (F:=fun m j o=>mr (ao a0) (a0.kids.length+a1.keys.length+1) fin a2 a1.keys (a1.keys.length:Int) a0.kind a0.n a0.s a0.keys a0.kids a1.kind a1.keys a1.kids a1.need a1.low a1.high m (j:Int) o) (good:=fun o=>fin (a1.keys.length:Int) false o)
   (fun m j o x hx ho=> ?_) (fun m o=>by simp only [mr,gG,cond_false]) a1.keys.length 0 (a0.kids.length+a1.keys.length+1) out (by omega) (by omega) (by rw [List.drop_zero];exact hl)) (by rw [List.drop_zero])
  obtain ⟨h1,h0,hw,ht⟩:=idx (aY hx) (by omega)
  have nz:=List.mem_of_getElem? hx
  have hj:=aY hx
  have k1:decide ((j:Int)<(a1.need.length:Int))=true:=decide_eq_true (by omega)
  have xe:=oQ hg (.inr nz)
  unfold k8 at ho ⊢
  cases hn:ar (t:= .bool) a1.need j
  ·simp only [mr,h1,h0,hw,ht,k1,hn,Bool.and_self,cond_true,cond_false,List.append_nil]
  ·cases hi:rG a0.keys x
   ·rw [hn,hi] at ho
    have si:Nat.ble (o.length+1) bT=true:=Nat.ble_eq_true_of_le ho
    simp only [mr,h1,h0,hw,ht,k1,hn,hi,lp,l1,gke,bz (t:= .str) hx,xe,si,Bool.and_self,Bool.not_false,cond_true]
   ·simp only [mr,h1,h0,hw,ht,k1,hn,hi,gke,bz (t:= .str) hx,Bool.and_self,Bool.not_true,cond_true,cond_false,List.append_nil]
 have Eb:gN a0.kind a0.n a0.s a0.kids.length a1=cond (a0.kind==(2:Int)) (!(gZ a0.n a1.low a1.high)) (cond (a0.kind==(3:Int)) (!(gZ (a0.s.size:Int) a1.low a1.high)) (cond (a0.kind==(4:Int)) (!(gZ (a0.kids.length:Int) a1.low a1.high)) false)):=rfl
 have tR:∀b:Bool,gN a0.kind a0.n a0.s a0.kids.length a1=b→(cond b [aL a2] []).length+(dF (fC aL a1 a2 a0.keys a0.kind) 0 a0.kids).length≤bT∧(cond b [aL a2] []++dF (fC aL a1 a2 a0.keys a0.kind) 0 a0.kids).length+(dF (k8 aL a2 a0.keys a1.need) 0 a1.keys).length≤bT:=by
  intro b hb
  rw [hb] at hlen
  rw [List.length_append]
  omega
 have yes:gN a0.kind a0.n a0.s a0.kids.length a1=true→xu (ao a0) (a0.kids.length+a1.keys.length+1) k a0 a1 a2=k [.d (.sl .str) (cond (gN a0.kind a0.n a0.s a0.kids.length a1) [aL a2] []++dF (fC aL a1 a2 a0.keys a0.kind) 0 a0.kids++dF (k8 aL a2 a0.keys a1.need) 0 a1.keys)]:=by
  intro hb
  obtain ⟨q1,q2⟩:=tR true hb
  simp only [cond_true] at q1 q2
  rw [hb]
  simp only [cond_true]
  unfold xu
  rw [hK0 _ _ q1]
  exact hN1 _ _ q2
 have no:gN a0.kind a0.n a0.s a0.kids.length a1=false→qZ (ao a0) (a0.kids.length+a1.keys.length+1) k a0 a1 a2=k [.d (.sl .str) (cond (gN a0.kind a0.n a0.s a0.kids.length a1) [aL a2] []++dF (fC aL a1 a2 a0.keys a0.kind) 0 a0.kids++dF (k8 aL a2 a0.keys a1.need) 0 a1.keys)]:=by
  intro hb
  obtain ⟨q1,q2⟩:=tR false hb
  simp only [cond_false] at q1 q2
  rw [hb]
  simp only [cond_false]
  unfold qZ
  rw [hK2 _ _ q1]
  exact hN3 _ _ q2
 cases h2:a0.kind==(2:Int)
 ·cases h3:a0.kind==(3:Int)
  ·cases h4:a0.kind==(4:Int)
   ·exact no (by rw [Eb,h2,h3,h4];rfl)
   ·cases hi:gZ (a0.kids.length:Int) a1.low a1.high
    ·exact yes (by rw [Eb,h2,h3,h4,hi];rfl)
    ·exact no (by rw [Eb,h2,h3,h4,hi];rfl)
  ·cases hi:gZ (a0.s.size:Int) a1.low a1.high
   ·exact yes (by rw [Eb,h2,h3,hi];rfl)
   ·have h4:(a0.kind==(4:Int))=false:=by rw [eq_of_beq h3];rfl
    rw [h4]
    exact no (by rw [Eb,h2,h3,hi];rfl)
 ·cases hi:gZ a0.n a1.low a1.high
  ·exact yes (by rw [Eb,h2,hi];rfl)
  ·have h3:(a0.kind==(3:Int))=false:=by rw [eq_of_beq h2];rfl
   have h4:(a0.kind==(4:Int))=false:=by rw [eq_of_beq h2];rfl
   rw [h3,h4]
   exact no (by rw [Eb,h2,hi];rfl)
noncomputable def s40:Gm.Spec:=Gm.Spec.of [.ro,.ro,.ro] [false] true q40
theorem W9:Gm.Good Tryd.prog (40,s40):=by
 refine ⟨⟨fU W7 fun N hr=> ?_,_,Tryd.func40,by kernel_rfl,of_decide_eq_true (by kernel_rfl)⟩,Gm.Spec.aB _ _ _ _⟩
 have hl:∀x∈[(40,aaQ N),(65,s65),(66,QY),(67,s67),(68,s68),(69,s69),(70,s70)],Gm.Good Tryd.prog x:=bJ.2 ⟨⟨⟨hr,_,Tryd.func40,by kernel_rfl,of_decide_eq_true (by kernel_rfl)⟩,Gm.Spec.aB _ _ _ _⟩,bJ.2 ⟨W6,bJ.2 ⟨zW,bJ.2 ⟨LA,bJ.2 ⟨Wh,bJ.2 ⟨NC,bJ.2 ⟨Wa,im⟩⟩⟩⟩⟩⟩⟩
 intro R
 refine aK (E:=dc N) (aV.env hl) (b9.cF hl) Tryd.func40 (by kernel_rfl:Tryd.f40.body=some fZ) [22] (by kernel_rfl) ?_
 intro ds outs h
 obtain ⟨h,hm⟩:=cT h
 unfold q40 at h
 split at h
 ·simp only [Option.some.injEq,Prod.mk.injEq] at h;obtain ⟨hg,h⟩:=h;cases h;exact Ob N _ _ _ hg hm
 ·cases h
noncomputable def q60:Qt
 | [.d .aq a0,.d (.i .i64) a1]=>some ((iI a0 a1),[.d .bool (bS a0 a1)])
 | _=>none
noncomputable def Xa:List Dt→Nat
 | [.d .aq a0,.d (.i .i64) a1]=>(fun (r:af) (_:Int)=>di r) a0 a1
 | _=>0
noncomputable def aaU (N:Nat):Gm.Spec:=Gm.Spec.of [.ro,.ro] [false] true (nS Xa N q60)
noncomputable def Gj (y0:Int) (y1:Int) (y2:Int) (y3:List BA) (y4:List af) (y5:List Bool) (y6:Int) (y7:Int):St:=⟨[(1,.c (.one (.v (.int .i64 y0)))),(2,.c (.one (.pt 2 0))),(5,.c (.one (.v (.int .i64 y1))))],[(2,⟨.aq,[.v (.int .i64 y2),.ro .str y3,.ro .aq y4,.ro .bool y5,.v (.int .i64 y6),.v (.int .i64 y7)]⟩)],[]⟩
noncomputable def Oe:St:=⟨[(4,.c (.one (.v (.bool false))))],[],[]⟩
noncomputable def Og (y0:Int) (y1:Int) (y2:Bool) (y3:Int) (y4:List BA) (y5:List af) (y6:List Bool) (y7:Int) (y8:Int):St:=⟨[(1,.c (.one (.v (.int .i64 y0)))),(2,.c (.one (.pt 2 0))),(5,.c (.one (.v (.int .i64 y1)))),(25,.c (.one (.v (.bool y2))))],[(2,⟨.aq,[.v (.int .i64 y3),.ro .str y4,.ro .aq y5,.ro .bool y6,.v (.int .i64 y7),.v (.int .i64 y8)]⟩)],[]⟩
noncomputable def Ec:Code:=(Tryd.f60.body).getD .skip
def HX:Nat→Kp:=fT [⟨[1,2],[],[],[]⟩,⟨[1,2,20],[],[],[]⟩,⟨[4],[],[],[]⟩,⟨[1,2,5],[],[],[]⟩,⟨[1,2,5,25],[],[],[]⟩,⟨[1,2,5],[],[],[]⟩,⟨[1,2,5,36],[],[],[]⟩,⟨[4],[],[],[]⟩,⟨[2,59],[],[],[]⟩,⟨[4],[],[],[]⟩,⟨[2,62],[],[],[]⟩,⟨[4],[],[],[]⟩,⟨[4],[],[],[]⟩]
noncomputable def xv (N:Nat):Env:=b9.env [(60,aaU N),(63,s63),(87,s87),(88,Z6)]
noncomputable def wm {R:Type} (N:Nat) (n:Nat) (x0:Option R) (x1:Int→Bool→Option R) (wL:Int) (wC:Int) (wB:List BA) (wA:List af) (wE:List Bool) (wF:Int) (wG:Int):Nat→Int→Option R
  | 0,_=>none
  | m+1,wI=>
    (cond (decide (wI<(wA.length:Int)))
   (cond ((decide ((0:Int)≤wI))&&(decide (wI<(wA.length:Int))))
    (cond ((iI (eR (ar (t:= .aq) wA (Int.toNat wI))) (IntKind.wrap .i64 (wL-(1:Int))))&&(Nat.blt ((fun (r:af) (_:Int)=>di r) (eR (ar (t:= .aq) wA (Int.toNat wI))) (IntKind.wrap .i64 (wL-(1:Int)))) N))
     (cond (!(bS (eR (ar (t:= .aq) wA (Int.toNat wI))) (IntKind.wrap .i64 (wL-(1:Int)))))
      (x0)
      (wm N n x0 x1 wL wC wB wA wE wF wG m (IntKind.wrap .i64 (wI+(1:Int)))))
     none)
    none)
   (x1 wI (decide (wI<(wA.length:Int)))))
theorem SF {R:Type} (N:Nat) (n:Nat) (k':Kx R) (wL:Int) (wI:Int) (wC:Int) (wB:List BA) (wA:List af) (wE:List Bool) (wF:Int) (wG:Int):ev (xv N) HX n (bl [1,1,0,1,0,0] Ec) (Gj wL wI wC wB wA wE wF wG) k'=
 (cond (decide (wI<(wA.length:Int)))
 (cond ((decide ((0:Int)≤wI))&&(decide (wI<(wA.length:Int))))
 (cond ((iI (eR (ar (t:= .aq) wA (Int.toNat wI))) (IntKind.wrap .i64 (wL-(1:Int))))&&(Nat.blt ((fun (r:af) (_:Int)=>di r) (eR (ar (t:= .aq) wA (Int.toNat wI))) (IntKind.wrap .i64 (wL-(1:Int)))) N))
 (cond (!(bS (eR (ar (t:= .aq) wA (Int.toNat wI))) (IntKind.wrap .i64 (wL-(1:Int)))))
 (k' .ret Oe)
 (k' .normal (Gj wL (IntKind.wrap .i64 (wI+(1:Int))) wC wB wA wE wF wG)))
 none)
 none)
 (k' (.exit 0) (Og wL wI (decide (wI<(wA.length:Int))) wC wB wA wE wF wG))):=by kernel_rfl
theorem Oh {R:Type} (N:Nat) (n:Nat) (k':Kx R) (wL:Int) (wC:Int) (wB:List BA) (wA:List af) (wE:List Bool) (wF:Int) (wG:Int):∀(m:Nat) (wI:Int),iter (fun st k=>ev (xv N) HX n (bl [1,1,0,1,0,0] Ec) st k) m (Gj wL wI wC wB wA wE wF wG) k'=wm N n (k' .ret Oe) (fun (wS:Int) (wT:Bool)=>k' (.exit 0) (Og wL wS wT wC wB wA wE wF wG)) wL wC wB wA wE wF wG m wI:=by
 intro m;induction m with
 | zero=>intros;rfl
 | succ m ih=>
  intro wI
  simp only [iter]
  rw [SF]
  simp only [ih,wm]
noncomputable def Oi {R:Type} (N:Nat) (n:Nat) (k':Kx R):Kx R:=(bZ 0 (dS (xv N) HX n (bl [1,1,1] Ec) k'))
theorem Oj {R:Type} (N:Nat) (n:Nat) (k:Kt R) (a0:af) (a1:Int):Oi N n (aC (xv N) [.ro,.ro] [false] true [.tmp 4] [4] [.d .aq a0,.d (.i .i64) a1] k) .ret Oe=
 (k [.d .bool false]):=by kernel_rfl
theorem Ol {R:Type} (N:Nat) (n:Nat) (k:Kt R) (a0:af) (a1:Int) (wL:Int) (wC:Int) (wB:List BA) (wA:List af) (wE:List Bool) (wF:Int) (wG:Int) (wS:Int) (wT:Bool):Oi N n (aC (xv N) [.ro,.ro] [false] true [.tmp 4] [4] [.d .aq a0,.d (.i .i64) a1] k) (.exit 0) (Og wL wS wT wC wB wA wE wF wG)=
 (cond (wC !=(2:Int))
 (cond (wC !=(3:Int))
 (cond (wC !=(4:Int))
 (cond (wF !=(0:Int))
 (k [.d .bool false])
 (cond (wG !=(0:Int))
 (k [.d .bool false])
 (cond (wC==(5:Int))
 (cond ((wB.length:Int)==(wA.length:Int))
 (cond ((wE.length:Int)==(wA.length:Int))
 (cond (jc wB)
 (k [.d .bool (dK wB)])
 none)
 (k [.d .bool false]))
 (k [.d .bool false]))
 (cond ((wB.length:Int)==(0:Int))
 (cond ((wE.length:Int)==(0:Int))
 (k [.d .bool ((wA.length:Int)==(o3 (wC==(4:Int))))])
 (k [.d .bool false]))
 (k [.d .bool false])))))
 (cond (wC==(5:Int))
 (cond ((wB.length:Int)==(wA.length:Int))
 (cond ((wE.length:Int)==(wA.length:Int))
 (cond (jc wB)
 (k [.d .bool (dK wB)])
 none)
 (k [.d .bool false]))
 (k [.d .bool false]))
 (cond ((wB.length:Int)==(0:Int))
 (cond ((wE.length:Int)==(0:Int))
 (k [.d .bool ((wA.length:Int)==(o3 (wC==(4:Int))))])
 (k [.d .bool false]))
 (k [.d .bool false]))))
 (cond (wC==(5:Int))
 (cond ((wB.length:Int)==(wA.length:Int))
 (cond ((wE.length:Int)==(wA.length:Int))
 (cond (jc wB)
 (k [.d .bool (dK wB)])
 none)
 (k [.d .bool false]))
 (k [.d .bool false]))
 (cond ((wB.length:Int)==(0:Int))
 (cond ((wE.length:Int)==(0:Int))
 (k [.d .bool ((wA.length:Int)==(o3 (wC==(4:Int))))])
 (k [.d .bool false]))
 (k [.d .bool false]))))
 (cond (wC==(5:Int))
 (cond ((wB.length:Int)==(wA.length:Int))
 (cond ((wE.length:Int)==(wA.length:Int))
 (cond (jc wB)
 (k [.d .bool (dK wB)])
 none)
 (k [.d .bool false]))
 (k [.d .bool false]))
 (cond ((wB.length:Int)==(0:Int))
 (cond ((wE.length:Int)==(0:Int))
 (k [.d .bool ((wA.length:Int)==(o3 (wC==(4:Int))))])
 (k [.d .bool false]))
 (k [.d .bool false])))):=by kernel_rfl
theorem SG {R:Type} (N:Nat) (n:Nat) (k:Kt R) (a0:af) (a1:Int):aM (xv N) HX n Ec [.ro,.ro] [false] true [.tmp 4] [4] [.d .aq a0,.d (.i .i64) a1] k=
 (cond (!(gZ (af.kind a0) (-1:Int) (5:Int)))
 (k [.d .bool false])
 (cond (decide ((af.low a0)>(af.high a0)))
 (k [.d .bool false])
 (cond (decide (a1≤(0:Int)))
 (k [.d .bool false])
 (wm N n (k [.d .bool false]) (fun (wS:Int) (wT:Bool)=>
 (cond ((af.kind a0) !=(2:Int))
 (cond ((af.kind a0) !=(3:Int))
 (cond ((af.kind a0) !=(4:Int))
 (cond ((af.low a0) !=(0:Int))
 (k [.d .bool false])
 (cond ((af.high a0) !=(0:Int))
 (k [.d .bool false])
 (cond ((af.kind a0)==(5:Int))
 (cond (((af.keys a0).length:Int)==((af.kids a0).length:Int))
 (cond (((af.need a0).length:Int)==((af.kids a0).length:Int))
 (cond (jc (af.keys a0))
 (k [.d .bool (dK (af.keys a0))])
 none)
 (k [.d .bool false]))
 (k [.d .bool false]))
 (cond (((af.keys a0).length:Int)==(0:Int))
 (cond (((af.need a0).length:Int)==(0:Int))
 (k [.d .bool (((af.kids a0).length:Int)==(o3 ((af.kind a0)==(4:Int))))])
 (k [.d .bool false]))
 (k [.d .bool false])))))
 (cond ((af.kind a0)==(5:Int))
 (cond (((af.keys a0).length:Int)==((af.kids a0).length:Int))
 (cond (((af.need a0).length:Int)==((af.kids a0).length:Int))
 (cond (jc (af.keys a0))
 (k [.d .bool (dK (af.keys a0))])
 none)
 (k [.d .bool false]))
 (k [.d .bool false]))
 (cond (((af.keys a0).length:Int)==(0:Int))
 (cond (((af.need a0).length:Int)==(0:Int))
 (k [.d .bool (((af.kids a0).length:Int)==(o3 ((af.kind a0)==(4:Int))))])
 (k [.d .bool false]))
 (k [.d .bool false]))))
 (cond ((af.kind a0)==(5:Int))
 (cond (((af.keys a0).length:Int)==((af.kids a0).length:Int))
 (cond (((af.need a0).length:Int)==((af.kids a0).length:Int))
 (cond (jc (af.keys a0))
 (k [.d .bool (dK (af.keys a0))])
 none)
 (k [.d .bool false]))
 (k [.d .bool false]))
 (cond (((af.keys a0).length:Int)==(0:Int))
 (cond (((af.need a0).length:Int)==(0:Int))
 (k [.d .bool (((af.kids a0).length:Int)==(o3 ((af.kind a0)==(4:Int))))])
 (k [.d .bool false]))
 (k [.d .bool false]))))
 (cond ((af.kind a0)==(5:Int))
 (cond (((af.keys a0).length:Int)==((af.kids a0).length:Int))
 (cond (((af.need a0).length:Int)==((af.kids a0).length:Int))
 (cond (jc (af.keys a0))
 (k [.d .bool (dK (af.keys a0))])
 none)
 (k [.d .bool false]))
 (k [.d .bool false]))
 (cond (((af.keys a0).length:Int)==(0:Int))
 (cond (((af.need a0).length:Int)==(0:Int))
 (k [.d .bool (((af.kids a0).length:Int)==(o3 ((af.kind a0)==(4:Int))))])
 (k [.d .bool false]))
 (k [.d .bool false]))))) a1 (af.kind a0) (af.keys a0) (af.kids a0) (af.need a0) (af.low a0) (af.high a0) n (0:Int))))):=by
  refine Eq.trans (b:=(cond (!(gZ (af.kind a0) (-1:Int) (5:Int)))
  (k [.d .bool false])
  (cond (decide ((af.low a0)>(af.high a0)))
   (k [.d .bool false])
   (cond (decide (a1≤(0:Int)))
    (k [.d .bool false])
    (iter (fun st k=>ev (xv N) HX n (bl [1,1,0,1,0,0] Ec) st k) n (Gj a1 (0:Int) (af.kind a0) (af.keys a0) (af.kids a0) (af.need a0) (af.low a0) (af.high a0)) (Oi N n (aC (xv N) [.ro,.ro] [false] true [.tmp 4] [4] [.d .aq a0,.d (.i .i64) a1] k))))))) (by kernel_rfl) ?_
  simp only [Oh,Oj,Ol]
theorem Om (N:Nat) (a0:af) (a1:Int) (hg:iI a0 a1=true) (hm:Xa [.d .aq a0,.d (.i .i64) a1]=N):∃aJ rounds,∀ {R:Type} (k:Kt R),aM (xv N) aJ rounds Ec [.ro,.ro] [false] true [.tmp 4] [4] [.d .aq a0,.d (.i .i64) a1] k=k [.d .bool (bS a0 a1)]:=by
  have hm:di a0=N:=hm
  subst hm
  simp only [iI,bL,Bool.and_eq_true,decide_eq_true_eq] at hg
  obtain ⟨⟨_,ng,mL,_,_,_⟩,hd0,X9⟩:=hg
  have gk:jc a0.keys=true:=tm ng
  have lk:=bp ng
  have li:=bp mL
  refine ⟨HX,a0.kids.length+1,fun {R} k=> ?_⟩
  rw [SG]
  show _=k [.d .bool (bS a0 a1)]
  rw [jm]
  unfold n5
  cases gZ a0.kind (-1) 5
  · rfl
  cases decide (a0.low>a0.high)
  rotate_left
  · rfl
  by_cases hd:a1≤0
  · simp only [hd,decide_true,Bool.not_true,Bool.not_false,Bool.and_false,Bool.false_and,cond_true,cond_false]
  simp only [hd,decide_false,Bool.not_true,Bool.not_false,Bool.true_and,cond_false]
  generalize hX:(fun (wS:Int) (wT:Bool)=>_)=X
  refine Eq.trans (iG (n:=a0.kids.length) (F:=fun m i=>wm (di a0) (a0.kids.length+1) _ X a1 a0.kind a0.keys a0.kids a0.need a0.low a0.high m i) (p:=fun j=>bS (ar (t:= .aq) a0.kids j) (a1-1)) (good:=X (a0.kids.length:Int) false) (bad:=k [.d .bool false])
    (fun m j hj=> ?_) (fun m=>by simp only [wm,gG,cond_false]) a0.kids.length 0 (a0.kids.length+1) (by omega) (by omega)) ?_
  · obtain ⟨h1,h0,hw,ht⟩:=idx hj (by omega)
    have hs:=vd (t:= .aq) mL hj
    have Ed:iI (ar (t:= .aq) a0.kids j) (a1-1)=true:=by
      unfold iI;rw [hs,decide_eq_true (show 0≤a1-1 by omega),decide_eq_true (show a1-1≤100 by omega)];rfl
    have hb:Nat.blt (di (ar (t:= .aq) a0.kids j)) (di a0)=true:=by
      obtain ⟨x,hx,_⟩:=cL hj
      have:=n3 (x:=a0) (List.mem_of_getElem? hx)
      rw [bz (t:= .aq) hx,Nat.blt_eq];exact this
    simp only [wm,h1,h0,hw,ht,bN,cM,cu (x:=a1-1) (by omega) (by omega),Ed,hb,Bool.and_self,cond_true]
    cases bS (ar (t:= .aq) a0.kids j) (a1-1)<;>rfl
  · rw [JS (q:=fun x=>bS x (a1-1)) (fun j x hx=>by rw [bz (t:= .aq) hx]),←hX]
    cases a0.kids.all fun x=>bS x (a1-1)
    · rfl
    simp only [cond_true,Bool.true_and,gk]
    unfold j7
    simp only [bne]
    cases a0.kind==(2:Int)<;>cases a0.kind==(3:Int)<;>cases a0.kind==(4:Int)<;>cases a0.low==(0:Int)<;>cases a0.high==(0:Int)<;>cases a0.kind==(5:Int)<;>simp only [cond_true,cond_false,Bool.not_true,Bool.not_false,Bool.true_or,Bool.or_true,Bool.false_or,Bool.true_and,Bool.false_and,Bool.and_true,Bool.and_false]<;>
      first
        | rfl
        | (cases ((a0.keys.length:Int)==(a0.kids.length:Int))<;>cases ((a0.need.length:Int)==(a0.kids.length:Int))<;>rfl)
        | (cases ((a0.keys.length:Int)==(0:Int))<;>cases ((a0.need.length:Int)==(0:Int))<;>rfl)
noncomputable def s60:Gm.Spec:=Gm.Spec.of [.ro,.ro] [false] true q60
theorem Xb:Gm.Good Tryd.prog (60,s60):=by
 refine ⟨⟨fU Xa fun N hr=> ?_,_,Tryd.func60,by kernel_rfl,of_decide_eq_true (by kernel_rfl)⟩,Gm.Spec.aB _ _ _ _⟩
 have hl:∀x∈[(60,aaU N),(63,s63),(87,s87),(88,Z6)],Gm.Good Tryd.prog x:=bJ.2 ⟨⟨⟨hr,_,Tryd.func60,by kernel_rfl,of_decide_eq_true (by kernel_rfl)⟩,Gm.Spec.aB _ _ _ _⟩,bJ.2 ⟨V5,bJ.2 ⟨V9,bJ.2 ⟨KZ,im⟩⟩⟩⟩
 intro R
 refine aK (E:=xv N) (aV.env hl) (b9.cF hl) Tryd.func60 (by kernel_rfl:Tryd.f60.body=some Ec) [4] (by kernel_rfl) ?_
 intro ds outs h
 obtain ⟨h,hm⟩:=cT h
 unfold q60 at h
 split at h
 ·simp only [Option.some.injEq,Prod.mk.injEq] at h;obtain ⟨hg,h⟩:=h;cases h;exact Om N _ _ hg hm
 ·cases h
noncomputable def X':Qt
 | [.d .aq a0,.d (.i .i64) a1]=>some ((iI a0 a1),[.d .bool (bS a0 a1)])
 | _=>none
noncomputable def On:List Dt→Nat
 | [.d .aq a0,.d (.i .i64) a1]=>Px a0 a1
 | _=>0
noncomputable def aaV (N:Nat):Gm.Spec:=Gm.Spec.of [.ro,.ro] [false] true (nS On N X')
noncomputable def s54:Gm.Spec:=Gm.Spec.of [.ro,.ro] [false] true X'
noncomputable def q83:Qt
 | [.d .aq a0,.d (.i .i64) a1]=>some ((pO a0 a1),[.d .bool (kV a0 a1)])
 | _=>none
noncomputable def Oo:List Dt→Nat
 | [.d .aq a0,.d (.i .i64) a1]=>TS a0 a1
 | _=>0
noncomputable def HY (N:Nat):Gm.Spec:=Gm.Spec.of [.ro,.CA] [false] true (nS Oo N q83)
noncomputable def q82:Qt
 | [.d (.sl .aq) a0,.fH 83 [⟨(.i .i64),a1⟩]]=>some ((dV a0 a1),[.d .bool (cw a0 a1)])
 | _=>none
noncomputable def Oq:List Dt→Nat
 | [.d (.sl .aq) a0,.fH 83 [⟨(.i .i64),a1⟩]]=>yd a0 a1
 | _=>0
noncomputable def aaY (N:Nat):Gm.Spec:=Gm.Spec.of [.ro,.fn] [false] true (nS Oq N q82)
noncomputable def Ot:Qt
 | [.d (.sl .aq) a0,.fH 83 [⟨(.i .i64),a1⟩]]=>some ((dV a0 a1),[.d (.i .i64) (oL a0 a1)])
 | _=>none
noncomputable def Cx:List Dt→Nat
 | [.d (.sl .aq) a0,.fH 83 [⟨(.i .i64),a1⟩]]=>TT a0 a1
 | _=>0
noncomputable def UA (N:Nat):Gm.Spec:=Gm.Spec.of [.ro,.fn] [false] true (nS Cx N Ot)
noncomputable def jT (y0:List BA) (y1:Int) (y2:Int) (y3:Int) (y4:List BA) (y5:List af) (y6:List Bool) (y7:Int) (y8:Int) (y9:Int):St:=⟨[(2,.c (.one (.pt 2 0))),(3,.c (.one (.pt 3 0))),(84,.c (.one (.ro .str y0))),(85,.c (.one (.v (.int .i64 y1)))),(86,.c (.one (.v (.int .i64 y2))))],[(2,⟨.aq,[.v (.int .i64 y3),.ro .str y4,.ro .aq y5,.ro .bool y6,.v (.int .i64 y7),.v (.int .i64 y8)]⟩),(3,⟨(.i .i64),[.v (.int .i64 y9)]⟩)],[]⟩
noncomputable def Gk:St:=⟨[(4,.c (.one (.v (.bool false))))],[],[]⟩
noncomputable def Ou (y0:List BA) (y1:Int) (y2:Int) (y3:Bool) (y4:Int) (y5:List BA) (y6:List af) (y7:List Bool) (y8:Int) (y9:Int) (fc:Int):St:=⟨[(2,.c (.one (.pt 2 0))),(3,.c (.one (.pt 3 0))),(84,.c (.one (.ro .str y0))),(85,.c (.one (.v (.int .i64 y1)))),(86,.c (.one (.v (.int .i64 y2)))),(87,.c (.one (.v (.bool y3))))],[(2,⟨.aq,[.v (.int .i64 y4),.ro .str y5,.ro .aq y6,.ro .bool y7,.v (.int .i64 y8),.v (.int .i64 y9)]⟩),(3,⟨(.i .i64),[.v (.int .i64 fc)]⟩)],[]⟩
noncomputable def ny:Code:=(Tryd.f54.body).getD .skip
def ox:Nat→Kp:=fT [⟨[2,3],[],[],[]⟩,⟨[2,3,5],[],[],[]⟩,⟨[2,3,51],[],[],[]⟩,⟨[4],[],[],[]⟩,⟨[2,3,6,7],[],[],[]⟩,⟨[2,3,6,7,53],[],[],[]⟩,⟨[2,3,6,7,53,54],[],[],[]⟩,⟨[2,3,6,7],[],[],[]⟩,⟨[2,3,6,7,62],[],[],[]⟩,⟨[2,3,6,7],[],[],[]⟩,⟨[2,3,82],[],[],[]⟩,⟨[4],[],[],[]⟩,⟨[2,3,84,85,86],[],[],[]⟩,⟨[2,3,84,85,86,87],[],[],[]⟩,⟨[2,3,8,9,84,85,86],[],[],[]⟩,⟨[2,3,84,85,86,107],[],[],[]⟩,⟨[4],[],[],[]⟩,⟨[2,3,84,85,86],[],[],[]⟩,⟨[4],[],[],[]⟩]
noncomputable def gJ (N:Nat):Env:=b9.env [(66,QY),(81,Z3),(82,aaY N),(83,HY N)]
noncomputable def ig {R:Type} (N:Nat) (n:Nat) (x0:Option R) (x1:Int→Bool→Option R) (wJ:List BA) (wM:Int) (wC:Int) (wB:List BA) (wA:List af) (wE:List Bool) (wF:Int) (wG:Int) (wN:Int):Nat→Int→Option R
  | 0,_=>none
  | m+1,wD=>
    (cond (decide (wD<wM))
   (cond ((decide ((0:Int)≤wD))&&(decide (wD<(wJ.length:Int))))
    (cond (iH (ar (t:= .str) wJ (Int.toNat wD)))
     (cond (!(dU (ar (t:= .str) wJ (Int.toNat wD))))
      (x0)
      (cond (decide (wD>(0:Int)))
       (cond ((decide ((0:Int)≤(IntKind.wrap .i64 (wD-(1:Int)))))&&(decide ((IntKind.wrap .i64 (wD-(1:Int)))<(wB.length:Int))))
        (cond (!(lq (ar (t:= .str) wB (Int.toNat (IntKind.wrap .i64 (wD-(1:Int))))) (ar (t:= .str) wJ (Int.toNat wD))))
         (x0)
         (ig N n x0 x1 wJ wM wC wB wA wE wF wG wN m (IntKind.wrap .i64 (wD+(1:Int)))))
        none)
       (ig N n x0 x1 wJ wM wC wB wA wE wF wG wN m (IntKind.wrap .i64 (wD+(1:Int))))))
     none)
    none)
   (x1 wD (decide (wD<wM))))
theorem SH {R:Type} (N:Nat) (n:Nat) (k':Kx R) (wJ:List BA) (wM:Int) (wD:Int) (wC:Int) (wB:List BA) (wA:List af) (wE:List Bool) (wF:Int) (wG:Int) (wN:Int):ev (gJ N) ox n (bl [1,1,1,1,1,1,0,1,0,0] ny) (jT wJ wM wD wC wB wA wE wF wG wN) k'=
 (cond (decide (wD<wM))
 (cond ((decide ((0:Int)≤wD))&&(decide (wD<(wJ.length:Int))))
 (cond (iH (ar (t:= .str) wJ (Int.toNat wD)))
 (cond (!(dU (ar (t:= .str) wJ (Int.toNat wD))))
 (k' .ret Gk)
 (cond (decide (wD>(0:Int)))
 (cond ((decide ((0:Int)≤(IntKind.wrap .i64 (wD-(1:Int)))))&&(decide ((IntKind.wrap .i64 (wD-(1:Int)))<(wB.length:Int))))
 (cond (!(lq (ar (t:= .str) wB (Int.toNat (IntKind.wrap .i64 (wD-(1:Int))))) (ar (t:= .str) wJ (Int.toNat wD))))
 (k' .ret Gk)
 (k' .normal (jT wJ wM (IntKind.wrap .i64 (wD+(1:Int))) wC wB wA wE wF wG wN)))
 none)
 (k' .normal (jT wJ wM (IntKind.wrap .i64 (wD+(1:Int))) wC wB wA wE wF wG wN))))
 none)
 none)
 (k' (.exit 1) (Ou wJ wM wD (decide (wD<wM)) wC wB wA wE wF wG wN))):=by kernel_rfl
theorem Ov {R:Type} (N:Nat) (n:Nat) (k':Kx R) (wJ:List BA) (wM:Int) (wC:Int) (wB:List BA) (wA:List af) (wE:List Bool) (wF:Int) (wG:Int) (wN:Int):∀(m:Nat) (wD:Int),iter (fun st k=>ev (gJ N) ox n (bl [1,1,1,1,1,1,0,1,0,0] ny) st k) m (jT wJ wM wD wC wB wA wE wF wG wN) k'=ig N n (k' .ret Gk) (fun (wO:Int) (wP:Bool)=>k' (.exit 1) (Ou wJ wM wO wP wC wB wA wE wF wG wN)) wJ wM wC wB wA wE wF wG wN m wD:=by
 intro m;induction m with
 | zero=>intros;rfl
 | succ m ih=>
  intro wD
  simp only [iter]
  rw [SH]
  simp only [ih,ig]
noncomputable def lj {R:Type} (N:Nat) (n:Nat) (k':Kx R):Kx R:=(bZ 1 (dS (gJ N) ox n (bl [1,1,1,1,1,1,1] ny) k'))
theorem Ow {R:Type} (N:Nat) (n:Nat) (k:Kt R) (a0:af) (a1:Int):lj N n (aC (gJ N) [.ro,.ro] [false] true [.tmp 4] [4] [.d .aq a0,.d (.i .i64) a1] k) .ret Gk=
 (k [.d .bool false]):=by kernel_rfl
theorem Ox {R:Type} (N:Nat) (n:Nat) (k:Kt R) (a0:af) (a1:Int) (wJ:List BA) (wM:Int) (wC:Int) (wB:List BA) (wA:List af) (wE:List Bool) (wF:Int) (wG:Int) (wN:Int) (wO:Int) (wP:Bool):lj N n (aC (gJ N) [.ro,.ro] [false] true [.tmp 4] [4] [.d .aq a0,.d (.i .i64) a1] k) (.exit 1) (Ou wJ wM wO wP wC wB wA wE wF wG wN)=
 (cond ((dV wA wN)&&(Nat.blt (yd wA wN) N))
 (k [.d .bool (!(cw wA wN))])
 none):=by kernel_rfl
theorem SI {R:Type} (N:Nat) (n:Nat) (k:Kt R) (a0:af) (a1:Int):aM (gJ N) ox n ny [.ro,.ro] [false] true [.tmp 4] [4] [.d .aq a0,.d (.i .i64) a1] k=
 (cond ((af.kind a0)==(2:Int))
 (cond (a1==(0:Int))
 (k [.d .bool false])
 (cond (!(gZ (af.kind a0) (-1:Int) (5:Int)))
 (k [.d .bool false])
 (cond (decide ((af.low a0)>(af.high a0)))
 (k [.d .bool false])
 (cond ((af.kind a0)==(5:Int))
 (cond (((af.kids a0).length:Int) !=((af.keys a0).length:Int))
 (k [.d .bool false])
 (cond (((af.keys a0).length:Int) !=((af.keys a0).length:Int))
 (k [.d .bool false])
 (cond (((af.need a0).length:Int) !=((af.keys a0).length:Int))
 (k [.d .bool false])
 (ig N n (k [.d .bool false]) (fun (wO:Int) (wP:Bool)=>
 (cond ((dV (af.kids a0) a1)&&(Nat.blt (yd (af.kids a0) a1) N))
 (k [.d .bool (!(cw (af.kids a0) a1))])
 none)) (af.keys a0) ((af.keys a0).length:Int) (af.kind a0) (af.keys a0) (af.kids a0) (af.need a0) (af.low a0) (af.high a0) a1 n (0:Int)))))
 (cond ((af.kind a0)==(4:Int))
 (cond (((af.kids a0).length:Int) !=(1:Int))
 (k [.d .bool false])
 (cond (((af.keys a0).length:Int) !=(0:Int))
 (k [.d .bool false])
 (cond (((af.need a0).length:Int) !=(0:Int))
 (k [.d .bool false])
 (ig N n (k [.d .bool false]) (fun (wO:Int) (wP:Bool)=>
 (cond ((dV (af.kids a0) a1)&&(Nat.blt (yd (af.kids a0) a1) N))
 (k [.d .bool (!(cw (af.kids a0) a1))])
 none)) (af.keys a0) ((af.keys a0).length:Int) (af.kind a0) (af.keys a0) (af.kids a0) (af.need a0) (af.low a0) (af.high a0) a1 n (0:Int)))))
 (cond (((af.kids a0).length:Int) !=(0:Int))
 (k [.d .bool false])
 (cond (((af.keys a0).length:Int) !=(0:Int))
 (k [.d .bool false])
 (cond (((af.need a0).length:Int) !=(0:Int))
 (k [.d .bool false])
 (ig N n (k [.d .bool false]) (fun (wO:Int) (wP:Bool)=>
 (cond ((dV (af.kids a0) a1)&&(Nat.blt (yd (af.kids a0) a1) N))
 (k [.d .bool (!(cw (af.kids a0) a1))])
 none)) (af.keys a0) ((af.keys a0).length:Int) (af.kind a0) (af.keys a0) (af.kids a0) (af.need a0) (af.low a0) (af.high a0) a1 n (0:Int))))))))))
 (cond ((af.kind a0)==(3:Int))
 (cond (a1==(0:Int))
 (k [.d .bool false])
 (cond (!(gZ (af.kind a0) (-1:Int) (5:Int)))
 (k [.d .bool false])
 (cond (decide ((af.low a0)>(af.high a0)))
 (k [.d .bool false])
 (cond ((af.kind a0)==(5:Int))
 (cond (((af.kids a0).length:Int) !=((af.keys a0).length:Int))
 (k [.d .bool false])
 (cond (((af.keys a0).length:Int) !=((af.keys a0).length:Int))
 (k [.d .bool false])
 (cond (((af.need a0).length:Int) !=((af.keys a0).length:Int))
 (k [.d .bool false])
 (ig N n (k [.d .bool false]) (fun (wO:Int) (wP:Bool)=>
 (cond ((dV (af.kids a0) a1)&&(Nat.blt (yd (af.kids a0) a1) N))
 (k [.d .bool (!(cw (af.kids a0) a1))])
 none)) (af.keys a0) ((af.keys a0).length:Int) (af.kind a0) (af.keys a0) (af.kids a0) (af.need a0) (af.low a0) (af.high a0) a1 n (0:Int)))))
 (cond ((af.kind a0)==(4:Int))
 (cond (((af.kids a0).length:Int) !=(1:Int))
 (k [.d .bool false])
 (cond (((af.keys a0).length:Int) !=(0:Int))
 (k [.d .bool false])
 (cond (((af.need a0).length:Int) !=(0:Int))
 (k [.d .bool false])
 (ig N n (k [.d .bool false]) (fun (wO:Int) (wP:Bool)=>
 (cond ((dV (af.kids a0) a1)&&(Nat.blt (yd (af.kids a0) a1) N))
 (k [.d .bool (!(cw (af.kids a0) a1))])
 none)) (af.keys a0) ((af.keys a0).length:Int) (af.kind a0) (af.keys a0) (af.kids a0) (af.need a0) (af.low a0) (af.high a0) a1 n (0:Int)))))
 (cond (((af.kids a0).length:Int) !=(0:Int))
 (k [.d .bool false])
 (cond (((af.keys a0).length:Int) !=(0:Int))
 (k [.d .bool false])
 (cond (((af.need a0).length:Int) !=(0:Int))
 (k [.d .bool false])
 (ig N n (k [.d .bool false]) (fun (wO:Int) (wP:Bool)=>
 (cond ((dV (af.kids a0) a1)&&(Nat.blt (yd (af.kids a0) a1) N))
 (k [.d .bool (!(cw (af.kids a0) a1))])
 none)) (af.keys a0) ((af.keys a0).length:Int) (af.kind a0) (af.keys a0) (af.kids a0) (af.need a0) (af.low a0) (af.high a0) a1 n (0:Int))))))))))
 (cond (a1==(0:Int))
 (k [.d .bool false])
 (cond (!(gZ (af.kind a0) (-1:Int) (5:Int)))
 (k [.d .bool false])
 (cond (decide ((af.low a0)>(af.high a0)))
 (k [.d .bool false])
 (cond (!((af.kind a0)==(4:Int)))
 (cond ((af.low a0) !=(0:Int))
 (k [.d .bool false])
 (cond ((af.high a0) !=(0:Int))
 (k [.d .bool false])
 (cond ((af.kind a0)==(5:Int))
 (cond (((af.kids a0).length:Int) !=((af.keys a0).length:Int))
 (k [.d .bool false])
 (cond (((af.keys a0).length:Int) !=((af.keys a0).length:Int))
 (k [.d .bool false])
 (cond (((af.need a0).length:Int) !=((af.keys a0).length:Int))
 (k [.d .bool false])
 (ig N n (k [.d .bool false]) (fun (wO:Int) (wP:Bool)=>
 (cond ((dV (af.kids a0) a1)&&(Nat.blt (yd (af.kids a0) a1) N))
 (k [.d .bool (!(cw (af.kids a0) a1))])
 none)) (af.keys a0) ((af.keys a0).length:Int) (af.kind a0) (af.keys a0) (af.kids a0) (af.need a0) (af.low a0) (af.high a0) a1 n (0:Int)))))
 (cond ((af.kind a0)==(4:Int))
 (cond (((af.kids a0).length:Int) !=(1:Int))
 (k [.d .bool false])
 (cond (((af.keys a0).length:Int) !=(0:Int))
 (k [.d .bool false])
 (cond (((af.need a0).length:Int) !=(0:Int))
 (k [.d .bool false])
 (ig N n (k [.d .bool false]) (fun (wO:Int) (wP:Bool)=>
 (cond ((dV (af.kids a0) a1)&&(Nat.blt (yd (af.kids a0) a1) N))
 (k [.d .bool (!(cw (af.kids a0) a1))])
 none)) (af.keys a0) ((af.keys a0).length:Int) (af.kind a0) (af.keys a0) (af.kids a0) (af.need a0) (af.low a0) (af.high a0) a1 n (0:Int)))))
 (cond (((af.kids a0).length:Int) !=(0:Int))
 (k [.d .bool false])
 (cond (((af.keys a0).length:Int) !=(0:Int))
 (k [.d .bool false])
 (cond (((af.need a0).length:Int) !=(0:Int))
 (k [.d .bool false])
 (ig N n (k [.d .bool false]) (fun (wO:Int) (wP:Bool)=>
 (cond ((dV (af.kids a0) a1)&&(Nat.blt (yd (af.kids a0) a1) N))
 (k [.d .bool (!(cw (af.kids a0) a1))])
 none)) (af.keys a0) ((af.keys a0).length:Int) (af.kind a0) (af.keys a0) (af.kids a0) (af.need a0) (af.low a0) (af.high a0) a1 n (0:Int)))))))))
 (cond ((af.kind a0)==(5:Int))
 (cond (((af.kids a0).length:Int) !=((af.keys a0).length:Int))
 (k [.d .bool false])
 (cond (((af.keys a0).length:Int) !=((af.keys a0).length:Int))
 (k [.d .bool false])
 (cond (((af.need a0).length:Int) !=((af.keys a0).length:Int))
 (k [.d .bool false])
 (ig N n (k [.d .bool false]) (fun (wO:Int) (wP:Bool)=>
 (cond ((dV (af.kids a0) a1)&&(Nat.blt (yd (af.kids a0) a1) N))
 (k [.d .bool (!(cw (af.kids a0) a1))])
 none)) (af.keys a0) ((af.keys a0).length:Int) (af.kind a0) (af.keys a0) (af.kids a0) (af.need a0) (af.low a0) (af.high a0) a1 n (0:Int)))))
 (cond ((af.kind a0)==(4:Int))
 (cond (((af.kids a0).length:Int) !=(1:Int))
 (k [.d .bool false])
 (cond (((af.keys a0).length:Int) !=(0:Int))
 (k [.d .bool false])
 (cond (((af.need a0).length:Int) !=(0:Int))
 (k [.d .bool false])
 (ig N n (k [.d .bool false]) (fun (wO:Int) (wP:Bool)=>
 (cond ((dV (af.kids a0) a1)&&(Nat.blt (yd (af.kids a0) a1) N))
 (k [.d .bool (!(cw (af.kids a0) a1))])
 none)) (af.keys a0) ((af.keys a0).length:Int) (af.kind a0) (af.keys a0) (af.kids a0) (af.need a0) (af.low a0) (af.high a0) a1 n (0:Int)))))
 (cond (((af.kids a0).length:Int) !=(0:Int))
 (k [.d .bool false])
 (cond (((af.keys a0).length:Int) !=(0:Int))
 (k [.d .bool false])
 (cond (((af.need a0).length:Int) !=(0:Int))
 (k [.d .bool false])
 (ig N n (k [.d .bool false]) (fun (wO:Int) (wP:Bool)=>
 (cond ((dV (af.kids a0) a1)&&(Nat.blt (yd (af.kids a0) a1) N))
 (k [.d .bool (!(cw (af.kids a0) a1))])
 none)) (af.keys a0) ((af.keys a0).length:Int) (af.kind a0) (af.keys a0) (af.kids a0) (af.need a0) (af.low a0) (af.high a0) a1 n (0:Int))))))))))))):=by
  refine Eq.trans (b:=(cond ((af.kind a0)==(2:Int))
  (cond (a1==(0:Int))
   (k [.d .bool false])
   (cond (!(gZ (af.kind a0) (-1:Int) (5:Int)))
    (k [.d .bool false])
    (cond (decide ((af.low a0)>(af.high a0)))
     (k [.d .bool false])
     (cond ((af.kind a0)==(5:Int))
      (cond (((af.kids a0).length:Int) !=((af.keys a0).length:Int))
       (k [.d .bool false])
       (cond (((af.keys a0).length:Int) !=((af.keys a0).length:Int))
        (k [.d .bool false])
        (cond (((af.need a0).length:Int) !=((af.keys a0).length:Int))
         (k [.d .bool false])
         (iter (fun st k=>ev (gJ N) ox n (bl [1,1,1,1,1,1,0,1,0,0] ny) st k) n (jT (af.keys a0) ((af.keys a0).length:Int) (0:Int) (af.kind a0) (af.keys a0) (af.kids a0) (af.need a0) (af.low a0) (af.high a0) a1) (lj N n (aC (gJ N) [.ro,.ro] [false] true [.tmp 4] [4] [.d .aq a0,.d (.i .i64) a1] k))))))
      (cond ((af.kind a0)==(4:Int))
       (cond (((af.kids a0).length:Int) !=(1:Int))
        (k [.d .bool false])
        (cond (((af.keys a0).length:Int) !=(0:Int))
         (k [.d .bool false])
         (cond (((af.need a0).length:Int) !=(0:Int))
          (k [.d .bool false])
          (iter (fun st k=>ev (gJ N) ox n (bl [1,1,1,1,1,1,0,1,0,0] ny) st k) n (jT (af.keys a0) ((af.keys a0).length:Int) (0:Int) (af.kind a0) (af.keys a0) (af.kids a0) (af.need a0) (af.low a0) (af.high a0) a1) (lj N n (aC (gJ N) [.ro,.ro] [false] true [.tmp 4] [4] [.d .aq a0,.d (.i .i64) a1] k))))))
       (cond (((af.kids a0).length:Int) !=(0:Int))
        (k [.d .bool false])
        (cond (((af.keys a0).length:Int) !=(0:Int))
         (k [.d .bool false])
         (cond (((af.need a0).length:Int) !=(0:Int))
          (k [.d .bool false])
          (iter (fun st k=>ev (gJ N) ox n (bl [1,1,1,1,1,1,0,1,0,0] ny) st k) n (jT (af.keys a0) ((af.keys a0).length:Int) (0:Int) (af.kind a0) (af.keys a0) (af.kids a0) (af.need a0) (af.low a0) (af.high a0) a1) (lj N n (aC (gJ N) [.ro,.ro] [false] true [.tmp 4] [4] [.d .aq a0,.d (.i .i64) a1] k)))))))))))
  (cond ((af.kind a0)==(3:Int))
   (cond (a1==(0:Int))
    (k [.d .bool false])
    (cond (!(gZ (af.kind a0) (-1:Int) (5:Int)))
     (k [.d .bool false])
     (cond (decide ((af.low a0)>(af.high a0)))
      (k [.d .bool false])
      (cond ((af.kind a0)==(5:Int))
       (cond (((af.kids a0).length:Int) !=((af.keys a0).length:Int))
        (k [.d .bool false])
        (cond (((af.keys a0).length:Int) !=((af.keys a0).length:Int))
         (k [.d .bool false])
         (cond (((af.need a0).length:Int) !=((af.keys a0).length:Int))
          (k [.d .bool false])
          (iter (fun st k=>ev (gJ N) ox n (bl [1,1,1,1,1,1,0,1,0,0] ny) st k) n (jT (af.keys a0) ((af.keys a0).length:Int) (0:Int) (af.kind a0) (af.keys a0) (af.kids a0) (af.need a0) (af.low a0) (af.high a0) a1) (lj N n (aC (gJ N) [.ro,.ro] [false] true [.tmp 4] [4] [.d .aq a0,.d (.i .i64) a1] k))))))
       (cond ((af.kind a0)==(4:Int))
        (cond (((af.kids a0).length:Int) !=(1:Int))
         (k [.d .bool false])
         (cond (((af.keys a0).length:Int) !=(0:Int))
          (k [.d .bool false])
          (cond (((af.need a0).length:Int) !=(0:Int))
           (k [.d .bool false])
           (iter (fun st k=>ev (gJ N) ox n (bl [1,1,1,1,1,1,0,1,0,0] ny) st k) n (jT (af.keys a0) ((af.keys a0).length:Int) (0:Int) (af.kind a0) (af.keys a0) (af.kids a0) (af.need a0) (af.low a0) (af.high a0) a1) (lj N n (aC (gJ N) [.ro,.ro] [false] true [.tmp 4] [4] [.d .aq a0,.d (.i .i64) a1] k))))))
        (cond (((af.kids a0).length:Int) !=(0:Int))
         (k [.d .bool false])
         (cond (((af.keys a0).length:Int) !=(0:Int))
          (k [.d .bool false])
          (cond (((af.need a0).length:Int) !=(0:Int))
           (k [.d .bool false])
           (iter (fun st k=>ev (gJ N) ox n (bl [1,1,1,1,1,1,0,1,0,0] ny) st k) n (jT (af.keys a0) ((af.keys a0).length:Int) (0:Int) (af.kind a0) (af.keys a0) (af.kids a0) (af.need a0) (af.low a0) (af.high a0) a1) (lj N n (aC (gJ N) [.ro,.ro] [false] true [.tmp 4] [4] [.d .aq a0,.d (.i .i64) a1] k)))))))))))
   (cond (a1==(0:Int))
    (k [.d .bool false])
    (cond (!(gZ (af.kind a0) (-1:Int) (5:Int)))
     (k [.d .bool false])
     (cond (decide ((af.low a0)>(af.high a0)))
      (k [.d .bool false])
      (cond (!((af.kind a0)==(4:Int)))
       (cond ((af.low a0) !=(0:Int))
        (k [.d .bool false])
        (cond ((af.high a0) !=(0:Int))
         (k [.d .bool false])
         (cond ((af.kind a0)==(5:Int))
          (cond (((af.kids a0).length:Int) !=((af.keys a0).length:Int))
           (k [.d .bool false])
           (cond (((af.keys a0).length:Int) !=((af.keys a0).length:Int))
            (k [.d .bool false])
            (cond (((af.need a0).length:Int) !=((af.keys a0).length:Int))
             (k [.d .bool false])
             (iter (fun st k=>ev (gJ N) ox n (bl [1,1,1,1,1,1,0,1,0,0] ny) st k) n (jT (af.keys a0) ((af.keys a0).length:Int) (0:Int) (af.kind a0) (af.keys a0) (af.kids a0) (af.need a0) (af.low a0) (af.high a0) a1) (lj N n (aC (gJ N) [.ro,.ro] [false] true [.tmp 4] [4] [.d .aq a0,.d (.i .i64) a1] k))))))
          (cond ((af.kind a0)==(4:Int))
           (cond (((af.kids a0).length:Int) !=(1:Int))
            (k [.d .bool false])
            (cond (((af.keys a0).length:Int) !=(0:Int))
             (k [.d .bool false])
             (cond (((af.need a0).length:Int) !=(0:Int))
              (k [.d .bool false])
              (iter (fun st k=>ev (gJ N) ox n (bl [1,1,1,1,1,1,0,1,0,0] ny) st k) n (jT (af.keys a0) ((af.keys a0).length:Int) (0:Int) (af.kind a0) (af.keys a0) (af.kids a0) (af.need a0) (af.low a0) (af.high a0) a1) (lj N n (aC (gJ N) [.ro,.ro] [false] true [.tmp 4] [4] [.d .aq a0,.d (.i .i64) a1] k))))))
           (cond (((af.kids a0).length:Int) !=(0:Int))
            (k [.d .bool false])
            (cond (((af.keys a0).length:Int) !=(0:Int))
             (k [.d .bool false])
             (cond (((af.need a0).length:Int) !=(0:Int))
              (k [.d .bool false])
              (iter (fun st k=>ev (gJ N) ox n (bl [1,1,1,1,1,1,0,1,0,0] ny) st k) n (jT (af.keys a0) ((af.keys a0).length:Int) (0:Int) (af.kind a0) (af.keys a0) (af.kids a0) (af.need a0) (af.low a0) (af.high a0) a1) (lj N n (aC (gJ N) [.ro,.ro] [false] true [.tmp 4] [4] [.d .aq a0,.d (.i .i64) a1] k))))))))))
       (cond ((af.kind a0)==(5:Int))
        (cond (((af.kids a0).length:Int) !=((af.keys a0).length:Int))
         (k [.d .bool false])
         (cond (((af.keys a0).length:Int) !=((af.keys a0).length:Int))
          (k [.d .bool false])
          (cond (((af.need a0).length:Int) !=((af.keys a0).length:Int))
           (k [.d .bool false])
           (iter (fun st k=>ev (gJ N) ox n (bl [1,1,1,1,1,1,0,1,0,0] ny) st k) n (jT (af.keys a0) ((af.keys a0).length:Int) (0:Int) (af.kind a0) (af.keys a0) (af.kids a0) (af.need a0) (af.low a0) (af.high a0) a1) (lj N n (aC (gJ N) [.ro,.ro] [false] true [.tmp 4] [4] [.d .aq a0,.d (.i .i64) a1] k))))))
        (cond ((af.kind a0)==(4:Int))
         (cond (((af.kids a0).length:Int) !=(1:Int))
          (k [.d .bool false])
          (cond (((af.keys a0).length:Int) !=(0:Int))
           (k [.d .bool false])
           (cond (((af.need a0).length:Int) !=(0:Int))
            (k [.d .bool false])
            (iter (fun st k=>ev (gJ N) ox n (bl [1,1,1,1,1,1,0,1,0,0] ny) st k) n (jT (af.keys a0) ((af.keys a0).length:Int) (0:Int) (af.kind a0) (af.keys a0) (af.kids a0) (af.need a0) (af.low a0) (af.high a0) a1) (lj N n (aC (gJ N) [.ro,.ro] [false] true [.tmp 4] [4] [.d .aq a0,.d (.i .i64) a1] k))))))
         (cond (((af.kids a0).length:Int) !=(0:Int))
          (k [.d .bool false])
          (cond (((af.keys a0).length:Int) !=(0:Int))
           (k [.d .bool false])
           (cond (((af.need a0).length:Int) !=(0:Int))
            (k [.d .bool false])
            (iter (fun st k=>ev (gJ N) ox n (bl [1,1,1,1,1,1,0,1,0,0] ny) st k) n (jT (af.keys a0) ((af.keys a0).length:Int) (0:Int) (af.kind a0) (af.keys a0) (af.kids a0) (af.need a0) (af.low a0) (af.high a0) a1) (lj N n (aC (gJ N) [.ro,.ro] [false] true [.tmp 4] [4] [.d .aq a0,.d (.i .i64) a1] k))))))))))))))) (by kernel_rfl) ?_
  simp only [Ov,Ow,Ox]
theorem Oy (N:Nat) (a0:af) (a1:Int) (hg:iI a0 a1=true) (hm:On [.d .aq a0,.d (.i .i64) a1]=N):∃aJ rounds,∀ {R:Type} (k:Kt R),aM (gJ N) aJ rounds ny [.ro,.ro] [false] true [.tmp 4] [4] [.d .aq a0,.d (.i .i64) a1] k=k [.d .bool (bS a0 a1)]:=by
  have hm:Px a0 a1=N:=hm
  subst hm
  simp only [iI,bL,Bool.and_eq_true,decide_eq_true_eq] at hg
  obtain ⟨⟨_,ng,mL,_,_,_⟩,hd0,X9⟩:=hg
  have gk:jc a0.keys=true:=tm ng
  have lk:=bp ng
  have li:=bp mL
  have hs:a0.keys.all iH=true:=by have:=tm ng;simp only [VA,Bool.and_eq_true] at this;exact this.2
  refine ⟨ox,a0.keys.length+1,fun {R} k=> ?_⟩
  rw [SI]
  show _=k [.d .bool (bS a0 a1)]
  rw [jm]
  by_cases hd:a1=0
  · subst hd
    unfold n5
    simp only [beq_self_eq_true,cond_true]
    cases gZ a0.kind (-1) 5<;>cases decide (a0.low>a0.high)<;>cases a0.kind==(2:Int)<;>cases a0.kind==(3:Int)<;>rfl
  have X9:(a1==(0:Int))=false:=beq_eq_false_iff_ne.2 hd
  have hd2:decide (a1≤0)=false:=decide_eq_false (by omega)
  have hb:Nat.blt (yd a0.kids a1) (Px a0 a1)=true:=by rw [Nat.blt_eq];simp only [yd,Px,sx];omega
  have hgr:dV a0.kids a1=true:=by unfold dV;rw [mL,decide_eq_true (show 1≤a1 by omega),decide_eq_true (show a1≤100 by omega)];rfl
  have hL:ig (Px a0 a1) (a0.keys.length+1) (k [.d .bool false]) (fun (_:Int) (_:Bool)=>cond (dV a0.kids a1&&Nat.blt (yd a0.kids a1) (Px a0 a1)) (k [.d .bool (!(cw a0.kids a1))]) none) a0.keys (a0.keys.length:Int) a0.kind a0.keys a0.kids a0.need a0.low a0.high a1 (a0.keys.length+1) (0:Int)
      =k [.d .bool (dK a0.keys&&(a0.kids.all fun x=>bS x (a1-1)))]:=by
    refine Eq.trans (iG (n:=a0.keys.length) (F:=fun m i=>ig (Px a0 a1) (a0.keys.length+1) _ _ a0.keys (a0.keys.length:Int) a0.kind a0.keys a0.kids a0.need a0.low a0.high a1 m i) (p:=rH a0.keys) (good:=k [.d .bool (!(cw a0.kids a1))]) (bad:=k [.d .bool false])
      (fun m j hj=> ?_) (fun m=>by simp only [ig,gG,cond_false,hgr,hb,Bool.and_self,cond_true]) a0.keys.length 0 (a0.keys.length+1) (by omega) (by omega)) ?_
    · obtain ⟨h1,h0,hw,ht⟩:=idx hj (by omega)
      simp only [ig,h1,h0,hw,ht,va hs hj,Bool.and_self,cond_true]
      unfold rH
      cases dU (ar (t:= .str) a0.keys j)
      · rfl
      · by_cases hz:(j:Int)>0
        · obtain ⟨h2,h3,_,h5⟩:=idx (show j-1<a0.keys.length by omega) (by omega)
          simp only [hz,decide_true,cond_true,VE hj (by omega) (by omega),h2,h3,h5,Bool.and_self]
          cases lq (ar (t:= .str) a0.keys (j-1)) (ar (t:= .str) a0.keys j)<;>rfl
        · simp only [hz,decide_false,cond_false];rfl
    · rw [xl]
      unfold dK
      cases oY (rH a0.keys) 0 a0.keys.length<;>rfl
  simp only [X9,hL,cond_false]
  unfold n5 j7
  rw [hd2]
  cases gZ a0.kind (-1) 5
  · cases a0.kind==(2:Int)<;>cases a0.kind==(3:Int)<;>rfl
  cases decide (a0.low>a0.high)
  rotate_left
  · cases a0.kind==(2:Int)<;>cases a0.kind==(3:Int)<;>rfl
  generalize (a0.kids.all fun x=>bS x (a1-1))=kk
  have e1:((a0.kids.length:Int)==(a0.keys.length:Int))=((a0.keys.length:Int)==(a0.kids.length:Int)):=Hg _ _
  simp only [bne,beq_self_eq_true,e1,Bool.not_true,Bool.not_false,cond_true,cond_false,Bool.true_and]
  cases h2:(a0.kind==(2:Int))<;>cases h3:(a0.kind==(3:Int))<;>cases h4:(a0.kind==(4:Int))<;>cases h5:(a0.kind==(5:Int))<;>
    first
      | (exfalso;simp only [beq_iff_eq] at h2 h3 h4 h5;omega)
      | skip
  all_goals simp only [cond_true,cond_false,Bool.not_true,Bool.not_false,Bool.true_or,Bool.or_true,Bool.false_or,Bool.true_and,Bool.false_and,Bool.and_true,Bool.and_false,o3]
  all_goals
    first
      | (cases X8:((a0.keys.length:Int)==(a0.kids.length:Int))
         · (cases a0.low==(0:Int)<;>cases a0.high==(0:Int)<;>cases kk<;>rfl)
         · have e2:(a0.keys.length:Int)=(a0.kids.length:Int):=beq_iff_eq.1 X8
           rw [← e2]
           cases a0.low==(0:Int)<;>cases a0.high==(0:Int)<;>cases ((a0.need.length:Int)==(a0.keys.length:Int))<;>cases dK a0.keys<;>cases kk<;>rfl)
      | (cases hk0:((a0.keys.length:Int)==(0:Int))
         · (cases a0.low==(0:Int)<;>cases a0.high==(0:Int)<;>cases ((a0.kids.length:Int)==(1:Int))<;>cases ((a0.kids.length:Int)==(0:Int))<;>cases kk<;>rfl)
         · rw [DA (beq_iff_eq.1 hk0)]
           cases a0.low==(0:Int)<;>cases a0.high==(0:Int)<;>cases ((a0.kids.length:Int)==(1:Int))<;>cases ((a0.kids.length:Int)==(0:Int))<;>cases ((a0.need.length:Int)==(0:Int))<;>cases kk<;>rfl)
noncomputable def Xc:Code:=(Tryd.f83.body).getD .skip
def aaZ:Nat→Kp:=fT [⟨[1,2],[],[],[]⟩,⟨[3],[],[],[]⟩]
noncomputable def Xd (N:Nat):Env:=b9.env [(54,aaV N)]
theorem SJ {R:Type} (N:Nat) (n:Nat) (k:Kt R) (a0:af) (a1:Int):aM (Xd N) aaZ n Xc [.ro,.CA] [false] true [.tmp 3] [4] [.d .aq a0,.d (.i .i64) a1] k=
 (cond ((iI (eR a0) (IntKind.wrap .i64 (a1-(1:Int))))&&(Nat.blt (Px (eR a0) (IntKind.wrap .i64 (a1-(1:Int)))) N))
 (k [.d .bool (!(bS (eR a0) (IntKind.wrap .i64 (a1-(1:Int)))))])
 none):=by kernel_rfl
theorem Oz (N:Nat) (a0:af) (a1:Int) (hg:pO a0 a1=true) (hm:Oo [.d .aq a0,.d (.i .i64) a1]=N):∃aJ rounds,∀ {R:Type} (k:Kt R),aM (Xd N) aJ rounds Xc [.ro,.CA] [false] true [.tmp 3] [4] [.d .aq a0,.d (.i .i64) a1] k=k [.d .bool (kV a0 a1)]:=by
 have hm:TS a0 a1=N:=hm
 subst hm
 simp only [pO,Bool.and_eq_true,decide_eq_true_eq] at hg
 obtain ⟨hs,hd0,X9⟩:=hg
 have hb:Nat.blt (Px a0 (a1-1)) (TS a0 a1)=true:=by rw [Nat.blt_eq];simp only [Px,TS];omega
 have Ed:iI a0 (a1-1)=true:=by
  unfold iI;rw [hs,decide_eq_true (show 0≤a1-1 by omega),decide_eq_true (show a1-1≤100 by omega)];rfl
 refine ⟨aaZ,0,fun {R} k=> ?_⟩
 rw [SJ]
 simp only [bN,cM,cu (x:=a1-1) (by omega) (by omega),Ed,hb,Bool.and_self,cond_true]
 rfl
noncomputable def Xe:Code:=(Tryd.f82.body).getD .skip
def aa0:Nat→Kp:=fT [⟨[0,1],[],[],[]⟩,⟨[4],[],[],[]⟩]
noncomputable def Xf (N:Nat):Env:=b9.env [(83,HY N),(105,UA N)]
theorem SK {R:Type} (N:Nat) (n:Nat) (k:Kt R) (a0:List af) (a1:Int):aM (Xf N) aa0 n Xe [.ro,.fn] [false] true [.tmp 4] [4] [.d (.sl .aq) a0,.fH 83 [⟨(.i .i64),a1⟩]] k=
 (cond ((dV a0 a1)&&(Nat.blt (TT a0 a1) N))
 (k [.d .bool (decide ((oL a0 a1)≥(0:Int)))])
 none):=by kernel_rfl
theorem OA (N:Nat) (a0:List af) (a1:Int) (hg:dV a0 a1=true) (hm:Oq [.d (.sl .aq) a0,.fH 83 [⟨(.i .i64),a1⟩]]=N):∃aJ rounds,∀ {R:Type} (k:Kt R),aM (Xf N) aJ rounds Xe [.ro,.fn] [false] true [.tmp 4] [4] [.d (.sl .aq) a0,.fH 83 [⟨(.i .i64),a1⟩]] k=k [.d .bool (cw a0 a1)]:=by
 have hm:yd a0 a1=N:=hm
 subst hm
 have hb:Nat.blt (TT a0 a1) (yd a0 a1)=true:=by rw [Nat.blt_eq];simp only [TT,yd];omega
 refine ⟨aa0,0,fun {R} k=> ?_⟩
 rw [SK]
 simp only [hg,hb,Bool.and_self,cond_true]
 unfold oL
 rw [vk];rfl
noncomputable def Aq (y0:List af) (y1:Int) (y2:Int) (y3:Int):St:=⟨[(0,.c (.one (.ro .aq y0))),(1,.c (.one (.oT 83 [⟨(.i .i64),y1⟩]))),(7,.c (.one (.v (.int .i64 y2)))),(8,.c (.one (.v (.int .i64 y3))))],[],[]⟩
noncomputable def Ee (y0:Int):St:=⟨[(4,.c (.one (.v (.int .i64 y0))))],[],[]⟩
noncomputable def Ef (y0:List af) (y1:Int) (y2:Int) (y3:Int) (y4:Bool):St:=⟨[(0,.c (.one (.ro .aq y0))),(1,.c (.one (.oT 83 [⟨(.i .i64),y1⟩]))),(7,.c (.one (.v (.int .i64 y2)))),(8,.c (.one (.v (.int .i64 y3)))),(9,.c (.one (.v (.bool y4))))],[],[]⟩
noncomputable def wo:Code:=(Tryd.f105.body).getD .skip
def yF:Nat→Kp:=fT [⟨[0,1],[],[],[]⟩,⟨[0,1,7,8],[],[],[]⟩,⟨[0,1,7,8,9],[],[],[]⟩,⟨[0,1,5,7,8],[],[],[]⟩,⟨[0,1,5,7,8,16],[],[],[]⟩,⟨[4],[],[],[]⟩,⟨[0,1,7,8],[],[],[]⟩,⟨[4],[],[],[]⟩]
noncomputable def pB (N:Nat):Env:=b9.env [(83,HY N)]
noncomputable def pX {R:Type} (N:Nat) (n:Nat) (x0:Int→Option R) (x1:Int→Bool→Option R) (wK:List af) (jF:Int) (wQ:Int):Nat→Int→Option R
  | 0,_=>none
  | m+1,wH=>
    (cond (decide (wH<wQ))
   (cond ((decide ((0:Int)≤wH))&&(decide (wH<(wK.length:Int))))
    (cond ((pO (eR (ar (t:= .aq) wK (Int.toNat wH))) jF)&&(Nat.blt (TS (eR (ar (t:= .aq) wK (Int.toNat wH))) jF) N))
     (cond (kV (eR (ar (t:= .aq) wK (Int.toNat wH))) jF)
      (x0 wH)
      (pX N n x0 x1 wK jF wQ m (IntKind.wrap .i64 (wH+(1:Int)))))
     none)
    none)
   (x1 wH (decide (wH<wQ))))
theorem OB {R:Type} (N:Nat) (n:Nat) (k':Kx R) (wK:List af) (jF:Int) (wQ:Int) (wH:Int):ev (pB N) yF n (bl [1,0,1,0,0] wo) (Aq wK jF wQ wH) k'=
 (cond (decide (wH<wQ))
 (cond ((decide ((0:Int)≤wH))&&(decide (wH<(wK.length:Int))))
 (cond ((pO (eR (ar (t:= .aq) wK (Int.toNat wH))) jF)&&(Nat.blt (TS (eR (ar (t:= .aq) wK (Int.toNat wH))) jF) N))
 (cond (kV (eR (ar (t:= .aq) wK (Int.toNat wH))) jF)
 (k' .ret (Ee wH))
 (k' .normal (Aq wK jF wQ (IntKind.wrap .i64 (wH+(1:Int))))))
 none)
 none)
 (k' (.exit 0) (Ef wK jF wQ wH (decide (wH<wQ))))):=by kernel_rfl
theorem HZ {R:Type} (N:Nat) (n:Nat) (k':Kx R) (wK:List af) (jF:Int) (wQ:Int):∀(m:Nat) (wH:Int),iter (fun st k=>ev (pB N) yF n (bl [1,0,1,0,0] wo) st k) m (Aq wK jF wQ wH) k'=pX N n (fun (wR:Int)=>k' .ret (Ee wR)) (fun (wU:Int) (wV:Bool)=>k' (.exit 0) (Ef wK jF wQ wU wV)) wK jF wQ m wH:=by
 intro m;induction m with
 | zero=>intros;rfl
 | succ m ih=>
  intro wH
  simp only [iter]
  rw [OB]
  simp only [ih,pX]
noncomputable def Eg {R:Type} (N:Nat) (n:Nat) (k':Kx R):Kx R:=(bZ 0 (dS (pB N) yF n (bl [1,1] wo) k'))
theorem H0 {R:Type} (N:Nat) (n:Nat) (k:Kt R) (a0:List af) (a1:Int) (wR:Int):Eg N n (aC (pB N) [.ro,.fn] [false] true [.tmp 4] [3] [.d (.sl .aq) a0,.fH 83 [⟨(.i .i64),a1⟩]] k) .ret (Ee wR)=
 (k [.d (.i .i64) wR]):=by kernel_rfl
theorem H2 {R:Type} (N:Nat) (n:Nat) (k:Kt R) (a0:List af) (a1:Int) (wK:List af) (jF:Int) (wQ:Int) (wU:Int) (wV:Bool):Eg N n (aC (pB N) [.ro,.fn] [false] true [.tmp 4] [3] [.d (.sl .aq) a0,.fH 83 [⟨(.i .i64),a1⟩]] k) (.exit 0) (Ef wK jF wQ wU wV)=
 (k [.d (.i .i64) (-1:Int)]):=by kernel_rfl
theorem OC {R:Type} (N:Nat) (n:Nat) (k:Kt R) (a0:List af) (a1:Int):aM (pB N) yF n wo [.ro,.fn] [false] true [.tmp 4] [3] [.d (.sl .aq) a0,.fH 83 [⟨(.i .i64),a1⟩]] k=
 (pX N n (fun (wR:Int)=>
 (k [.d (.i .i64) wR])) (fun (wU:Int) (wV:Bool)=>
 (k [.d (.i .i64) (-1:Int)])) a0 a1 (a0.length:Int) n (0:Int)):=by
 refine Eq.trans (b:=(iter (fun st k=>ev (pB N) yF n (bl [1,0,1,0,0] wo) st k) n (Aq a0 a1 (a0.length:Int) (0:Int)) (Eg N n (aC (pB N) [.ro,.fn] [false] true [.tmp 4] [3] [.d (.sl .aq) a0,.fH 83 [⟨(.i .i64),a1⟩]] k)))) (by kernel_rfl) ?_
 simp only [HZ,H0,H2]
theorem H3 (N:Nat) (a0:List af) (a1:Int) (hg:dV a0 a1=true) (hm:Cx [.d (.sl .aq) a0,.fH 83 [⟨(.i .i64),a1⟩]]=N):∃aJ rounds,∀ {R:Type} (k:Kt R),aM (pB N) aJ rounds wo [.ro,.fn] [false] true [.tmp 4] [3] [.d (.sl .aq) a0,.fH 83 [⟨(.i .i64),a1⟩]] k=k [.d (.i .i64) (oL a0 a1)]:=by
 have hm:TT a0 a1=N:=hm
 subst hm
 simp only [dV,Bool.and_eq_true,decide_eq_true_eq] at hg
 obtain ⟨hs,hd0,X9⟩:=hg
 have hl:=bp hs
 refine ⟨yF,a0.length+1,fun k=> ?_⟩
 rw [OC]
 refine Eq.trans (gi (n:=a0.length) (F:=fun m i=>pX (TT a0 a1) (a0.length+1) _ _ a0 a1 (a0.length:Int) m i) (p:=fun j=>kV (ar (t:= .aq) a0 j) a1) (hit:=fun i=>k [.d (.i .i64) i]) (miss:=k [.d (.i .i64) (-1:Int)])
  (fun m j hj=> ?_) (fun m=>by simp only [pX,gG,cond_false]) a0.length 0 (a0.length+1) (by omega) (by omega)) ?_
 ·obtain ⟨h1,h0,hw,ht⟩:=idx hj (by omega)
  have Ed:pO (ar (t:= .aq) a0 j) a1=true:=by unfold pO;rw [vd (t:= .aq) hs hj,decide_eq_true hd0,decide_eq_true X9];rfl
  have hb:Nat.blt (TS (ar (t:= .aq) a0 j) a1) (TT a0 a1)=true:=by
   obtain ⟨x,hx,_⟩:=cL hj
   have:=oK (f:=di) (List.mem_of_getElem? hx)
   rw [bz (t:= .aq) hx,Nat.blt_eq];simp only [TS,TT];omega
  simp only [pX,h1,h0,hw,ht,Bool.and_self,cond_true,bN,cM,Ed,hb]
 ·show _=k [.d (.i .i64) (zE _)]
  cases cC (fun j=>kV (ar (t:= .aq) a0 j) a1) 0 a0.length<;>rfl
theorem SL:∀x∈([⟨54,[.ro,.ro],[false],true,On,X'⟩,⟨83,[.ro,.CA],[false],true,Oo,q83⟩,⟨82,[.ro,.fn],[false],true,Oq,q82⟩,⟨105,[.ro,.fn],[false],true,Cx,Ot⟩]:List Rc),Gm.bV Tryd.prog x.f (Gm.Spec.of x.ms x.rs x.ow x.q):=by
 refine rD _ fun N hr=> ?_
 have Jb:Gm.bV Tryd.prog 54 (Gm.Spec.of [.ro,.ro] [false] true (nS On N X')):=fun {R}=>hr _ (.head _)
 have Ny:Gm.bV Tryd.prog 83 (Gm.Spec.of [.ro,.CA] [false] true (nS Oo N q83)):=fun {R}=>hr _ (.tail _ (.head _))
 have hr3:Gm.bV Tryd.prog 82 (Gm.Spec.of [.ro,.fn] [false] true (nS Oq N q82)):=fun {R}=>hr _ (.tail _ (.tail _ (.head _)))
 have hr4:Gm.bV Tryd.prog 105 (Gm.Spec.of [.ro,.fn] [false] true (nS Cx N Ot)):=fun {R}=>hr _ (.tail _ (.tail _ (.tail _ (.head _))))
 refine bJ.2 ⟨?_,bJ.2 ⟨?_,bJ.2 ⟨?_,bJ.2 ⟨?_,im⟩⟩⟩⟩
 ·have hl:∀x∈([(66,QY),(81,Z3),(82,aaY N),(83,HY N)]:List (Nat×Gm.Spec)),Gm.Good Tryd.prog x:=bJ.2 ⟨zW,bJ.2 ⟨KX,bJ.2 ⟨⟨⟨hr3,_,Tryd.func82,by kernel_rfl,of_decide_eq_true (by kernel_rfl)⟩,Gm.Spec.aB _ _ _ _⟩,bJ.2 ⟨⟨⟨Ny,_,Tryd.func83,by kernel_rfl,of_decide_eq_true (by kernel_rfl)⟩,Gm.Spec.aB _ _ _ _⟩,im⟩⟩⟩⟩
  show Gm.bV Tryd.prog 54 (Gm.Spec.of [.ro,.ro] [false] true (w8 On N X'))
  intro R
  refine aK (E:=gJ N) (aV.env hl) (b9.cF hl) Tryd.func54 (by kernel_rfl:Tryd.f54.body=some ny) [4] (by kernel_rfl) ?_
  intro ds outs h
  obtain ⟨h,hm⟩:=cT h
  unfold X' at h
  split at h
  ·simp only [Option.some.injEq,Prod.mk.injEq] at h;obtain ⟨hg,h⟩:=h;cases h;exact Oy N _ _ hg hm
  ·cases h
 ·have hl:∀x∈([(54,aaV N)]:List (Nat×Gm.Spec)),Gm.Good Tryd.prog x:=bJ.2 ⟨⟨⟨Jb,_,Tryd.func54,by kernel_rfl,of_decide_eq_true (by kernel_rfl)⟩,Gm.Spec.aB _ _ _ _⟩,im⟩
  show Gm.bV Tryd.prog 83 (Gm.Spec.of [.ro,.CA] [false] true (w8 Oo N q83))
  intro R
  refine aK (E:=Xd N) (aV.env hl) (b9.cF hl) Tryd.func83 (by kernel_rfl:Tryd.f83.body=some Xc) [4] (by kernel_rfl) ?_
  intro ds outs h
  obtain ⟨h,hm⟩:=cT h
  unfold q83 at h
  split at h
  ·simp only [Option.some.injEq,Prod.mk.injEq] at h;obtain ⟨hg,h⟩:=h;cases h;exact Oz N _ _ hg hm
  ·cases h
 ·have hl:∀x∈([(83,HY N),(105,UA N)]:List (Nat×Gm.Spec)),Gm.Good Tryd.prog x:=bJ.2 ⟨⟨⟨Ny,_,Tryd.func83,by kernel_rfl,of_decide_eq_true (by kernel_rfl)⟩,Gm.Spec.aB _ _ _ _⟩,bJ.2 ⟨⟨⟨hr4,_,Tryd.func105,by kernel_rfl,of_decide_eq_true (by kernel_rfl)⟩,Gm.Spec.aB _ _ _ _⟩,im⟩⟩
  show Gm.bV Tryd.prog 82 (Gm.Spec.of [.ro,.fn] [false] true (w8 Oq N q82))
  intro R
  refine aK (E:=Xf N) (aV.env hl) (b9.cF hl) Tryd.func82 (by kernel_rfl:Tryd.f82.body=some Xe) [4] (by kernel_rfl) ?_
  intro ds outs h
  obtain ⟨h,hm⟩:=cT h
  unfold q82 at h
  split at h
  ·simp only [Option.some.injEq,Prod.mk.injEq] at h;obtain ⟨hg,h⟩:=h;cases h;exact OA N _ _ hg hm
  ·cases h
 ·have hl:∀x∈([(83,HY N)]:List (Nat×Gm.Spec)),Gm.Good Tryd.prog x:=bJ.2 ⟨⟨⟨Ny,_,Tryd.func83,by kernel_rfl,of_decide_eq_true (by kernel_rfl)⟩,Gm.Spec.aB _ _ _ _⟩,im⟩
  show Gm.bV Tryd.prog 105 (Gm.Spec.of [.ro,.fn] [false] true (w8 Cx N Ot))
  intro R
  refine aK (E:=pB N) (aV.env hl) (b9.cF hl) Tryd.func105 (by kernel_rfl:Tryd.f105.body=some wo) [3] (by kernel_rfl) ?_
  intro ds outs h
  obtain ⟨h,hm⟩:=cT h
  unfold Ot at h
  split at h
  ·simp only [Option.some.injEq,Prod.mk.injEq] at h;obtain ⟨hg,h⟩:=h;cases h;exact H3 N _ _ hg hm
  ·cases h
theorem Xg:Gm.Good Tryd.prog (54,s54):=⟨⟨fun {R}=>SL _ (.head _),_,Tryd.func54,by kernel_rfl,of_decide_eq_true (by kernel_rfl)⟩,Gm.Spec.aB _ _ _ _⟩
noncomputable def Xh:Code:=(Tryd.f29.body).getD .skip
def aa1:Nat→Kp:=fT [⟨[1],[],[],[]⟩,⟨[2],[],[],[]⟩]
noncomputable def aa2:Env:=b9.env [(60,s60)]
theorem SM {R:Type} (n:Nat) (k:Kt R) (a0:af):aM aa2 aa1 n Xh [.ro] [false] true [.tmp 2] [4] [.d .aq a0] k=
 (cond (iI (eR a0) (8:Int))
 (k [.d .bool (bS (eR a0) (8:Int))])
 none):=by kernel_rfl
theorem OD (a0:af) (hg:bm a0=true):∃aJ rounds,∀ {R:Type} (k:Kt R),aM aa2 aJ rounds Xh [.ro] [false] true [.tmp 2] [4] [.d .aq a0] k=k [.d .bool (e9 a0)]:=by
 have Ed:iI a0 8=true:=by unfold iI;rw [hg];rfl
 refine ⟨aa1,0,fun {R} k=> ?_⟩
 rw [SM]
 simp only [bN,cM,Ed,cond_true]
 rfl
noncomputable def q29:Qt
 | [.d .aq a0]=>some ((bm a0),[.d .bool (e9 a0)])
 | _=>none
noncomputable def s29:Gm.Spec:=Gm.Spec.of [.ro] [false] true q29
theorem Xi:Gm.Good Tryd.prog (29,s29):=by
 have hl:∀x∈[(60,s60)],Gm.Good Tryd.prog x:=bJ.2 ⟨Xb,im⟩
 refine ⟨⟨aK (aV.env hl) (b9.cF hl) Tryd.func29 (by kernel_rfl:Tryd.f29.body=some Xh) [4] (by kernel_rfl) ?_,_,Tryd.func29,by kernel_rfl,of_decide_eq_true (by kernel_rfl)⟩,Gm.Spec.aB _ _ _ _⟩
 intro ds outs h
 unfold q29 at h
 split at h
 ·simp only [Option.some.injEq,Prod.mk.injEq] at h;obtain ⟨hg,h⟩:=h;cases h;exact OD _ hg
 ·cases h
noncomputable def Xj:Code:=(Tryd.f23.body).getD .skip
def aa3:Nat→Kp:=fT [⟨[1],[],[],[]⟩,⟨[2],[],[],[]⟩]
noncomputable def aa4:Env:=b9.env [(54,s54)]
theorem SN {R:Type} (n:Nat) (k:Kt R) (a0:af):aM aa4 aa3 n Xj [.ro] [false] true [.tmp 2] [4] [.d .aq a0] k=
 (cond (iI (eR a0) (8:Int))
 (k [.d .bool (bS (eR a0) (8:Int))])
 none):=by kernel_rfl
theorem OE (a0:af) (hg:bm a0=true):∃aJ rounds,∀ {R:Type} (k:Kt R),aM aa4 aJ rounds Xj [.ro] [false] true [.tmp 2] [4] [.d .aq a0] k=k [.d .bool (e9 a0)]:=by
 have Ed:iI a0 8=true:=by unfold iI;rw [hg];rfl
 refine ⟨aa3,0,fun {R} k=> ?_⟩
 rw [SN]
 simp only [bN,cM,Ed,cond_true]
 rfl
noncomputable def q23:Qt
 | [.d .aq a0]=>some ((bm a0),[.d .bool (e9 a0)])
 | _=>none
noncomputable def Xk:Gm.Spec:=Gm.Spec.of [.ro] [false] true q23
theorem Eh:Gm.Good Tryd.prog (23,Xk):=by
 have hl:∀x∈[(54,s54)],Gm.Good Tryd.prog x:=bJ.2 ⟨Xg,im⟩
 refine ⟨⟨aK (aV.env hl) (b9.cF hl) Tryd.func23 (by kernel_rfl:Tryd.f23.body=some Xj) [4] (by kernel_rfl) ?_,_,Tryd.func23,by kernel_rfl,of_decide_eq_true (by kernel_rfl)⟩,Gm.Spec.aB _ _ _ _⟩
 intro ds outs h
 unfold q23 at h
 split at h
 ·simp only [Option.some.injEq,Prod.mk.injEq] at h;obtain ⟨hg,h⟩:=h;cases h;exact OE _ hg
 ·cases h
noncomputable def Xl:Code:=(Tryd.f25.body).getD .skip
def aa5:Nat→Kp:=fT [⟨[2,3,4],[],[],[]⟩,⟨[2,3,4,7],[],[],[]⟩,⟨[4],[],[],[]⟩,⟨[4],[],[],[]⟩]
noncomputable def aa6:Env:=b9.env [(29,s29),(57,HI),(58,s58)]
theorem SO {R:Type} (n:Nat) (k:Kt R) (a0:ae) (a1:af):aM aa6 aa5 n Xl [.ro,.ro] [false] true [.cell 4 35] [35] [.d .node a0,.d .aq a1] k=
 (cond (bm (eR a1))
 (cond (!(e9 (eR a1)))
 (cond (ak (eN a0))
 (k [.d .node (eN a0)])
 none)
 (cond (tp (eN a0) (eR a1))
 (k [.d .node (eN (prune (eN a0) (eR a1)))])
 none))
 none):=by kernel_rfl
theorem OF (a0:ae) (a1:af) (hg:(ak a0&&bm a1)=true):∃aJ rounds,∀ {R:Type} (k:Kt R),aM aa6 aJ rounds Xl [.ro,.ro] [false] true [.cell 4 35] [35] [.d .node a0,.d .aq a1] k=k [.d .node (aG a0 a1)]:=by
 simp only [Bool.and_eq_true] at hg
 obtain ⟨hg,hr⟩:=hg
 refine ⟨aa5,0,fun {R} k=> ?_⟩
 rw [SO]
 simp only [aT,bu,bN,cM,hg,hr,cond_true]
 show _=k [.d .node (aG a0 a1)]
 unfold aG
 cases ho:e9 a1
 ·rfl
 ·have hp:tp a0 a1=true:=by
   simp only [tp,Bool.and_eq_true]
   exact ⟨hg,hr,fl a1 8 ho⟩
  rw [hp];rfl
noncomputable def q25:Qt
 | [.d .node a0,.d .aq a1]=>some (((fun (x:ae) (y:af)=>ak x&&bm y) a0 a1),[.d .node (aG a0 a1)])
 | _=>none
noncomputable def s25:Gm.Spec:=Gm.Spec.of [.ro,.ro] [false] true q25
theorem Xm:Gm.Good Tryd.prog (25,s25):=by
 have hl:∀x∈[(29,s29),(57,HI),(58,s58)],Gm.Good Tryd.prog x:=bJ.2 ⟨Xi,bJ.2 ⟨rT,bJ.2 ⟨W4,im⟩⟩⟩
 refine ⟨⟨aK (aV.env hl) (b9.cF hl) Tryd.func25 (by kernel_rfl:Tryd.f25.body=some Xl) [35] (by kernel_rfl) ?_,_,Tryd.func25,by kernel_rfl,of_decide_eq_true (by kernel_rfl)⟩,Gm.Spec.aB _ _ _ _⟩
 intro ds outs h
 unfold q25 at h
 split at h
 ·simp only [Option.some.injEq,Prod.mk.injEq] at h;obtain ⟨hg,h⟩:=h;cases h;exact OF _ _ hg
 ·cases h
noncomputable def Xn:Code:=(Tryd.f21.body).getD .skip
def aa7:Nat→Kp:=fT [⟨[2,3,4],[],[],[]⟩,⟨[2,3,4,7],[],[],[]⟩,⟨[4],[],[],[]⟩,⟨[4],[],[],[]⟩]
noncomputable def aa8:Env:=b9.env [(23,Xk),(50,s50),(51,s51)]
theorem SP {R:Type} (n:Nat) (k:Kt R) (a0:ae) (a1:af):aM aa8 aa7 n Xn [.ro,.ro] [false] true [.cell 4 35] [35] [.d .node a0,.d .aq a1] k=
 (cond (bm (eR a1))
 (cond (!(e9 (eR a1)))
 (cond (ak (eN a0))
 (k [.d .node (eN a0)])
 none)
 (cond (tp (eN a0) (eR a1))
 (k [.d .node (eN (prune (eN a0) (eR a1)))])
 none))
 none):=by kernel_rfl
theorem OG (a0:ae) (a1:af) (hg:(ak a0&&bm a1)=true):∃aJ rounds,∀ {R:Type} (k:Kt R),aM aa8 aJ rounds Xn [.ro,.ro] [false] true [.cell 4 35] [35] [.d .node a0,.d .aq a1] k=k [.d .node (aG a0 a1)]:=by
 simp only [Bool.and_eq_true] at hg
 obtain ⟨hg,hr⟩:=hg
 refine ⟨aa7,0,fun {R} k=> ?_⟩
 rw [SP]
 simp only [aT,bu,bN,cM,hg,hr,cond_true]
 show _=k [.d .node (aG a0 a1)]
 unfold aG
 cases ho:e9 a1
 ·rfl
 ·have hp:tp a0 a1=true:=by
   simp only [tp,Bool.and_eq_true]
   exact ⟨hg,hr,fl a1 8 ho⟩
  rw [hp];rfl
noncomputable def q21:Qt
 | [.d .node a0,.d .aq a1]=>some (((fun (x:ae) (y:af)=>ak x&&bm y) a0 a1),[.d .node (aG a0 a1)])
 | _=>none
noncomputable def s21:Gm.Spec:=Gm.Spec.of [.ro,.ro] [false] true q21
theorem Xo:Gm.Good Tryd.prog (21,s21):=by
 have hl:∀x∈[(23,Xk),(50,s50),(51,s51)],Gm.Good Tryd.prog x:=bJ.2 ⟨Eh,bJ.2 ⟨LG,bJ.2 ⟨W2,im⟩⟩⟩
 refine ⟨⟨aK (aV.env hl) (b9.cF hl) Tryd.func21 (by kernel_rfl:Tryd.f21.body=some Xn) [35] (by kernel_rfl) ?_,_,Tryd.func21,by kernel_rfl,of_decide_eq_true (by kernel_rfl)⟩,Gm.Spec.aB _ _ _ _⟩
 intro ds outs h
 unfold q21 at h
 split at h
 ·simp only [Option.some.injEq,Prod.mk.injEq] at h;obtain ⟨hg,h⟩:=h;cases h;exact OG _ _ hg
 ·cases h
noncomputable def Xp:Code:=(Tryd.f11.body).getD .skip
def aa9:Nat→Kp:=fT [⟨[2,3],[],[],[]⟩,⟨[2,3,7],[],[],[]⟩,⟨[4],[],[],[]⟩,⟨[4],[],[],[]⟩]
noncomputable def aa':Env:=b9.env [(23,Xk),(40,s40)]
theorem SQ {R:Type} (n:Nat) (k:Kt R) (a0:ae) (a1:af):aM aa' aa9 n Xp [.ro,.ro] [false] true [.tmp 4] [22] [.d .node a0,.d .aq a1] k=
 (cond (bm (eR a1))
 (cond (!(e9 (eR a1)))
 (k [.d (.sl .str) ([]:List BA)])
 (cond (fD (eN a0) (eR a1) ([]:List BA))
 (k [.d (.sl .str) ((cO aL) (eN a0) (eR a1) ([]:List BA))])
 none))
 none):=by kernel_rfl
theorem OH (a0:ae) (a1:af) (hg:oi a0 a1=true):∃aJ rounds,∀ {R:Type} (k:Kt R),aM aa' aJ rounds Xp [.ro,.ro] [false] true [.tmp 4] [22] [.d .node a0,.d .aq a1] k=k [.d (.sl .str) (db a0 a1)]:=by
 have pg:=hg
 simp only [oi,Bool.and_eq_true] at pg
 refine ⟨aa9,0,fun {R} k=> ?_⟩
 rw [SQ]
 show _=k [.d (.sl .str) (db a0 a1)]
 unfold db
 simp only [bu,cM,pg.2.1,cond_true]
 cases hr:e9 a1
 ·rfl
 ·simp only [sI hg hr,Bool.not_true,cond_true,cond_false]
noncomputable def q11:Qt
 | [.d .node a0,.d .aq a1]=>some ((oi a0 a1),[.d (.sl .str) (db a0 a1)])
 | _=>none
noncomputable def s11:Gm.Spec:=Gm.Spec.of [.ro,.ro] [false] true q11
theorem Xq:Gm.Good Tryd.prog (11,s11):=by
 have hl:∀x∈[(23,Xk),(40,s40)],Gm.Good Tryd.prog x:=bJ.2 ⟨Eh,bJ.2 ⟨W9,im⟩⟩
 refine ⟨⟨aK (aV.env hl) (b9.cF hl) Tryd.func11 (by kernel_rfl:Tryd.f11.body=some Xp) [22] (by kernel_rfl) ?_,_,Tryd.func11,by kernel_rfl,of_decide_eq_true (by kernel_rfl)⟩,Gm.Spec.aB _ _ _ _⟩
 intro ds outs h
 unfold q11 at h
 split at h
 ·simp only [Option.some.injEq,Prod.mk.injEq] at h;obtain ⟨hg,h⟩:=h;cases h;exact OH _ _ hg
 ·cases h
noncomputable def Gl (y0:List BA) (y1:BA) (y2:Int):St:=⟨[(0,.c (.one (.ro .str y0))),(1,.c (.one (.v (.string y1)))),(5,.c (.one (.v (.int .i64 y2))))],[],[]⟩
noncomputable def OI:St:=⟨[(4,.c (.one (.v (.bool true))))],[],[]⟩
noncomputable def OJ (y0:List BA) (y1:BA) (y2:Int) (y3:Bool):St:=⟨[(0,.c (.one (.ro .str y0))),(1,.c (.one (.v (.string y1)))),(5,.c (.one (.v (.int .i64 y2)))),(9,.c (.one (.v (.bool y3))))],[],[]⟩
noncomputable def Ei:Code:=(Tryd.f26.body).getD .skip
def H4:Nat→Kp:=fT [⟨[0,1],[],[],[]⟩,⟨[0,1,5],[],[],[]⟩,⟨[0,1,5,9],[],[],[]⟩,⟨[0,1,5],[],[],[]⟩,⟨[0,1,5,17],[],[],[]⟩,⟨[4],[],[],[]⟩,⟨[4],[],[],[]⟩]
noncomputable def Ar:Env:=b9.env []
noncomputable def wq {R:Type} (n:Nat) (x0:Option R) (x1:Int→Bool→Option R) (wB:List BA) (wC:BA):Nat→Int→Option R
  | 0,_=>none
  | m+1,wA=>
    (cond (decide (wA<(wB.length:Int)))
   (cond ((decide ((0:Int)≤wA))&&(decide (wA<(wB.length:Int))))
    (cond (eC (ar (t:= .str) wB (Int.toNat wA)) wC)
     (x0)
     (wq n x0 x1 wB wC m (IntKind.wrap .i64 (wA+(1:Int)))))
    none)
   (x1 wA (decide (wA<(wB.length:Int)))))
theorem SR {R:Type} (n:Nat) (k':Kx R) (wB:List BA) (wC:BA) (wA:Int):ev Ar H4 n (bl [1,0,1,0,0] Ei) (Gl wB wC wA) k'=
 (cond (decide (wA<(wB.length:Int)))
 (cond ((decide ((0:Int)≤wA))&&(decide (wA<(wB.length:Int))))
 (cond (eC (ar (t:= .str) wB (Int.toNat wA)) wC)
 (k' .ret OI)
 (k' .normal (Gl wB wC (IntKind.wrap .i64 (wA+(1:Int))))))
 none)
 (k' (.exit 0) (OJ wB wC wA (decide (wA<(wB.length:Int)))))):=by kernel_rfl
theorem OL {R:Type} (n:Nat) (k':Kx R) (wB:List BA) (wC:BA):∀(m:Nat) (wA:Int),iter (fun st k=>ev Ar H4 n (bl [1,0,1,0,0] Ei) st k) m (Gl wB wC wA) k'=wq n (k' .ret OI) (fun (wD:Int) (wE:Bool)=>k' (.exit 0) (OJ wB wC wD wE)) wB wC m wA:=by
 intro m;induction m with
 | zero=>intros;rfl
 | succ m ih=>
  intro wA
  simp only [iter]
  rw [SR]
  simp only [ih,wq]
noncomputable def OM {R:Type} (n:Nat) (k':Kx R):Kx R:=(bZ 0 (dS Ar H4 n (bl [1,1] Ei) k'))
theorem ON {R:Type} (n:Nat) (k:Kt R) (a0:List BA) (a1:BA):OM n (aC Ar [.ro,.ro] [false] true [.tmp 4] [4] [.d (.sl .str) a0,.d .str a1] k) .ret OI=
 (k [.d .bool true]):=by kernel_rfl
theorem OO {R:Type} (n:Nat) (k:Kt R) (a0:List BA) (a1:BA) (wB:List BA) (wC:BA) (wD:Int) (wE:Bool):OM n (aC Ar [.ro,.ro] [false] true [.tmp 4] [4] [.d (.sl .str) a0,.d .str a1] k) (.exit 0) (OJ wB wC wD wE)=
 (k [.d .bool false]):=by kernel_rfl
theorem SS {R:Type} (n:Nat) (k:Kt R) (a0:List BA) (a1:BA):aM Ar H4 n Ei [.ro,.ro] [false] true [.tmp 4] [4] [.d (.sl .str) a0,.d .str a1] k=
 (wq n (k [.d .bool true]) (fun (wD:Int) (wE:Bool)=>
 (k [.d .bool false])) a0 a1 n (0:Int)):=by
 refine Eq.trans (b:=(iter (fun st k=>ev Ar H4 n (bl [1,0,1,0,0] Ei) st k) n (Gl a0 a1 (0:Int)) (OM n (aC Ar [.ro,.ro] [false] true [.tmp 4] [4] [.d (.sl .str) a0,.d .str a1] k)))) (by kernel_rfl) ?_
 simp only [OL,ON,OO]
theorem OP (a0:List BA) (a1:BA) (hg:fW a0=true):∃aJ rounds,∀ {R:Type} (k:Kt R),aM Ar aJ rounds Ei [.ro,.ro] [false] true [.tmp 4] [4] [.d (.sl .str) a0,.d .str a1] k=k [.d .bool (qE a0 a1)]:=by
 have hl:=vh hg
 refine ⟨H4,a0.length+1,fun k=> ?_⟩
 rw [SS]
 refine Eq.trans (gi (n:=a0.length) (F:=fun m i=>wq (a0.length+1) _ _ a0 a1 m i) (p:=fun j=>eC (ar (t:= .str) a0 j) a1) (hit:=fun i=>k [.d .bool true]) (miss:=k [.d .bool false])
  (fun m j hj=> ?_) (fun m=>by simp only [wq,gG,cond_false]) a0.length 0 (a0.length+1) (by omega) (by omega)) ?_
 ·obtain ⟨h1,h0,hw,ht⟩:=idx hj (by omega)
  simp only [wq,h1,h0,hw,ht,Bool.and_self,cond_true]
 ·show _=k [.d .bool (a0.any fun x=>eC x a1)]
  have e:=vj (t:= .str) (fun x=>eC x a1) a0
  cases hf:cC (fun j=>eC (ar (t:= .str) a0 j) a1) 0 a0.length<;>(rw [hf] at e;rw [← e];rfl)
noncomputable def q26:Qt
 | [.d (.sl .str) a0,.d .str a1]=>some (((fun (l:List BA) (_:BA)=>fW l) a0 a1),[.d .bool (qE a0 a1)])
 | _=>none
noncomputable def s26:Gm.Spec:=Gm.Spec.of [.ro,.ro] [false] true q26
theorem Xr:Gm.Good Tryd.prog (26,s26):=by
 have hl:∀x∈([]:List (Nat×Gm.Spec)),Gm.Good Tryd.prog x:=fun _ h=>by cases h
 refine ⟨⟨aK (aV.env hl) (b9.cF hl) Tryd.func26 (by kernel_rfl:Tryd.f26.body=some Ei) [4] (by kernel_rfl) ?_,_,Tryd.func26,by kernel_rfl,of_decide_eq_true (by kernel_rfl)⟩,Gm.Spec.aB _ _ _ _⟩
 intro ds outs h
 unfold q26 at h
 split at h
 ·simp only [Option.some.injEq,Prod.mk.injEq] at h;obtain ⟨hg,h⟩:=h;cases h;exact OP _ _ hg
 ·cases h
noncomputable def q52:Qt
 | [.d .node a0,.d (.i .i64) a1]=>some ((pf a0 a1),[.d (.i .i64) ((iM a0 a1).1),.d (.i .i64) ((iM a0 a1).2)])
 | _=>none
noncomputable def Xs:List Dt→Nat
 | [.d .node a0,.d (.i .i64) a1]=>(fun (t:ae) (_:Int)=>ao t) a0 a1
 | _=>0
noncomputable def abb (N:Nat):Gm.Spec:=Gm.Spec.of [.ro,.ro] [false,false] true (nS Xs N q52)
noncomputable def Gn (y0:Int) (y1:Int) (y2:Int) (y3:List ae) (y4:Int) (y5:Int):St:=⟨[(1,.c (.one (.v (.int .i64 y0)))),(6,.c (.one (.v (.int .i64 y1)))),(7,.c (.one (.v (.int .i64 y2)))),(15,.c (.one (.ro .node y3))),(16,.c (.one (.v (.int .i64 y4)))),(17,.c (.one (.v (.int .i64 y5))))],[],[]⟩
noncomputable def OQ (y0:Int) (y1:Int) (y2:Int) (y3:List ae) (y4:Int) (y5:Int) (y6:Bool):St:=⟨[(1,.c (.one (.v (.int .i64 y0)))),(6,.c (.one (.v (.int .i64 y1)))),(7,.c (.one (.v (.int .i64 y2)))),(15,.c (.one (.ro .node y3))),(16,.c (.one (.v (.int .i64 y4)))),(17,.c (.one (.v (.int .i64 y5)))),(18,.c (.one (.v (.bool y6))))],[],[]⟩
noncomputable def Ej:Code:=(Tryd.f52.body).getD .skip
def H5:Nat→Kp:=fT [⟨[1,2],[],[],[]⟩,⟨[1,2,13],[],[],[]⟩,⟨[4,5],[],[],[]⟩,⟨[1,2,6,7],[],[],[]⟩,⟨[1,6,7,15,16,17],[],[],[]⟩,⟨[1,6,7,15,16,17,18],[],[],[]⟩,⟨[1,6,7,9,15,16,17],[],[],[]⟩,⟨[1,6,7,10,11,15,16,17],[],[],[]⟩,⟨[1,6,7,11,15,16,17],[],[],[]⟩,⟨[1,6,7,15,16,17],[],[],[]⟩,⟨[1,6,7,15,16,17],[],[],[]⟩,⟨[4,5],[],[],[]⟩]
noncomputable def As (N:Nat):Env:=b9.env [(52,abb N)]
noncomputable def wu {R:Type} (N:Nat) (n:Nat) (x0:Int→Int→Int→Bool→Option R) (wM:Int) (wK:List ae) (wQ:Int):Nat→Int→Int→Int→Option R
  | 0,_,_,_=>none
  | m+1,wS,wI,wH=>
    (cond (decide (wH<wQ))
   (cond ((decide ((0:Int)≤wH))&&(decide (wH<(wK.length:Int))))
    (cond ((pf (eN (ar (t:= .node) wK (Int.toNat wH))) (IntKind.wrap .i64 (wM-(1:Int))))&&(Nat.blt ((fun (t:ae) (_:Int)=>ao t) (eN (ar (t:= .node) wK (Int.toNat wH))) (IntKind.wrap .i64 (wM-(1:Int)))) N))
     (wu N n x0 wM wK wQ m (if (201:Int)<(IntKind.wrap .i64 (wS+((iM (eN (ar (t:= .node) wK (Int.toNat wH))) (IntKind.wrap .i64 (wM-(1:Int)))).1))) then (201:Int) else (IntKind.wrap .i64 (wS+((iM (eN (ar (t:= .node) wK (Int.toNat wH))) (IntKind.wrap .i64 (wM-(1:Int)))).1)))) (if ((iM (eN (ar (t:= .node) wK (Int.toNat wH))) (IntKind.wrap .i64 (wM-(1:Int)))).2)>wI then ((iM (eN (ar (t:= .node) wK (Int.toNat wH))) (IntKind.wrap .i64 (wM-(1:Int)))).2) else wI) (IntKind.wrap .i64 (wH+(1:Int))))
     none)
    none)
   (x0 wS wI wH (decide (wH<wQ))))
theorem SU {R:Type} (N:Nat) (n:Nat) (k':Kx R) (wM:Int) (wS:Int) (wI:Int) (wK:List ae) (wQ:Int) (wH:Int):ev (As N) H5 n (bl [1,1,1,0,1,0,0] Ej) (Gn wM wS wI wK wQ wH) k'=
 (cond (decide (wH<wQ))
 (cond ((decide ((0:Int)≤wH))&&(decide (wH<(wK.length:Int))))
 (cond ((pf (eN (ar (t:= .node) wK (Int.toNat wH))) (IntKind.wrap .i64 (wM-(1:Int))))&&(Nat.blt ((fun (t:ae) (_:Int)=>ao t) (eN (ar (t:= .node) wK (Int.toNat wH))) (IntKind.wrap .i64 (wM-(1:Int)))) N))
 (k' .normal (Gn wM (if (201:Int)<(IntKind.wrap .i64 (wS+((iM (eN (ar (t:= .node) wK (Int.toNat wH))) (IntKind.wrap .i64 (wM-(1:Int)))).1))) then (201:Int) else (IntKind.wrap .i64 (wS+((iM (eN (ar (t:= .node) wK (Int.toNat wH))) (IntKind.wrap .i64 (wM-(1:Int)))).1)))) (if ((iM (eN (ar (t:= .node) wK (Int.toNat wH))) (IntKind.wrap .i64 (wM-(1:Int)))).2)>wI then ((iM (eN (ar (t:= .node) wK (Int.toNat wH))) (IntKind.wrap .i64 (wM-(1:Int)))).2) else wI) wK wQ (IntKind.wrap .i64 (wH+(1:Int)))))
 none)
 none)
 (k' (.exit 0) (OQ wM wS wI wK wQ wH (decide (wH<wQ))))):=by kernel_rfl
theorem OR {R:Type} (N:Nat) (n:Nat) (k':Kx R) (wM:Int) (wK:List ae) (wQ:Int):∀(m:Nat) (wS:Int) (wI:Int) (wH:Int),iter (fun st k=>ev (As N) H5 n (bl [1,1,1,0,1,0,0] Ej) st k) m (Gn wM wS wI wK wQ wH) k'=wu N n (fun (wV:Int) (wW:Int) (wY:Int) (wZ:Bool)=>k' (.exit 0) (OQ wM wV wW wK wQ wY wZ)) wM wK wQ m wS wI wH:=by
 intro m;induction m with
 | zero=>intros;rfl
 | succ m ih=>
  intro wS wI wH
  simp only [iter]
  rw [SU]
  simp only [ih,wu]
noncomputable def UB {R:Type} (N:Nat) (n:Nat) (k':Kx R):Kx R:=(bZ 0 (dS (As N) H5 n (bl [1,1,1,1] Ej) k'))
theorem OS {R:Type} (N:Nat) (n:Nat) (k:Kt R) (a0:ae) (a1:Int) (wM:Int) (wK:List ae) (wQ:Int) (wV:Int) (wW:Int) (wY:Int) (wZ:Bool):UB N n (aC (As N) [.ro,.ro] [false,false] true [.tmp 4,.tmp 5] [3,3] [.d .node a0,.d (.i .i64) a1] k) (.exit 0) (OQ wM wV wW wK wQ wY wZ)=
 (k [.d (.i .i64) wV,.d (.i .i64) (IntKind.wrap .i64 (wW+(1:Int)))]):=by kernel_rfl
theorem SV {R:Type} (N:Nat) (n:Nat) (k:Kt R) (a0:ae) (a1:Int):aM (As N) H5 n Ej [.ro,.ro] [false,false] true [.tmp 4,.tmp 5] [3,3] [.d .node a0,.d (.i .i64) a1] k=
 (cond (a1==(0:Int))
 (k [.d (.i .i64) (201:Int),.d (.i .i64) (9:Int)])
 (wu N n (fun (wV:Int) (wW:Int) (wY:Int) (wZ:Bool)=>
 (k [.d (.i .i64) wV,.d (.i .i64) (IntKind.wrap .i64 (wW+(1:Int)))])) a1 (ae.kids a0) ((ae.kids a0).length:Int) n (1:Int) (0:Int) (0:Int))):=by
 refine Eq.trans (b:=(cond (a1==(0:Int))
 (k [.d (.i .i64) (201:Int),.d (.i .i64) (9:Int)])
 (iter (fun st k=>ev (As N) H5 n (bl [1,1,1,0,1,0,0] Ej) st k) n (Gn a1 (1:Int) (0:Int) (ae.kids a0) ((ae.kids a0).length:Int) (0:Int)) (UB N n (aC (As N) [.ro,.ro] [false,false] true [.tmp 4,.tmp 5] [3,3] [.d .node a0,.d (.i .i64) a1] k))))) (by kernel_rfl) ?_
 simp only [OR,OS]
theorem OT (N:Nat) (a0:ae) (a1:Int) (hg:pf a0 a1=true) (hm:Xs [.d .node a0,.d (.i .i64) a1]=N):∃aJ rounds,∀ {R:Type} (k:Kt R),aM (As N) aJ rounds Ej [.ro,.ro] [false,false] true [.tmp 4,.tmp 5] [3,3] [.d .node a0,.d (.i .i64) a1] k=k [.d (.i .i64) ((iM a0 a1).1),.d (.i .i64) ((iM a0 a1).2)]:=by
 have hm:ao a0=N:=hm
 subst hm
 simp only [pf,Bool.and_eq_true,decide_eq_true_eq] at hg
 obtain ⟨hs,h0,h9⟩:=hg
 obtain ⟨_,_,_,_,hk⟩:=dr hs
 have hl:=bp hk
 refine ⟨H5,a0.kids.length+1,fun {R} k=> ?_⟩
 rw [SV]
 by_cases hz:a1=0
 ·subst hz;rfl
 obtain ⟨d,rfl⟩:∃d:Nat,a1=((d+1:Nat):Int):=⟨a1.toNat-1,by omega⟩
 have hb:(((d+1:Nat):Int)==(0:Int))=false:=beq_eq_false_iff_ne.2 (by omega)
 rw [hb]
 have hw1:IntKind.wrap .i64 (((d+1:Nat):Int)-1)=(d:Int):=by rw [cu (by omega) (by omega)];omega
 refine Eq.trans (nT (xs:=a0.kids) (F:=fun m j a=>wu (ao a0) (a0.kids.length+1) _ ((d+1:Nat):Int) a0.kids (a0.kids.length:Int) m a.1 a.2 (j:Int)) (f:=bG (eJ d)) (good:=fun a=>k [.d (.i .i64) a.1,.d (.i .i64) (IntKind.wrap .i64 (a.2+1))]) (fun _ a=>0≤a.1∧a.1≤201∧0≤a.2∧a.2≤9+d)
  (fun j a x hx hi=> ?_) (fun m j a x hx hi=> ?_) (fun m a hi=>by simp only [wu,gG,cond_false]) a0.kids.length 0 (a0.kids.length+1) (1,0) (by omega) (by omega) ⟨by decide,by decide,by decide,by show (0:Int)≤_;omega⟩) ?_
 ·have:=qK d x
  unfold bG;simp only;omega
 ·obtain ⟨h1,h0,hw,ht⟩:=idx (aY hx) (by omega)
  have nz:=List.mem_of_getElem? hx
  have q8:Nat.blt (ao x) (ao a0)=true:=by rw [Nat.blt_eq];exact bD nz
  have Ed:pf x (d:Int)=true:=by unfold pf;rw [iK hs nz,decide_eq_true (show (0:Int)≤(d:Int) by omega),decide_eq_true (show (d:Int)≤9 by omega)];rfl
  have o7:=qK d x
  have e:iM x (d:Int)=eJ d x:=by unfold iM;rw [Int.toNat_natCast]
  simp only [wu,h1,h0,hw,ht,bz (t:= .node) hx,bu,hw1,Ed,q8,e,Bool.and_self,cond_true]
  rw [← B2 (eJ d) a x ⟨hi.1,hi.2.1⟩ ⟨o7.1,o7.2.1⟩]
 ·rw [List.drop_zero]
  have hq:=qK (d+1) a0
  have e:iM a0 ((d+1:Nat):Int)=eJ (d+1) a0:=by unfold iM;rw [Int.toNat_natCast]
  rw [e]
  simp only [eJ] at hq ⊢
  rw [cu (by omega) (by omega)]
noncomputable def s52:Gm.Spec:=Gm.Spec.of [.ro,.ro] [false,false] true q52
theorem Xt:Gm.Good Tryd.prog (52,s52):=by
 refine ⟨⟨fU Xs fun N hr=> ?_,_,Tryd.func52,by kernel_rfl,of_decide_eq_true (by kernel_rfl)⟩,Gm.Spec.aB _ _ _ _⟩
 have hl:∀x∈[(52,abb N)],Gm.Good Tryd.prog x:=bJ.2 ⟨⟨⟨hr,_,Tryd.func52,by kernel_rfl,of_decide_eq_true (by kernel_rfl)⟩,Gm.Spec.aB _ _ _ _⟩,im⟩
 intro R
 refine aK (E:=As N) (aV.env hl) (b9.cF hl) Tryd.func52 (by kernel_rfl:Tryd.f52.body=some Ej) [3,3] (by kernel_rfl) ?_
 intro ds outs h
 obtain ⟨h,hm⟩:=cT h
 unfold q52 at h
 split at h
 ·simp only [Option.some.injEq,Prod.mk.injEq] at h;obtain ⟨hg,h⟩:=h;cases h;exact OT N _ _ hg hm
 ·cases h
noncomputable def pC (y2:Int) (y3:Int) (y4:BA) (y5:List BA) (y6:List ae) (y7:Int) (y8:Int) (y9:BA):St:=⟨[(1,.c (.one (.pt 1 0))),(3,.c (.one (.pt 3 0))),(61,.c (.one (.nl))),(62,.c (.one (.v (.int .i64 (0:Int))))),(63,.c (.one (.v (.int .i64 (0:Int)))))],[(1,⟨.node,[.v (.int .i64 y2),.v (.int .i64 y3),.v (.string y4),.ro .str y5,.ro .node y6]⟩),(3,⟨.node,[.v (.int .i64 y7),.v (.int .i64 y8),.v (.string y9),.nl,.nl]⟩)],[]⟩
noncomputable def q5 (y3:Int) (y4:Int) (y5:BA) (y6:List BA) (y7:List ae) (y8:Int) (y9:Int) (fc:BA):St:=⟨[(1,.c (.one (.pt 1 0))),(3,.c (.one (.pt 3 0))),(61,.c (.one (.nl))),(62,.c (.one (.v (.int .i64 (0:Int))))),(63,.c (.one (.v (.int .i64 (0:Int))))),(64,.c (.one (.v (.bool false))))],[(1,⟨.node,[.v (.int .i64 y3),.v (.int .i64 y4),.v (.string y5),.ro .str y6,.ro .node y7]⟩),(3,⟨.node,[.v (.int .i64 y8),.v (.int .i64 y9),.v (.string fc),.nl,.nl]⟩)],[]⟩
noncomputable def OU (y2:Int) (y3:Int) (y4:BA) (y5:List BA) (y6:List ae) (y7:Int) (fc:List ae):St:=⟨[(1,.c (.one (.pt 1 0))),(3,.c (.one (.pt 3 0))),(61,.c (.one (.nl))),(62,.c (.one (.v (.int .i64 (0:Int))))),(63,.c (.one (.v (.int .i64 (0:Int)))))],[(1,⟨.node,[.v (.int .i64 y2),.v (.int .i64 y3),.v (.string y4),.ro .str y5,.ro .node y6]⟩),(3,⟨.node,[.v (.int .i64 y7),.v (.int .i64 (0:Int)),.v (.string ByteArray.empty),.nl,.ro .node fc]⟩)],[]⟩
noncomputable def OV (y3:Int) (y4:Int) (y5:BA) (y6:List BA) (y7:List ae) (y8:Int) (fE:List ae):St:=⟨[(1,.c (.one (.pt 1 0))),(3,.c (.one (.pt 3 0))),(61,.c (.one (.nl))),(62,.c (.one (.v (.int .i64 (0:Int))))),(63,.c (.one (.v (.int .i64 (0:Int))))),(64,.c (.one (.v (.bool false))))],[(1,⟨.node,[.v (.int .i64 y3),.v (.int .i64 y4),.v (.string y5),.ro .str y6,.ro .node y7]⟩),(3,⟨.node,[.v (.int .i64 y8),.v (.int .i64 (0:Int)),.v (.string ByteArray.empty),.nl,.ro .node fE]⟩)],[]⟩
noncomputable def Cy (y0:List BA) (y1:Int) (y2:Int) (y3:Int) (y4:Int) (y5:BA) (y6:List BA) (y7:List ae) (y8:Int) (fE:List BA) (iN:List ae):St:=⟨[(1,.c (.one (.pt 1 0))),(3,.c (.one (.pt 3 0))),(61,.c (.one (.ro .str y0))),(62,.c (.one (.v (.int .i64 y1)))),(63,.c (.one (.v (.int .i64 y2))))],[(1,⟨.node,[.v (.int .i64 y3),.v (.int .i64 y4),.v (.string y5),.ro .str y6,.ro .node y7]⟩),(3,⟨.node,[.v (.int .i64 y8),.v (.int .i64 (0:Int)),.v (.string ByteArray.empty),.ro .str fE,.ro .node iN]⟩)],[]⟩
noncomputable def Gp:St:=⟨[(2,.c (.one (.v (.bool false))))],[],[]⟩
noncomputable def OW (y0:List BA) (y1:Int) (y2:Int) (y3:Bool) (y4:Int) (y5:Int) (y6:BA) (y7:List BA) (y8:List ae) (y9:Int) (iN:List BA) (ml:List ae):St:=⟨[(1,.c (.one (.pt 1 0))),(3,.c (.one (.pt 3 0))),(61,.c (.one (.ro .str y0))),(62,.c (.one (.v (.int .i64 y1)))),(63,.c (.one (.v (.int .i64 y2)))),(64,.c (.one (.v (.bool y3))))],[(1,⟨.node,[.v (.int .i64 y4),.v (.int .i64 y5),.v (.string y6),.ro .str y7,.ro .node y8]⟩),(3,⟨.node,[.v (.int .i64 y9),.v (.int .i64 (0:Int)),.v (.string ByteArray.empty),.ro .str iN,.ro .node ml]⟩)],[]⟩
noncomputable def j0:Code:=(Tryd.f78.body).getD .skip
def kD:Nat→Kp:=fT [⟨[1],[],[],[]⟩,⟨[1,3],[],[],[]⟩,⟨[1,3,10],[],[],[]⟩,⟨[2],[],[],[]⟩,⟨[1,3,10,11],[],[],[]⟩,⟨[1,3,10,13],[],[],[]⟩,⟨[1,3,18],[],[],[]⟩,⟨[2],[],[],[]⟩,⟨[1,3],[],[],[]⟩,⟨[1,3,10,22],[],[],[]⟩,⟨[1,3,27],[],[],[]⟩,⟨[2],[],[],[]⟩,⟨[1,3],[],[],[]⟩,⟨[1,3,10,31],[],[],[]⟩,⟨[1,3,36],[],[],[]⟩,⟨[2],[],[],[]⟩,⟨[1,3],[],[],[]⟩,⟨[1,3,10,40],[],[],[]⟩,⟨[1,3],[],[],[]⟩,⟨[1,3,45],[],[],[]⟩,⟨[1,3,53],[],[],[]⟩,⟨[2],[],[],[]⟩,⟨[1,3],[],[],[]⟩,⟨[1,3,61,62,63],[],[],[]⟩,⟨[1,3,61,62,63,64],[],[],[]⟩,⟨[1,3,4,5,61,62,63],[],[],[]⟩,⟨[1,3,61,62,63,84],[],[],[]⟩,⟨[2],[],[],[]⟩,⟨[1,3,61,62,63],[],[],[]⟩,⟨[2],[],[],[]⟩]
noncomputable def ga:Env:=b9.env [(66,QY),(81,Z3)]
noncomputable def Gq {R:Type} (n:Nat) (x0:Option R) (wE:Int) (wB:Int) (wC:BA) (wA:List BA) (wD:List ae) (wF:Int):Nat→Option R
 | 0=>none
 | m+1=>
  (x0)
theorem SW {R:Type} (n:Nat) (k':Kx R) (wE:Int) (wB:Int) (wC:BA) (wA:List BA) (wD:List ae) (wF:Int):ev ga kD n (bl [1,1,1,0,1,0,0] j0) (pC wE wB wC wA wD wF (0:Int) ByteArray.empty) k'=
 (k' (.exit 1) (q5 wE wB wC wA wD wF (0:Int) ByteArray.empty)):=by kernel_rfl
theorem OX {R:Type} (n:Nat) (k':Kx R) (wE:Int) (wB:Int) (wC:BA) (wA:List BA) (wD:List ae) (wF:Int):∀(m:Nat),iter (fun st k=>ev ga kD n (bl [1,1,1,0,1,0,0] j0) st k) m (pC wE wB wC wA wD wF (0:Int) ByteArray.empty) k'=Gq n (k' (.exit 1) (q5 wE wB wC wA wD wF (0:Int) ByteArray.empty)) wE wB wC wA wD wF m:=by
 intro m;induction m with
 | zero=>intros;rfl
 | succ m ih=>
  skip
  simp only [iter]
  rw [SW]
  simp only [ih,Gq]
noncomputable def UC {R:Type} (n:Nat) (k':Kx R):Kx R:=(bZ 1 (dS ga kD n (bl [1,1,1,1] j0) k'))
theorem OY {R:Type} (n:Nat) (k:Kt R) (a0:ae) (wE:Int) (wB:Int) (wC:BA) (wA:List BA) (wD:List ae) (wF:Int):UC n (aC ga [.ro] [false] true [.tmp 2] [4] [.d .node a0] k) (.exit 1) (q5 wE wB wC wA wD wF (0:Int) ByteArray.empty)=
 (cond (wB==(0:Int))
 (cond (eC wC ByteArray.empty)
 (cond ((wA.length:Int)==(0:Int))
 (k [.d .bool ((wD.length:Int)==(0:Int))])
 (k [.d .bool false]))
 (k [.d .bool false]))
 (k [.d .bool false])):=by kernel_rfl
noncomputable def yG {R:Type} (n:Nat) (x0:Option R) (wE:Int) (wB:Int) (wC:BA) (wA:List BA) (wD:List ae) (wF:Int) (wT:Int):Nat→Option R
 | 0=>none
 | m+1=>
  (x0)
theorem SX {R:Type} (n:Nat) (k':Kx R) (wE:Int) (wB:Int) (wC:BA) (wA:List BA) (wD:List ae) (wF:Int) (wT:Int):ev ga kD n (bl [1,1,1,0,1,0,0] j0) (pC wE wB wC wA wD wF wT ByteArray.empty) k'=
 (k' (.exit 1) (q5 wE wB wC wA wD wF wT ByteArray.empty)):=by kernel_rfl
theorem OZ {R:Type} (n:Nat) (k':Kx R) (wE:Int) (wB:Int) (wC:BA) (wA:List BA) (wD:List ae) (wF:Int) (wT:Int):∀(m:Nat),iter (fun st k=>ev ga kD n (bl [1,1,1,0,1,0,0] j0) st k) m (pC wE wB wC wA wD wF wT ByteArray.empty) k'=yG n (k' (.exit 1) (q5 wE wB wC wA wD wF wT ByteArray.empty)) wE wB wC wA wD wF wT m:=by
 intro m;induction m with
 | zero=>intros;rfl
 | succ m ih=>
  skip
  simp only [iter]
  rw [SX]
  simp only [ih,yG]
noncomputable def O0 {R:Type} (n:Nat) (k':Kx R):Kx R:=(bZ 1 (dS ga kD n (bl [1,1,1,1] j0) k'))
theorem O1 {R:Type} (n:Nat) (k:Kt R) (a0:ae) (wE:Int) (wB:Int) (wC:BA) (wA:List BA) (wD:List ae) (wF:Int) (wT:Int):O0 n (aC ga [.ro] [false] true [.tmp 2] [4] [.d .node a0] k) (.exit 1) (q5 wE wB wC wA wD wF wT ByteArray.empty)=
 (cond (wB==wT)
 (cond (eC wC ByteArray.empty)
 (cond ((wA.length:Int)==(0:Int))
 (k [.d .bool ((wD.length:Int)==(0:Int))])
 (k [.d .bool false]))
 (k [.d .bool false]))
 (k [.d .bool false])):=by kernel_rfl
noncomputable def Gr {R:Type} (n:Nat) (x0:Option R) (wE:Int) (wB:Int) (wC:BA) (wA:List BA) (wD:List ae) (wF:Int) (wU:BA):Nat→Option R
 | 0=>none
 | m+1=>
  (x0)
theorem SY {R:Type} (n:Nat) (k':Kx R) (wE:Int) (wB:Int) (wC:BA) (wA:List BA) (wD:List ae) (wF:Int) (wU:BA):ev ga kD n (bl [1,1,1,0,1,0,0] j0) (pC wE wB wC wA wD wF (0:Int) wU) k'=
 (k' (.exit 1) (q5 wE wB wC wA wD wF (0:Int) wU)):=by kernel_rfl
theorem O2 {R:Type} (n:Nat) (k':Kx R) (wE:Int) (wB:Int) (wC:BA) (wA:List BA) (wD:List ae) (wF:Int) (wU:BA):∀(m:Nat),iter (fun st k=>ev ga kD n (bl [1,1,1,0,1,0,0] j0) st k) m (pC wE wB wC wA wD wF (0:Int) wU) k'=Gr n (k' (.exit 1) (q5 wE wB wC wA wD wF (0:Int) wU)) wE wB wC wA wD wF wU m:=by
 intro m;induction m with
 | zero=>intros;rfl
 | succ m ih=>
  skip
  simp only [iter]
  rw [SY]
  simp only [ih,Gr]
noncomputable def UD {R:Type} (n:Nat) (k':Kx R):Kx R:=(bZ 1 (dS ga kD n (bl [1,1,1,1] j0) k'))
theorem O3 {R:Type} (n:Nat) (k:Kt R) (a0:ae) (wE:Int) (wB:Int) (wC:BA) (wA:List BA) (wD:List ae) (wF:Int) (wU:BA):UD n (aC ga [.ro] [false] true [.tmp 2] [4] [.d .node a0] k) (.exit 1) (q5 wE wB wC wA wD wF (0:Int) wU)=
 (cond (wB==(0:Int))
 (cond (eC wC wU)
 (cond ((wA.length:Int)==(0:Int))
 (k [.d .bool ((wD.length:Int)==(0:Int))])
 (k [.d .bool false]))
 (k [.d .bool false]))
 (k [.d .bool false])):=by kernel_rfl
noncomputable def Gt {R:Type} (n:Nat) (x0:Option R) (wE:Int) (wB:Int) (wC:BA) (wA:List BA) (wD:List ae) (wF:Int) (wL:List ae):Nat→Option R
 | 0=>none
 | m+1=>
  (x0)
theorem SZ {R:Type} (n:Nat) (k':Kx R) (wE:Int) (wB:Int) (wC:BA) (wA:List BA) (wD:List ae) (wF:Int) (wL:List ae):ev ga kD n (bl [1,1,1,0,1,0,0] j0) (OU wE wB wC wA wD wF wL) k'=
 (k' (.exit 1) (OV wE wB wC wA wD wF wL)):=by kernel_rfl
theorem O4 {R:Type} (n:Nat) (k':Kx R) (wE:Int) (wB:Int) (wC:BA) (wA:List BA) (wD:List ae) (wF:Int) (wL:List ae):∀(m:Nat),iter (fun st k=>ev ga kD n (bl [1,1,1,0,1,0,0] j0) st k) m (OU wE wB wC wA wD wF wL) k'=Gt n (k' (.exit 1) (OV wE wB wC wA wD wF wL)) wE wB wC wA wD wF wL m:=by
 intro m;induction m with
 | zero=>intros;rfl
 | succ m ih=>
  skip
  simp only [iter]
  rw [SZ]
  simp only [ih,Gt]
noncomputable def UE {R:Type} (n:Nat) (k':Kx R):Kx R:=(bZ 1 (dS ga kD n (bl [1,1,1,1] j0) k'))
theorem O5 {R:Type} (n:Nat) (k:Kt R) (a0:ae) (wE:Int) (wB:Int) (wC:BA) (wA:List BA) (wD:List ae) (wF:Int) (wL:List ae):UE n (aC ga [.ro] [false] true [.tmp 2] [4] [.d .node a0] k) (.exit 1) (OV wE wB wC wA wD wF wL)=
 (cond (wB==(0:Int))
 (cond (eC wC ByteArray.empty)
 (cond ((wA.length:Int)==(0:Int))
 (k [.d .bool ((wD.length:Int)==(wL.length:Int))])
 (k [.d .bool false]))
 (k [.d .bool false]))
 (k [.d .bool false])):=by kernel_rfl
noncomputable def sQ {R:Type} (n:Nat) (x0:Option R) (x1:Int→Bool→Option R) (wN:List BA) (wP:Int) (wE:Int) (wB:Int) (wC:BA) (wA:List BA) (wD:List ae) (wF:Int) (wR:List BA) (wL:List ae):Nat→Int→Option R
  | 0,_=>none
  | m+1,wG=>
    (cond (decide (wG<wP))
   (cond ((decide ((0:Int)≤wG))&&(decide (wG<(wN.length:Int))))
    (cond (iH (ar (t:= .str) wN (Int.toNat wG)))
     (cond (!(dU (ar (t:= .str) wN (Int.toNat wG))))
      (x0)
      (cond (decide (wG>(0:Int)))
       (cond ((decide ((0:Int)≤(IntKind.wrap .i64 (wG-(1:Int)))))&&(decide ((IntKind.wrap .i64 (wG-(1:Int)))<(wA.length:Int))))
        (cond (!(lq (ar (t:= .str) wA (Int.toNat (IntKind.wrap .i64 (wG-(1:Int))))) (ar (t:= .str) wN (Int.toNat wG))))
         (x0)
         (sQ n x0 x1 wN wP wE wB wC wA wD wF wR wL m (IntKind.wrap .i64 (wG+(1:Int)))))
        none)
       (sQ n x0 x1 wN wP wE wB wC wA wD wF wR wL m (IntKind.wrap .i64 (wG+(1:Int))))))
     none)
    none)
   (x1 wG (decide (wG<wP))))
theorem S0 {R:Type} (n:Nat) (k':Kx R) (wN:List BA) (wP:Int) (wG:Int) (wE:Int) (wB:Int) (wC:BA) (wA:List BA) (wD:List ae) (wF:Int) (wR:List BA) (wL:List ae):ev ga kD n (bl [1,1,1,0,1,0,0] j0) (Cy wN wP wG wE wB wC wA wD wF wR wL) k'=
 (cond (decide (wG<wP))
 (cond ((decide ((0:Int)≤wG))&&(decide (wG<(wN.length:Int))))
 (cond (iH (ar (t:= .str) wN (Int.toNat wG)))
 (cond (!(dU (ar (t:= .str) wN (Int.toNat wG))))
 (k' .ret Gp)
 (cond (decide (wG>(0:Int)))
 (cond ((decide ((0:Int)≤(IntKind.wrap .i64 (wG-(1:Int)))))&&(decide ((IntKind.wrap .i64 (wG-(1:Int)))<(wA.length:Int))))
 (cond (!(lq (ar (t:= .str) wA (Int.toNat (IntKind.wrap .i64 (wG-(1:Int))))) (ar (t:= .str) wN (Int.toNat wG))))
 (k' .ret Gp)
 (k' .normal (Cy wN wP (IntKind.wrap .i64 (wG+(1:Int))) wE wB wC wA wD wF wR wL)))
 none)
 (k' .normal (Cy wN wP (IntKind.wrap .i64 (wG+(1:Int))) wE wB wC wA wD wF wR wL))))
 none)
 none)
 (k' (.exit 1) (OW wN wP wG (decide (wG<wP)) wE wB wC wA wD wF wR wL))):=by kernel_rfl
theorem O6 {R:Type} (n:Nat) (k':Kx R) (wN:List BA) (wP:Int) (wE:Int) (wB:Int) (wC:BA) (wA:List BA) (wD:List ae) (wF:Int) (wR:List BA) (wL:List ae):∀(m:Nat) (wG:Int),iter (fun st k=>ev ga kD n (bl [1,1,1,0,1,0,0] j0) st k) m (Cy wN wP wG wE wB wC wA wD wF wR wL) k'=sQ n (k' .ret Gp) (fun (uA:Int) (uB:Bool)=>k' (.exit 1) (OW wN wP uA uB wE wB wC wA wD wF wR wL)) wN wP wE wB wC wA wD wF wR wL m wG:=by
 intro m;induction m with
 | zero=>intros;rfl
 | succ m ih=>
  intro wG
  simp only [iter]
  rw [S0]
  simp only [ih,sQ]
noncomputable def O7 {R:Type} (n:Nat) (k':Kx R):Kx R:=(bZ 1 (dS ga kD n (bl [1,1,1,1] j0) k'))
theorem O8 {R:Type} (n:Nat) (k:Kt R) (a0:ae):O7 n (aC ga [.ro] [false] true [.tmp 2] [4] [.d .node a0] k) .ret Gp=
 (k [.d .bool false]):=by kernel_rfl
theorem O9 {R:Type} (n:Nat) (k:Kt R) (a0:ae) (wN:List BA) (wP:Int) (wE:Int) (wB:Int) (wC:BA) (wA:List BA) (wD:List ae) (wF:Int) (wR:List BA) (wL:List ae) (uA:Int) (uB:Bool):O7 n (aC ga [.ro] [false] true [.tmp 2] [4] [.d .node a0] k) (.exit 1) (OW wN wP uA uB wE wB wC wA wD wF wR wL)=
 (cond (wB==(0:Int))
 (cond (eC wC ByteArray.empty)
 (cond ((wA.length:Int)==(wR.length:Int))
 (k [.d .bool ((wD.length:Int)==(wL.length:Int))])
 (k [.d .bool false]))
 (k [.d .bool false]))
 (k [.d .bool false])):=by kernel_rfl
theorem S1 {R:Type} (n:Nat) (k:Kt R) (a0:ae):aM ga kD n j0 [.ro] [false] true [.tmp 2] [4] [.d .node a0] k=
 (cond ((ae.kind a0)==(0:Int))
 (Gq n (cond ((ae.n a0)==(0:Int))
 (cond (eC (ae.s a0) ByteArray.empty)
 (cond (((ae.keys a0).length:Int)==(0:Int))
 (k [.d .bool (((ae.kids a0).length:Int)==(0:Int))])
 (k [.d .bool false]))
 (k [.d .bool false]))
 (k [.d .bool false])) (ae.kind a0) (ae.n a0) (ae.s a0) (ae.keys a0) (ae.kids a0) (ae.kind a0) n)
 (cond ((ae.kind a0)==(1:Int))
 (cond (!(gZ (ae.n a0) (0:Int) (1:Int)))
 (k [.d .bool false])
 (yG n (cond ((ae.n a0)==(ae.n a0))
 (cond (eC (ae.s a0) ByteArray.empty)
 (cond (((ae.keys a0).length:Int)==(0:Int))
 (k [.d .bool (((ae.kids a0).length:Int)==(0:Int))])
 (k [.d .bool false]))
 (k [.d .bool false]))
 (k [.d .bool false])) (ae.kind a0) (ae.n a0) (ae.s a0) (ae.keys a0) (ae.kids a0) (ae.kind a0) (ae.n a0) n))
 (cond ((ae.kind a0)==(2:Int))
 (cond (!(gZ (ae.n a0) (-1000000000000:Int) (1000000000000:Int)))
 (k [.d .bool false])
 (yG n (cond ((ae.n a0)==(ae.n a0))
 (cond (eC (ae.s a0) ByteArray.empty)
 (cond (((ae.keys a0).length:Int)==(0:Int))
 (k [.d .bool (((ae.kids a0).length:Int)==(0:Int))])
 (k [.d .bool false]))
 (k [.d .bool false]))
 (k [.d .bool false])) (ae.kind a0) (ae.n a0) (ae.s a0) (ae.keys a0) (ae.kids a0) (ae.kind a0) (ae.n a0) n))
 (cond ((ae.kind a0)==(3:Int))
 (cond (iH (ae.s a0))
 (cond (!(dU (ae.s a0)))
 (k [.d .bool false])
 (Gr n (cond ((ae.n a0)==(0:Int))
 (cond (eC (ae.s a0) (ae.s a0))
 (cond (((ae.keys a0).length:Int)==(0:Int))
 (k [.d .bool (((ae.kids a0).length:Int)==(0:Int))])
 (k [.d .bool false]))
 (k [.d .bool false]))
 (k [.d .bool false])) (ae.kind a0) (ae.n a0) (ae.s a0) (ae.keys a0) (ae.kids a0) (ae.kind a0) (ae.s a0) n))
 none)
 (cond ((ae.kind a0)==(4:Int))
 (Gt n (cond ((ae.n a0)==(0:Int))
 (cond (eC (ae.s a0) ByteArray.empty)
 (cond (((ae.keys a0).length:Int)==(0:Int))
 (k [.d .bool (((ae.kids a0).length:Int)==((ae.kids a0).length:Int))])
 (k [.d .bool false]))
 (k [.d .bool false]))
 (k [.d .bool false])) (ae.kind a0) (ae.n a0) (ae.s a0) (ae.keys a0) (ae.kids a0) (ae.kind a0) (ae.kids a0) n)
 (cond ((ae.kind a0)==(5:Int))
 (cond (((ae.keys a0).length:Int) !=((ae.kids a0).length:Int))
 (k [.d .bool false])
 (sQ n (k [.d .bool false]) (fun (uA:Int) (uB:Bool)=>
 (cond ((ae.n a0)==(0:Int))
 (cond (eC (ae.s a0) ByteArray.empty)
 (cond (((ae.keys a0).length:Int)==((ae.keys a0).length:Int))
 (k [.d .bool (((ae.kids a0).length:Int)==((ae.kids a0).length:Int))])
 (k [.d .bool false]))
 (k [.d .bool false]))
 (k [.d .bool false]))) (ae.keys a0) ((ae.keys a0).length:Int) (ae.kind a0) (ae.n a0) (ae.s a0) (ae.keys a0) (ae.kids a0) (ae.kind a0) (ae.keys a0) (ae.kids a0) n (0:Int)))
 (k [.d .bool false]))))))):=by
  refine Eq.trans (b:=(cond ((ae.kind a0)==(0:Int))
  (iter (fun st k=>ev ga kD n (bl [1,1,1,0,1,0,0] j0) st k) n (pC (ae.kind a0) (ae.n a0) (ae.s a0) (ae.keys a0) (ae.kids a0) (ae.kind a0) (0:Int) ByteArray.empty) (UC n (aC ga [.ro] [false] true [.tmp 2] [4] [.d .node a0] k)))
  (cond ((ae.kind a0)==(1:Int))
   (cond (!(gZ (ae.n a0) (0:Int) (1:Int)))
    (k [.d .bool false])
    (iter (fun st k=>ev ga kD n (bl [1,1,1,0,1,0,0] j0) st k) n (pC (ae.kind a0) (ae.n a0) (ae.s a0) (ae.keys a0) (ae.kids a0) (ae.kind a0) (ae.n a0) ByteArray.empty) (O0 n (aC ga [.ro] [false] true [.tmp 2] [4] [.d .node a0] k))))
   (cond ((ae.kind a0)==(2:Int))
    (cond (!(gZ (ae.n a0) (-1000000000000:Int) (1000000000000:Int)))
     (k [.d .bool false])
     (iter (fun st k=>ev ga kD n (bl [1,1,1,0,1,0,0] j0) st k) n (pC (ae.kind a0) (ae.n a0) (ae.s a0) (ae.keys a0) (ae.kids a0) (ae.kind a0) (ae.n a0) ByteArray.empty) (O0 n (aC ga [.ro] [false] true [.tmp 2] [4] [.d .node a0] k))))
    (cond ((ae.kind a0)==(3:Int))
     (cond (iH (ae.s a0))
      (cond (!(dU (ae.s a0)))
       (k [.d .bool false])
       (iter (fun st k=>ev ga kD n (bl [1,1,1,0,1,0,0] j0) st k) n (pC (ae.kind a0) (ae.n a0) (ae.s a0) (ae.keys a0) (ae.kids a0) (ae.kind a0) (0:Int) (ae.s a0)) (UD n (aC ga [.ro] [false] true [.tmp 2] [4] [.d .node a0] k))))
      none)
     (cond ((ae.kind a0)==(4:Int))
      (iter (fun st k=>ev ga kD n (bl [1,1,1,0,1,0,0] j0) st k) n (OU (ae.kind a0) (ae.n a0) (ae.s a0) (ae.keys a0) (ae.kids a0) (ae.kind a0) (ae.kids a0)) (UE n (aC ga [.ro] [false] true [.tmp 2] [4] [.d .node a0] k)))
      (cond ((ae.kind a0)==(5:Int))
       (cond (((ae.keys a0).length:Int) !=((ae.kids a0).length:Int))
        (k [.d .bool false])
        (iter (fun st k=>ev ga kD n (bl [1,1,1,0,1,0,0] j0) st k) n (Cy (ae.keys a0) ((ae.keys a0).length:Int) (0:Int) (ae.kind a0) (ae.n a0) (ae.s a0) (ae.keys a0) (ae.kids a0) (ae.kind a0) (ae.keys a0) (ae.kids a0)) (O7 n (aC ga [.ro] [false] true [.tmp 2] [4] [.d .node a0] k))))
       (k [.d .bool false])))))))) (by kernel_rfl) ?_
  simp only [OX]
  simp only [OZ]
  simp only [O2]
  simp only [O4]
  simp only [O6]
  simp only [OY,O1,O3,O5,O8,O9]
theorem O' (a0:ae) (hg:ak a0=true):∃aJ rounds,∀ {R:Type} (k:Kt R),aM ga aJ rounds j0 [.ro] [false] true [.tmp 2] [4] [.d .node a0] k=k [.d .bool (gO a0)]:=by
 obtain ⟨_,_,hts,ng,mL⟩:=dr hg
 have hl:=bp ng
 have hs:a0.keys.all iH=true:=by have:=tm ng;simp only [VA,Bool.and_eq_true] at this;exact this.2
 refine ⟨kD,a0.keys.length+1,fun {R} k=> ?_⟩
 rw [S1]
 show _=k [.d .bool (gO a0)]
 unfold gO Pz Zu
 cases h0:a0.kind==(0:Int)
 rotate_left
 ·simp only [Gq,Kh,cond_true]
  cases a0.n==(0:Int)<;>cases eC a0.s ByteArray.empty<;>cases a0.keys.isEmpty<;>cases a0.kids.isEmpty<;>rfl
 cases h1:a0.kind==(1:Int)
 rotate_left
 ·simp only [yG,Kh,beq_self_eq_true,cond_true,cond_false]
  cases gZ a0.n 0 1<;>cases eC a0.s ByteArray.empty<;>cases a0.keys.isEmpty<;>cases a0.kids.isEmpty<;>rfl
 cases h2:a0.kind==(2:Int)
 rotate_left
 ·simp only [yG,Kh,beq_self_eq_true,cond_true,cond_false]
  cases gZ a0.n (-1000000000000) 1000000000000<;>cases eC a0.s ByteArray.empty<;>cases a0.keys.isEmpty<;>cases a0.kids.isEmpty<;>rfl
 cases h3:a0.kind==(3:Int)
 rotate_left
 ·simp only [Gr,Kh,Bu hts,u6,cond_true,cond_false]
  cases dU a0.s<;>cases a0.n==(0:Int)<;>cases a0.keys.isEmpty<;>cases a0.kids.isEmpty<;>rfl
 cases h4:a0.kind==(4:Int)
 rotate_left
 ·simp only [Gt,Kh,beq_self_eq_true,cond_true,cond_false]
  cases a0.n==(0:Int)<;>cases eC a0.s ByteArray.empty<;>cases a0.keys.isEmpty<;>rfl
 cases h5:a0.kind==(5:Int)
 ·rfl
 cases hlk:((a0.keys.length:Int)==(a0.kids.length:Int))
 ·simp only [bne,hlk,Bool.not_false,cond_true,cond_false,Bool.false_and]
 simp only [bne,hlk,beq_self_eq_true,Bool.not_true,cond_true,cond_false,Bool.true_and]
 refine Eq.trans (iG (n:=a0.keys.length) (F:=fun m i=>sQ (a0.keys.length+1) _ _ a0.keys (a0.keys.length:Int) a0.kind a0.n a0.s a0.keys a0.kids a0.kind a0.keys a0.kids m i) (p:=rH a0.keys) (good:=k [.d .bool ((a0.n==(0:Int))&&eC a0.s ByteArray.empty)]) (bad:=k [.d .bool false])
  (fun m j hj=> ?_) (fun m=> ?_) a0.keys.length 0 (a0.keys.length+1) (by omega) (by omega)) ?_
 ·obtain ⟨h1,h0,hw,ht⟩:=idx hj (by omega)
  simp only [sQ,h1,h0,hw,ht,va hs hj,Bool.and_self,cond_true]
  unfold rH
  cases dU (ar (t:= .str) a0.keys j)
  ·rfl
  ·by_cases hz:(j:Int)>0
   ·obtain ⟨h2,h3,_,h5⟩:=idx (show j-1<a0.keys.length by omega) (by omega)
    simp only [hz,decide_true,cond_true,VE hj (by omega) (by omega),h2,h3,h5,Bool.and_self]
    cases lq (ar (t:= .str) a0.keys (j-1)) (ar (t:= .str) a0.keys j)<;>rfl
   ·simp only [hz,decide_false,cond_false];rfl
 ·simp only [sQ,gG,cond_false]
  cases a0.n==(0:Int)<;>cases eC a0.s ByteArray.empty<;>rfl
 ·unfold dK
  cases oY (rH a0.keys) 0 a0.keys.length<;>rfl
noncomputable def q78:Qt
 | [.d .node a0]=>some ((ak a0),[.d .bool (gO a0)])
 | _=>none
noncomputable def s78:Gm.Spec:=Gm.Spec.of [.ro] [false] true q78
theorem Xu:Gm.Good Tryd.prog (78,s78):=by
 have hl:∀x∈[(66,QY),(81,Z3)],Gm.Good Tryd.prog x:=bJ.2 ⟨zW,bJ.2 ⟨KX,im⟩⟩
 refine ⟨⟨aK (aV.env hl) (b9.cF hl) Tryd.func78 (by kernel_rfl:Tryd.f78.body=some j0) [4] (by kernel_rfl) ?_,_,Tryd.func78,by kernel_rfl,of_decide_eq_true (by kernel_rfl)⟩,Gm.Spec.aB _ _ _ _⟩
 intro ds outs h
 unfold q78 at h
 split at h
 ·simp only [Option.some.injEq,Prod.mk.injEq] at h;obtain ⟨hg,h⟩:=h;cases h;exact O' _ hg
 ·cases h
noncomputable def Ya:Qt
 | [.d .node a0]=>some ((ak a0),[.d .bool (dN a0)])
 | _=>none
noncomputable def Pa:List Dt→Nat
 | [.d .node a0]=>VN a0
 | _=>0
noncomputable def abd (N:Nat):Gm.Spec:=Gm.Spec.of [.ro] [false] true (nS Pa N Ya)
noncomputable def s53:Gm.Spec:=Gm.Spec.of [.ro] [false] true Ya
noncomputable def q80:Qt
 | [.d .node a0]=>some ((ak a0),[.d .bool (om a0)])
 | _=>none
noncomputable def Pb:List Dt→Nat
 | [.d .node a0]=>TW a0
 | _=>0
noncomputable def H6 (N:Nat):Gm.Spec:=Gm.Spec.of [.ro] [false] true (nS Pb N q80)
noncomputable def q79:Qt
 | [.d (.sl .node) a0,.fH 80 []]=>some (((gh ak) a0),[.d .bool (mj a0)])
 | _=>none
noncomputable def Pc:List Dt→Nat
 | [.d (.sl .node) a0,.fH 80 []]=>VO a0
 | _=>0
noncomputable def abg (N:Nat):Gm.Spec:=Gm.Spec.of [.ro,.fn] [false] true (nS Pc N q79)
noncomputable def Pd:Qt
 | [.d (.sl .node) a0,.fH 80 []]=>some (((gh ak) a0),[.d (.i .i64) (qL a0)])
 | _=>none
noncomputable def Cz:List Dt→Nat
 | [.d (.sl .node) a0,.fH 80 []]=>TX a0
 | _=>0
noncomputable def UF (N:Nat):Gm.Spec:=Gm.Spec.of [.ro,.fn] [false] true (nS Cz N Pd)
noncomputable def Xv:Code:=(Tryd.f53.body).getD .skip
def abh:Nat→Kp:=fT [⟨[1],[],[],[]⟩,⟨[2],[],[],[]⟩]
noncomputable def Xw (N:Nat):Env:=b9.env [(78,s78),(79,abg N),(80,H6 N)]
theorem S2 {R:Type} (N:Nat) (n:Nat) (k:Kt R) (a0:ae):aM (Xw N) abh n Xv [.ro] [false] true [.tmp 2] [4] [.d .node a0] k=
 (cond (ak (eN a0))
 (cond (gO (eN a0))
 (cond (((gh ak) (ae.kids a0))&&(Nat.blt (VO (ae.kids a0)) N))
 (k [.d .bool (!(mj (ae.kids a0)))])
 none)
 (k [.d .bool false]))
 none):=by kernel_rfl
theorem Pe (N:Nat) (a0:ae) (hg:ak a0=true) (hm:Pa [.d .node a0]=N):∃aJ rounds,∀ {R:Type} (k:Kt R),aM (Xw N) aJ rounds Xv [.ro] [false] true [.tmp 2] [4] [.d .node a0] k=k [.d .bool (dN a0)]:=by
 have hm:VN a0=N:=hm
 subst hm
 have hk:=(dr hg).2.2.2.2
 have hb:Nat.blt (VO a0.kids) (VN a0)=true:=by rw [Nat.blt_eq];simp only [VO,VN,dE];omega
 refine ⟨abh,0,fun {R} k=> ?_⟩
 rw [S2,ky]
 simp only [bu,hg,hk,hb,zQ,Bool.and_self,cond_true]
 cases gO a0<;>rfl
noncomputable def Xx:Code:=(Tryd.f80.body).getD .skip
def abi:Nat→Kp:=fT [⟨[1],[],[],[]⟩,⟨[2],[],[],[]⟩]
noncomputable def Xy (N:Nat):Env:=b9.env [(53,abd N)]
theorem S3 {R:Type} (N:Nat) (n:Nat) (k:Kt R) (a0:ae):aM (Xy N) abi n Xx [.ro] [false] true [.tmp 2] [4] [.d .node a0] k=
 (cond ((ak (eN a0))&&(Nat.blt (VN (eN a0)) N))
 (k [.d .bool (!(dN (eN a0)))])
 none):=by kernel_rfl
theorem Pf (N:Nat) (a0:ae) (hg:ak a0=true) (hm:Pb [.d .node a0]=N):∃aJ rounds,∀ {R:Type} (k:Kt R),aM (Xy N) aJ rounds Xx [.ro] [false] true [.tmp 2] [4] [.d .node a0] k=k [.d .bool (om a0)]:=by
 have hm:TW a0=N:=hm
 subst hm
 have hb:Nat.blt (VN a0) (TW a0)=true:=by rw [Nat.blt_eq];simp only [VN,TW];omega
 refine ⟨abi,0,fun {R} k=> ?_⟩
 rw [S3]
 simp only [bu,hg,hb,Bool.and_self,cond_true]
 rfl
noncomputable def Xz:Code:=(Tryd.f79.body).getD .skip
def abj:Nat→Kp:=fT [⟨[0,1],[],[],[]⟩,⟨[4],[],[],[]⟩]
noncomputable def XA (N:Nat):Env:=b9.env [(80,H6 N),(104,UF N)]
theorem S4 {R:Type} (N:Nat) (n:Nat) (k:Kt R) (a0:List ae):aM (XA N) abj n Xz [.ro,.fn] [false] true [.tmp 4] [4] [.d (.sl .node) a0,.fH 80 []] k=
 (cond (((gh ak) a0)&&(Nat.blt (TX a0) N))
 (k [.d .bool (decide ((qL a0)≥(0:Int)))])
 none):=by kernel_rfl
theorem Pg (N:Nat) (a0:List ae) (hg:gh ak a0=true) (hm:Pc [.d (.sl .node) a0,.fH 80 []]=N):∃aJ rounds,∀ {R:Type} (k:Kt R),aM (XA N) aJ rounds Xz [.ro,.fn] [false] true [.tmp 4] [4] [.d (.sl .node) a0,.fH 80 []] k=k [.d .bool (mj a0)]:=by
 have hm:VO a0=N:=hm
 subst hm
 have hb:Nat.blt (TX a0) (VO a0)=true:=by rw [Nat.blt_eq];simp only [TX,VO];omega
 refine ⟨abj,0,fun {R} k=> ?_⟩
 rw [S4]
 simp only [hg,hb,Bool.and_self,cond_true]
 unfold qL
 rw [vk];rfl
noncomputable def At (y0:List ae) (y1:Int) (y2:Int):St:=⟨[(0,.c (.one (.ro .node y0))),(1,.c (.one (.oT 80 []))),(7,.c (.one (.v (.int .i64 y1)))),(8,.c (.one (.v (.int .i64 y2))))],[],[]⟩
noncomputable def Ek (y0:Int):St:=⟨[(4,.c (.one (.v (.int .i64 y0))))],[],[]⟩
noncomputable def Em (y0:List ae) (y1:Int) (y2:Int) (y3:Bool):St:=⟨[(0,.c (.one (.ro .node y0))),(1,.c (.one (.oT 80 []))),(7,.c (.one (.v (.int .i64 y1)))),(8,.c (.one (.v (.int .i64 y2)))),(9,.c (.one (.v (.bool y3))))],[],[]⟩
noncomputable def wv:Code:=(Tryd.f104.body).getD .skip
def yH:Nat→Kp:=fT [⟨[0,1],[],[],[]⟩,⟨[0,1,7,8],[],[],[]⟩,⟨[0,1,7,8,9],[],[],[]⟩,⟨[0,1,5,7,8],[],[],[]⟩,⟨[0,1,5,7,8,16],[],[],[]⟩,⟨[4],[],[],[]⟩,⟨[0,1,7,8],[],[],[]⟩,⟨[4],[],[],[]⟩]
noncomputable def pD (N:Nat):Env:=b9.env [(80,H6 N)]
noncomputable def pY {R:Type} (N:Nat) (n:Nat) (x0:Int→Option R) (x1:Int→Bool→Option R) (wO:List ae) (wI:Int):Nat→Int→Option R
  | 0,_=>none
  | m+1,wJ=>
    (cond (decide (wJ<wI))
   (cond ((decide ((0:Int)≤wJ))&&(decide (wJ<(wO.length:Int))))
    (cond ((ak (eN (ar (t:= .node) wO (Int.toNat wJ))))&&(Nat.blt (TW (eN (ar (t:= .node) wO (Int.toNat wJ)))) N))
     (cond (om (eN (ar (t:= .node) wO (Int.toNat wJ))))
      (x0 wJ)
      (pY N n x0 x1 wO wI m (IntKind.wrap .i64 (wJ+(1:Int)))))
     none)
    none)
   (x1 wJ (decide (wJ<wI))))
theorem Ph {R:Type} (N:Nat) (n:Nat) (k':Kx R) (wO:List ae) (wI:Int) (wJ:Int):ev (pD N) yH n (bl [1,0,1,0,0] wv) (At wO wI wJ) k'=
 (cond (decide (wJ<wI))
 (cond ((decide ((0:Int)≤wJ))&&(decide (wJ<(wO.length:Int))))
 (cond ((ak (eN (ar (t:= .node) wO (Int.toNat wJ))))&&(Nat.blt (TW (eN (ar (t:= .node) wO (Int.toNat wJ)))) N))
 (cond (om (eN (ar (t:= .node) wO (Int.toNat wJ))))
 (k' .ret (Ek wJ))
 (k' .normal (At wO wI (IntKind.wrap .i64 (wJ+(1:Int))))))
 none)
 none)
 (k' (.exit 0) (Em wO wI wJ (decide (wJ<wI))))):=by kernel_rfl
theorem H7 {R:Type} (N:Nat) (n:Nat) (k':Kx R) (wO:List ae) (wI:Int):∀(m:Nat) (wJ:Int),iter (fun st k=>ev (pD N) yH n (bl [1,0,1,0,0] wv) st k) m (At wO wI wJ) k'=pY N n (fun (wX:Int)=>k' .ret (Ek wX)) (fun (uC:Int) (uD:Bool)=>k' (.exit 0) (Em wO wI uC uD)) wO wI m wJ:=by
 intro m;induction m with
 | zero=>intros;rfl
 | succ m ih=>
  intro wJ
  simp only [iter]
  rw [Ph]
  simp only [ih,pY]
noncomputable def En {R:Type} (N:Nat) (n:Nat) (k':Kx R):Kx R:=(bZ 0 (dS (pD N) yH n (bl [1,1] wv) k'))
theorem H8 {R:Type} (N:Nat) (n:Nat) (k:Kt R) (a0:List ae) (wX:Int):En N n (aC (pD N) [.ro,.fn] [false] true [.tmp 4] [3] [.d (.sl .node) a0,.fH 80 []] k) .ret (Ek wX)=
 (k [.d (.i .i64) wX]):=by kernel_rfl
theorem H9 {R:Type} (N:Nat) (n:Nat) (k:Kt R) (a0:List ae) (wO:List ae) (wI:Int) (uC:Int) (uD:Bool):En N n (aC (pD N) [.ro,.fn] [false] true [.tmp 4] [3] [.d (.sl .node) a0,.fH 80 []] k) (.exit 0) (Em wO wI uC uD)=
 (k [.d (.i .i64) (-1:Int)]):=by kernel_rfl
theorem Pj {R:Type} (N:Nat) (n:Nat) (k:Kt R) (a0:List ae):aM (pD N) yH n wv [.ro,.fn] [false] true [.tmp 4] [3] [.d (.sl .node) a0,.fH 80 []] k=
 (pY N n (fun (wX:Int)=>
 (k [.d (.i .i64) wX])) (fun (uC:Int) (uD:Bool)=>
 (k [.d (.i .i64) (-1:Int)])) a0 (a0.length:Int) n (0:Int)):=by
 refine Eq.trans (b:=(iter (fun st k=>ev (pD N) yH n (bl [1,0,1,0,0] wv) st k) n (At a0 (a0.length:Int) (0:Int)) (En N n (aC (pD N) [.ro,.fn] [false] true [.tmp 4] [3] [.d (.sl .node) a0,.fH 80 []] k)))) (by kernel_rfl) ?_
 simp only [H7,H8,H9]
theorem Ia (N:Nat) (a0:List ae) (hg:gh ak a0=true) (hm:Cz [.d (.sl .node) a0,.fH 80 []]=N):∃aJ rounds,∀ {R:Type} (k:Kt R),aM (pD N) aJ rounds wv [.ro,.fn] [false] true [.tmp 4] [3] [.d (.sl .node) a0,.fH 80 []] k=k [.d (.i .i64) (qL a0)]:=by
 have hm:TX a0=N:=hm
 subst hm
 have hl:=bp hg
 refine ⟨yH,a0.length+1,fun k=> ?_⟩
 rw [Pj]
 refine Eq.trans (gi (n:=a0.length) (F:=fun m i=>pY (TX a0) (a0.length+1) _ _ a0 (a0.length:Int) m i) (p:=fun j=>om (ar (t:= .node) a0 j)) (hit:=fun i=>k [.d (.i .i64) i]) (miss:=k [.d (.i .i64) (-1:Int)])
  (fun m j hj=> ?_) (fun m=>by simp only [pY,gG,cond_false]) a0.length 0 (a0.length+1) (by omega) (by omega)) ?_
 ·obtain ⟨h1,h0,hw,ht⟩:=idx hj (by omega)
  have Ed:ak (ar (t:= .node) a0 j)=true:=vd (t:= .node) hg hj
  have hb:Nat.blt (TW (ar (t:= .node) a0 j)) (TX a0)=true:=by
   obtain ⟨x,hx,_⟩:=cL hj
   have:=oK (f:=ao) (List.mem_of_getElem? hx)
   rw [bz (t:= .node) hx,Nat.blt_eq];simp only [TW,TX];omega
  simp only [pY,h1,h0,hw,ht,Bool.and_self,cond_true,bu,Ed,hb]
 ·show _=k [.d (.i .i64) (zE _)]
  cases cC (fun j=>om (ar (t:= .node) a0 j)) 0 a0.length<;>rfl
theorem S5:∀x∈([⟨53,[.ro],[false],true,Pa,Ya⟩,⟨80,[.ro],[false],true,Pb,q80⟩,⟨79,[.ro,.fn],[false],true,Pc,q79⟩,⟨104,[.ro,.fn],[false],true,Cz,Pd⟩]:List Rc),Gm.bV Tryd.prog x.f (Gm.Spec.of x.ms x.rs x.ow x.q):=by
 refine rD _ fun N hr=> ?_
 have Jb:Gm.bV Tryd.prog 53 (Gm.Spec.of [.ro] [false] true (nS Pa N Ya)):=fun {R}=>hr _ (.head _)
 have Ny:Gm.bV Tryd.prog 80 (Gm.Spec.of [.ro] [false] true (nS Pb N q80)):=fun {R}=>hr _ (.tail _ (.head _))
 have hr3:Gm.bV Tryd.prog 79 (Gm.Spec.of [.ro,.fn] [false] true (nS Pc N q79)):=fun {R}=>hr _ (.tail _ (.tail _ (.head _)))
 have hr4:Gm.bV Tryd.prog 104 (Gm.Spec.of [.ro,.fn] [false] true (nS Cz N Pd)):=fun {R}=>hr _ (.tail _ (.tail _ (.tail _ (.head _))))
 refine bJ.2 ⟨?_,bJ.2 ⟨?_,bJ.2 ⟨?_,bJ.2 ⟨?_,im⟩⟩⟩⟩
 ·have hl:∀x∈([(78,s78),(79,abg N),(80,H6 N)]:List (Nat×Gm.Spec)),Gm.Good Tryd.prog x:=bJ.2 ⟨Xu,bJ.2 ⟨⟨⟨hr3,_,Tryd.func79,by kernel_rfl,of_decide_eq_true (by kernel_rfl)⟩,Gm.Spec.aB _ _ _ _⟩,bJ.2 ⟨⟨⟨Ny,_,Tryd.func80,by kernel_rfl,of_decide_eq_true (by kernel_rfl)⟩,Gm.Spec.aB _ _ _ _⟩,im⟩⟩⟩
  show Gm.bV Tryd.prog 53 (Gm.Spec.of [.ro] [false] true (w8 Pa N Ya))
  intro R
  refine aK (E:=Xw N) (aV.env hl) (b9.cF hl) Tryd.func53 (by kernel_rfl:Tryd.f53.body=some Xv) [4] (by kernel_rfl) ?_
  intro ds outs h
  obtain ⟨h,hm⟩:=cT h
  unfold Ya at h
  split at h
  ·simp only [Option.some.injEq,Prod.mk.injEq] at h;obtain ⟨hg,h⟩:=h;cases h;exact Pe N _ hg hm
  ·cases h
 ·have hl:∀x∈([(53,abd N)]:List (Nat×Gm.Spec)),Gm.Good Tryd.prog x:=bJ.2 ⟨⟨⟨Jb,_,Tryd.func53,by kernel_rfl,of_decide_eq_true (by kernel_rfl)⟩,Gm.Spec.aB _ _ _ _⟩,im⟩
  show Gm.bV Tryd.prog 80 (Gm.Spec.of [.ro] [false] true (w8 Pb N q80))
  intro R
  refine aK (E:=Xy N) (aV.env hl) (b9.cF hl) Tryd.func80 (by kernel_rfl:Tryd.f80.body=some Xx) [4] (by kernel_rfl) ?_
  intro ds outs h
  obtain ⟨h,hm⟩:=cT h
  unfold q80 at h
  split at h
  ·simp only [Option.some.injEq,Prod.mk.injEq] at h;obtain ⟨hg,h⟩:=h;cases h;exact Pf N _ hg hm
  ·cases h
 ·have hl:∀x∈([(80,H6 N),(104,UF N)]:List (Nat×Gm.Spec)),Gm.Good Tryd.prog x:=bJ.2 ⟨⟨⟨Ny,_,Tryd.func80,by kernel_rfl,of_decide_eq_true (by kernel_rfl)⟩,Gm.Spec.aB _ _ _ _⟩,bJ.2 ⟨⟨⟨hr4,_,Tryd.func104,by kernel_rfl,of_decide_eq_true (by kernel_rfl)⟩,Gm.Spec.aB _ _ _ _⟩,im⟩⟩
  show Gm.bV Tryd.prog 79 (Gm.Spec.of [.ro,.fn] [false] true (w8 Pc N q79))
  intro R
  refine aK (E:=XA N) (aV.env hl) (b9.cF hl) Tryd.func79 (by kernel_rfl:Tryd.f79.body=some Xz) [4] (by kernel_rfl) ?_
  intro ds outs h
  obtain ⟨h,hm⟩:=cT h
  unfold q79 at h
  split at h
  ·simp only [Option.some.injEq,Prod.mk.injEq] at h;obtain ⟨hg,h⟩:=h;cases h;exact Pg N _ hg hm
  ·cases h
 ·have hl:∀x∈([(80,H6 N)]:List (Nat×Gm.Spec)),Gm.Good Tryd.prog x:=bJ.2 ⟨⟨⟨Ny,_,Tryd.func80,by kernel_rfl,of_decide_eq_true (by kernel_rfl)⟩,Gm.Spec.aB _ _ _ _⟩,im⟩
  show Gm.bV Tryd.prog 104 (Gm.Spec.of [.ro,.fn] [false] true (w8 Cz N Pd))
  intro R
  refine aK (E:=pD N) (aV.env hl) (b9.cF hl) Tryd.func104 (by kernel_rfl:Tryd.f104.body=some wv) [3] (by kernel_rfl) ?_
  intro ds outs h
  obtain ⟨h,hm⟩:=cT h
  unfold Pd at h
  split at h
  ·simp only [Option.some.injEq,Prod.mk.injEq] at h;obtain ⟨hg,h⟩:=h;cases h;exact Ia N _ hg hm
  ·cases h
theorem XB:Gm.Good Tryd.prog (53,s53):=⟨⟨fun {R}=>S5 _ (.head _),_,Tryd.func53,by kernel_rfl,of_decide_eq_true (by kernel_rfl)⟩,Gm.Spec.aB _ _ _ _⟩
noncomputable def XC:Code:=(Tryd.f22.body).getD .skip
def abk:Nat→Kp:=fT [⟨[1],[],[],[]⟩,⟨[1,3,4],[],[],[]⟩,⟨[2],[],[],[]⟩]
noncomputable def abl:Env:=b9.env [(52,s52),(53,s53)]
theorem S6 {R:Type} (n:Nat) (k:Kt R) (a0:ae):aM abl abk n XC [.ro] [false] true [.tmp 2] [4] [.d .node a0] k=
 (cond (pf (eN a0) (9:Int))
 (cond (decide (((iM (eN a0) (9:Int)).1)≤(200:Int)))
 (cond (decide (((iM (eN a0) (9:Int)).2)≤(8:Int)))
 (cond (ak (eN a0))
 (k [.d .bool (dN (eN a0))])
 none)
 (k [.d .bool false]))
 (k [.d .bool false]))
 none):=by kernel_rfl
theorem Pk (a0:ae) (hg:ak a0=true):∃aJ rounds,∀ {R:Type} (k:Kt R),aM abl aJ rounds XC [.ro] [false] true [.tmp 2] [4] [.d .node a0] k=k [.d .bool (hQ a0)]:=by
 have Ed:pf a0 9=true:=by unfold pf;rw [hg];rfl
 have e:iM a0 9=eJ 9 a0:=rfl
 refine ⟨abk,0,fun {R} k=> ?_⟩
 rw [S6]
 show _=k [.d .bool (hQ a0)]
 unfold hQ
 simp only [bu,hg,Ed,e,cond_true]
 cases decide ((eJ 9 a0).1≤(200:Int))<;>cases decide ((eJ 9 a0).2≤(8:Int))<;>rfl
noncomputable def q22:Qt
 | [.d .node a0]=>some ((ak a0),[.d .bool (hQ a0)])
 | _=>none
noncomputable def s22:Gm.Spec:=Gm.Spec.of [.ro] [false] true q22
theorem XD:Gm.Good Tryd.prog (22,s22):=by
 have hl:∀x∈[(52,s52),(53,s53)],Gm.Good Tryd.prog x:=bJ.2 ⟨Xt,bJ.2 ⟨XB,im⟩⟩
 refine ⟨⟨aK (aV.env hl) (b9.cF hl) Tryd.func22 (by kernel_rfl:Tryd.f22.body=some XC) [4] (by kernel_rfl) ?_,_,Tryd.func22,by kernel_rfl,of_decide_eq_true (by kernel_rfl)⟩,Gm.Spec.aB _ _ _ _⟩
 intro ds outs h
 unfold q22 at h
 split at h
 ·simp only [Option.some.injEq,Prod.mk.injEq] at h;obtain ⟨hg,h⟩:=h;cases h;exact Pk _ hg
 ·cases h
noncomputable def S7 (y0:Int) (y1:Int) (y2:Int) (y3:Int) (y4:Int) (y5:Int) (y6:BA) (y7:List BA) (y8:List af) (y9:List Bool) (fc:List BA) (fE:List ae) (iN:List BA) (ml:List BA):St:=⟨[(4,.c (.one (.pt 4 0))),(5,.c (.one (.pt 5 0))),(6,.c (.one (.h 2176 0 0 []))),(7,.c (.one (.h 2368 0 0 []))),(8,.c (.one (.v (.int .i64 y0))))],[(4,⟨.aq,[.v (.int .i64 y1),.h 834 0 0 [],.h 835 0 0 [],.h 836 0 0 [],.v (.int .i64 y2),.v (.int .i64 y3)]⟩),(5,⟨.node,[.v (.int .i64 y4),.v (.int .i64 y5),.v (.string y6),.h 1152 0 0 [],.h 1153 0 0 []]⟩)],[(834,.live ⟨.str,.deep,0,[],y7⟩),(835,.live ⟨.aq,.deep,0,[],y8⟩),(836,.live ⟨.bool,.deep,0,[],y9⟩),(1152,.live ⟨.str,.deep,0,[],fc⟩),(1153,.live ⟨.node,.deep,0,[],fE⟩),(2176,.live ⟨.str,.deep,0,[],iN⟩),(2368,.live ⟨.str,.deep,0,[],ml⟩)]⟩
noncomputable def XE:St:=⟨[(2,.c (.one (.v (.bool false))))],[],[]⟩
noncomputable def XF (y0:Int) (y1:Bool) (y2:Int) (y3:Int) (y4:Int) (y5:Int) (y6:Int) (y7:BA) (y8:List BA) (y9:List af) (fc:List Bool) (fE:List BA) (iN:List ae) (ml:List BA) (o4:List BA):St:=⟨[(4,.c (.one (.pt 4 0))),(5,.c (.one (.pt 5 0))),(6,.c (.one (.h 2176 0 0 []))),(7,.c (.one (.h 2368 0 0 []))),(8,.c (.one (.v (.int .i64 y0)))),(41,.c (.one (.v (.bool y1))))],[(4,⟨.aq,[.v (.int .i64 y2),.h 834 0 0 [],.h 835 0 0 [],.h 836 0 0 [],.v (.int .i64 y3),.v (.int .i64 y4)]⟩),(5,⟨.node,[.v (.int .i64 y5),.v (.int .i64 y6),.v (.string y7),.h 1152 0 0 [],.h 1153 0 0 []]⟩)],[(834,.live ⟨.str,.deep,0,[],y8⟩),(835,.live ⟨.aq,.deep,0,[],y9⟩),(836,.live ⟨.bool,.deep,0,[],fc⟩),(1152,.live ⟨.str,.deep,0,[],fE⟩),(1153,.live ⟨.node,.deep,0,[],iN⟩),(2176,.live ⟨.str,.deep,0,[],ml⟩),(2368,.live ⟨.str,.deep,0,[],o4⟩)]⟩
noncomputable def XG:Code:=(Tryd.f4.body).getD .skip
def Yb:Nat→Kp:=fT [⟨[0],[],[],[]⟩,⟨[0,10],[],[],[]⟩,⟨[2],[],[],[]⟩,⟨[3,4],[],[],[]⟩,⟨[3,4,5],[],[],[]⟩,⟨[3,4,5,26],[],[],[]⟩,⟨[2],[],[],[]⟩,⟨[4,5,6,7],[],[],[]⟩,⟨[4,5,6,7,8],[],[],[]⟩,⟨[4,5,6,7,8,41],[],[],[]⟩,⟨[4,5,6,7,8],[],[],[]⟩,⟨[4,5,6,7,8,50],[],[],[]⟩,⟨[2],[],[],[]⟩,⟨[2],[],[],[]⟩]
noncomputable def S8:Env:=b9.env [(11,s11),(19,s19),(20,s20),(21,s21),(22,s22),(23,Xk),(24,s24),(25,s25),(26,s26)]
noncomputable def Eo {R:Type} (n:Nat) (x0:Option R) (x1:Int→Bool→Option R) (wI:Int) (wJ:Int) (wK:Int) (wC:Int) (wD:Int) (wE:BA) (wL:List BA) (wM:List af) (wN:List Bool) (wF:List BA) (wG:List ae) (wH:List BA) (wA:List BA):Nat→Int→Option R
  | 0,_=>none
  | m+1,wB=>
    (cond (decide (wB<(wA.length:Int)))
   (cond ((decide ((0:Int)≤wB))&&(decide (wB<(wA.length:Int))))
    (cond ((fun (l:List BA) (_:BA)=>fW l) wH (ar (t:= .str) wA (Int.toNat wB)))
     (cond (!(qE wH (ar (t:= .str) wA (Int.toNat wB))))
      (x0)
      (Eo n x0 x1 wI wJ wK wC wD wE wL wM wN wF wG wH wA m (IntKind.wrap .i64 (wB+(1:Int)))))
     none)
    none)
   (x1 wB (decide (wB<(wA.length:Int)))))
theorem XH {R:Type} (n:Nat) (k':Kx R) (wB:Int) (wI:Int) (wJ:Int) (wK:Int) (wC:Int) (wD:Int) (wE:BA) (wL:List BA) (wM:List af) (wN:List Bool) (wF:List BA) (wG:List ae) (wH:List BA) (wA:List BA):ev S8 Yb n (bl [1,1,1,1,1,1,0,1,0,0] XG) (S7 wB wI wJ wK wC wD wE wL wM wN wF wG wH wA) k'=
 (cond (decide (wB<(wA.length:Int)))
 (cond ((decide ((0:Int)≤wB))&&(decide (wB<(wA.length:Int))))
 (cond ((fun (l:List BA) (_:BA)=>fW l) wH (ar (t:= .str) wA (Int.toNat wB)))
 (cond (!(qE wH (ar (t:= .str) wA (Int.toNat wB))))
 (k' .ret XE)
 (k' .normal (S7 (IntKind.wrap .i64 (wB+(1:Int))) wI wJ wK wC wD wE wL wM wN wF wG wH wA)))
 none)
 none)
 (k' (.exit 0) (XF wB (decide (wB<(wA.length:Int))) wI wJ wK wC wD wE wL wM wN wF wG wH wA))):=by kernel_rfl
theorem S9 {R:Type} (n:Nat) (k':Kx R) (wI:Int) (wJ:Int) (wK:Int) (wC:Int) (wD:Int) (wE:BA) (wL:List BA) (wM:List af) (wN:List Bool) (wF:List BA) (wG:List ae) (wH:List BA) (wA:List BA):∀(m:Nat) (wB:Int),iter (fun st k=>ev S8 Yb n (bl [1,1,1,1,1,1,0,1,0,0] XG) st k) m (S7 wB wI wJ wK wC wD wE wL wM wN wF wG wH wA) k'=Eo n (k' .ret XE) (fun (wO:Int) (wP:Bool)=>k' (.exit 0) (XF wO wP wI wJ wK wC wD wE wL wM wN wF wG wH wA)) wI wJ wK wC wD wE wL wM wN wF wG wH wA m wB:=by
 intro m;induction m with
 | zero=>intros;rfl
 | succ m ih=>
  intro wB
  simp only [iter]
  rw [XH]
  simp only [ih,Eo]
noncomputable def XI {R:Type} (n:Nat) (k':Kx R):Kx R:=(bZ 0 (dS S8 Yb n (bl [1,1,1,1,1,1,1] XG) k'))
theorem S' {R:Type} (n:Nat) (k:Kt R) (a0:List Int):XI n (aC S8 [.kp] [false] true [.tmp 2] [4] [.d (.sl (.i .u8)) a0] k) .ret XE=
 (k [.d .bool false]):=by kernel_rfl
theorem Ta {R:Type} (n:Nat) (k:Kt R) (a0:List Int) (wI:Int) (wJ:Int) (wK:Int) (wC:Int) (wD:Int) (wE:BA) (wL:List BA) (wM:List af) (wN:List Bool) (wF:List BA) (wG:List ae) (wH:List BA) (wA:List BA) (wO:Int) (wP:Bool):XI n (aC S8 [.kp] [false] true [.tmp 2] [4] [.d (.sl (.i .u8)) a0] k) (.exit 0) (XF wO wP wI wJ wK wC wD wE wL wM wN wF wG wH wA)=
 (cond (ak (⟨wC,wD,wE,wF,wG⟩:ae))
 (cond (hQ (⟨wC,wD,wE,wF,wG⟩:ae))
 (cond ((fun (x:ae) (y:af)=>ak x&&bm y) (⟨wC,wD,wE,wF,wG⟩:ae) (⟨wI,wL,wM,wN,wJ,wK⟩:af))
 (cond (Av ak (eN (aG (⟨wC,wD,wE,wF,wG⟩:ae) (⟨wI,wL,wM,wN,wJ,wK⟩:af))) (⟨wC,wD,wE,wF,wG⟩:ae))
 (cond (pa (eN (aG (⟨wC,wD,wE,wF,wG⟩:ae) (⟨wI,wL,wM,wN,wJ,wK⟩:af))) (⟨wC,wD,wE,wF,wG⟩:ae))
 (k [.d .bool (decide ((wA.length:Int)≤(wH.length:Int)))])
 (k [.d .bool false]))
 none)
 none)
 (k [.d .bool false]))
 none):=by kernel_rfl
theorem XJ {R:Type} (n:Nat) (k:Kt R) (a0:List Int):aM S8 Yb n XG [.kp] [false] true [.tmp 2] [4] [.d (.sl (.i .u8)) a0] k=
 (cond (DB a0)
 (k [.d .bool true])
 (cond (iJ a0)
 (cond ((fun (x:ae) (y:af)=>ak x&&bm y) (eN ((al a0).1)) (eR ((al a0).2)))
 (cond (ak (eN ((al a0).1)))
 (cond (!(hQ (eN ((al a0).1))))
 (cond ((fun (x:ae) (y:af)=>ak x&&bm y) (eN ((al a0).1)) (eR ((al a0).2)))
 (cond (Av ak (eN (aG (eN ((al a0).1)) (eR ((al a0).2)))) (eN (aG (eN ((al a0).1)) (eR ((al a0).2)))))
 (k [.d .bool (pa (eN (aG (eN ((al a0).1)) (eR ((al a0).2)))) (eN (aG (eN ((al a0).1)) (eR ((al a0).2)))))])
 none)
 none)
 (cond (bm (eR ((al a0).2)))
 (cond (!(e9 (eR ((al a0).2))))
 (cond ((fun (x:ae) (y:af)=>ak x&&bm y) (eN ((al a0).1)) (eR ((al a0).2)))
 (cond (Av ak (eN (aG (eN ((al a0).1)) (eR ((al a0).2)))) (eN (aG (eN ((al a0).1)) (eR ((al a0).2)))))
 (k [.d .bool (pa (eN (aG (eN ((al a0).1)) (eR ((al a0).2)))) (eN (aG (eN ((al a0).1)) (eR ((al a0).2)))))])
 none)
 none)
 (cond (oi (eN ((al a0).1)) (eR ((al a0).2)))
 (cond (oi (eN (aG (eN ((al a0).1)) (eR ((al a0).2)))) (eR ((al a0).2)))
 (Eo n (k [.d .bool false]) (fun (wO:Int) (wP:Bool)=>
 (cond (ak (⟨(ae.kind (aG (eN ((al a0).1)) (eR ((al a0).2)))),(ae.n (aG (eN ((al a0).1)) (eR ((al a0).2)))),(ae.s (aG (eN ((al a0).1)) (eR ((al a0).2)))),(ae.keys (aG (eN ((al a0).1)) (eR ((al a0).2)))),(ae.kids (aG (eN ((al a0).1)) (eR ((al a0).2))))⟩:ae))
 (cond (hQ (⟨(ae.kind (aG (eN ((al a0).1)) (eR ((al a0).2)))),(ae.n (aG (eN ((al a0).1)) (eR ((al a0).2)))),(ae.s (aG (eN ((al a0).1)) (eR ((al a0).2)))),(ae.keys (aG (eN ((al a0).1)) (eR ((al a0).2)))),(ae.kids (aG (eN ((al a0).1)) (eR ((al a0).2))))⟩:ae))
 (cond ((fun (x:ae) (y:af)=>ak x&&bm y) (⟨(ae.kind (aG (eN ((al a0).1)) (eR ((al a0).2)))),(ae.n (aG (eN ((al a0).1)) (eR ((al a0).2)))),(ae.s (aG (eN ((al a0).1)) (eR ((al a0).2)))),(ae.keys (aG (eN ((al a0).1)) (eR ((al a0).2)))),(ae.kids (aG (eN ((al a0).1)) (eR ((al a0).2))))⟩:ae) (⟨(af.kind ((al a0).2)),(af.keys ((al a0).2)),(af.kids ((al a0).2)),(af.need ((al a0).2)),(af.low ((al a0).2)),(af.high ((al a0).2))⟩:af))
 (cond (Av ak (eN (aG (⟨(ae.kind (aG (eN ((al a0).1)) (eR ((al a0).2)))),(ae.n (aG (eN ((al a0).1)) (eR ((al a0).2)))),(ae.s (aG (eN ((al a0).1)) (eR ((al a0).2)))),(ae.keys (aG (eN ((al a0).1)) (eR ((al a0).2)))),(ae.kids (aG (eN ((al a0).1)) (eR ((al a0).2))))⟩:ae) (⟨(af.kind ((al a0).2)),(af.keys ((al a0).2)),(af.kids ((al a0).2)),(af.need ((al a0).2)),(af.low ((al a0).2)),(af.high ((al a0).2))⟩:af))) (⟨(ae.kind (aG (eN ((al a0).1)) (eR ((al a0).2)))),(ae.n (aG (eN ((al a0).1)) (eR ((al a0).2)))),(ae.s (aG (eN ((al a0).1)) (eR ((al a0).2)))),(ae.keys (aG (eN ((al a0).1)) (eR ((al a0).2)))),(ae.kids (aG (eN ((al a0).1)) (eR ((al a0).2))))⟩:ae))
 (cond (pa (eN (aG (⟨(ae.kind (aG (eN ((al a0).1)) (eR ((al a0).2)))),(ae.n (aG (eN ((al a0).1)) (eR ((al a0).2)))),(ae.s (aG (eN ((al a0).1)) (eR ((al a0).2)))),(ae.keys (aG (eN ((al a0).1)) (eR ((al a0).2)))),(ae.kids (aG (eN ((al a0).1)) (eR ((al a0).2))))⟩:ae) (⟨(af.kind ((al a0).2)),(af.keys ((al a0).2)),(af.kids ((al a0).2)),(af.need ((al a0).2)),(af.low ((al a0).2)),(af.high ((al a0).2))⟩:af))) (⟨(ae.kind (aG (eN ((al a0).1)) (eR ((al a0).2)))),(ae.n (aG (eN ((al a0).1)) (eR ((al a0).2)))),(ae.s (aG (eN ((al a0).1)) (eR ((al a0).2)))),(ae.keys (aG (eN ((al a0).1)) (eR ((al a0).2)))),(ae.kids (aG (eN ((al a0).1)) (eR ((al a0).2))))⟩:ae))
 (k [.d .bool (decide (((db (eN (aG (eN ((al a0).1)) (eR ((al a0).2)))) (eR ((al a0).2))).length:Int)≤((db (eN ((al a0).1)) (eR ((al a0).2))).length:Int)))])
 (k [.d .bool false]))
 none)
 none)
 (k [.d .bool false]))
 none)) (af.kind ((al a0).2)) (af.low ((al a0).2)) (af.high ((al a0).2)) (ae.kind (aG (eN ((al a0).1)) (eR ((al a0).2)))) (ae.n (aG (eN ((al a0).1)) (eR ((al a0).2)))) (ae.s (aG (eN ((al a0).1)) (eR ((al a0).2)))) (af.keys ((al a0).2)) (af.kids ((al a0).2)) (af.need ((al a0).2)) (ae.keys (aG (eN ((al a0).1)) (eR ((al a0).2)))) (ae.kids (aG (eN ((al a0).1)) (eR ((al a0).2)))) (db (eN ((al a0).1)) (eR ((al a0).2))) (db (eN (aG (eN ((al a0).1)) (eR ((al a0).2)))) (eR ((al a0).2))) n (0:Int))
 none)
 none))
 none))
 none)
 none)
 none)):=by
  refine Eq.trans (b:=(cond (DB a0)
  (k [.d .bool true])
  (cond (iJ a0)
   (cond ((fun (x:ae) (y:af)=>ak x&&bm y) (eN ((al a0).1)) (eR ((al a0).2)))
    (cond (ak (eN ((al a0).1)))
     (cond (!(hQ (eN ((al a0).1))))
      (cond ((fun (x:ae) (y:af)=>ak x&&bm y) (eN ((al a0).1)) (eR ((al a0).2)))
       (cond (Av ak (eN (aG (eN ((al a0).1)) (eR ((al a0).2)))) (eN (aG (eN ((al a0).1)) (eR ((al a0).2)))))
        (k [.d .bool (pa (eN (aG (eN ((al a0).1)) (eR ((al a0).2)))) (eN (aG (eN ((al a0).1)) (eR ((al a0).2)))))])
        none)
       none)
      (cond (bm (eR ((al a0).2)))
       (cond (!(e9 (eR ((al a0).2))))
        (cond ((fun (x:ae) (y:af)=>ak x&&bm y) (eN ((al a0).1)) (eR ((al a0).2)))
         (cond (Av ak (eN (aG (eN ((al a0).1)) (eR ((al a0).2)))) (eN (aG (eN ((al a0).1)) (eR ((al a0).2)))))
          (k [.d .bool (pa (eN (aG (eN ((al a0).1)) (eR ((al a0).2)))) (eN (aG (eN ((al a0).1)) (eR ((al a0).2)))))])
          none)
         none)
        (cond (oi (eN ((al a0).1)) (eR ((al a0).2)))
         (cond (oi (eN (aG (eN ((al a0).1)) (eR ((al a0).2)))) (eR ((al a0).2)))
          (iter (fun st k=>ev S8 Yb n (bl [1,1,1,1,1,1,0,1,0,0] XG) st k) n (S7 (0:Int) (af.kind ((al a0).2)) (af.low ((al a0).2)) (af.high ((al a0).2)) (ae.kind (aG (eN ((al a0).1)) (eR ((al a0).2)))) (ae.n (aG (eN ((al a0).1)) (eR ((al a0).2)))) (ae.s (aG (eN ((al a0).1)) (eR ((al a0).2)))) (af.keys ((al a0).2)) (af.kids ((al a0).2)) (af.need ((al a0).2)) (ae.keys (aG (eN ((al a0).1)) (eR ((al a0).2)))) (ae.kids (aG (eN ((al a0).1)) (eR ((al a0).2)))) (db (eN ((al a0).1)) (eR ((al a0).2))) (db (eN (aG (eN ((al a0).1)) (eR ((al a0).2)))) (eR ((al a0).2)))) (XI n (aC S8 [.kp] [false] true [.tmp 2] [4] [.d (.sl (.i .u8)) a0] k)))
          none)
         none))
       none))
     none)
    none)
   none))) (by kernel_rfl) ?_
  simp only [S9,S',Ta]
theorem Tc (a0:List Int):∃aJ rounds,∀ {R:Type} (k:Kt R),aM S8 aJ rounds XG [.kp] [false] true [.tmp 2] [4] [.d (.sl (.i .u8)) a0] k=k [.d .bool ((fun (_:List Int)=>true) a0)]:=by
 refine ⟨Yb,(db (aG (al a0).1 (al a0).2) (al a0).2).length+1,fun {R} k=> ?_⟩
 rw [XJ]
 show _=k [.d .bool true]
 cases aep:DB a0
 rotate_left
 ·simp only [cond_true]
 have hc:=J7 aep
 obtain ⟨ht,hr⟩:=HS a0 hc
 revert ht hr
 generalize (al a0).1=t,(al a0).2=r
 intro ht hr
 have s1:=(ld.1 ht).1
 have s2:=(k9.1 hr).1
 have hp:=yt (r:=r) ht
 have s3:=(ld.1 hp).1
 have s4:=(ld.1 (yt (r:=r) hp)).1
 have c1:=B4 ht hr
 have c2:=B4 hp hr
 simp only [bu,cM,aT,bu,bN,cM,hc,s1,s2,s3,s4,c1,c2,Av,u7,Bool.and_self,cond_true,cond_false]
 cases pI:hQ t
 ·simp only [Bool.not_false,cond_true]
 cases cZ:e9 r
 ·simp only [Bool.not_true,Bool.not_false,cond_true,cond_false]
 simp only [Bool.not_true,cond_false]
 have dy:=B5 cZ pI
 have e1:hQ (aG t r)=true:=by rw [mR cZ];exact zN pI
 have e2:aG (aG t r) r=aG t r:=by rw [mR cZ,mR cZ,pS t r (fl r 8 cZ)]
 have hlen:(db t r).length≤bT:=by
  unfold db;rw [cZ]
  exact vK (sI c1 cZ) aL
 have aay:(bT:Nat)=4294967296:=rfl
 have X1:=dy.length_le
 have gl:fW (db t r)=true:=BB (by omega)
 refine Eq.trans (iG (n:=(db (aG t r) r).length) (F:=fun m i=>Eo _ _ _ _ _ _ _ _ _ _ _ _ _ _ _ _ m i) (p:=fun _=>true) (good:=k [.d .bool true]) (bad:=k [.d .bool false])
  (fun m j hj=> ?_) (fun m=> ?_) (db (aG t r) r).length 0 ((db (aG t r) r).length+1) (by omega) (by omega)) ?_
 ·obtain ⟨h1,h0,hw,ht⟩:=idx hj (by omega)
  have hm:=Km (dy.subset (List.mem_of_getElem? (c9 (t:= .str) hj)))
  simp only [Eo,h1,h0,hw,ht,gl,hm,Bool.and_self,Bool.not_true,cond_true,cond_false]
 ·simp only [Eo,gG,e1,e2,u7,decide_eq_true (show ((db (aG t r) r).length:Int)≤((db t r).length:Int) by omega),cond_true,cond_false]
 ·rw [show oY (fun _=>true) 0 (db (aG t r) r).length=true from nQ.2 fun _ _ _=>rfl];rfl
noncomputable def q4:Qt
 | [.d (.sl (.i .u8)) a0]=>some (true,[.d .bool ((fun (_:List Int)=>true) a0)])
 | _=>none
noncomputable def s4:Gm.Spec:=Gm.Spec.of [.kp] [false] true q4
theorem abm:Gm.Good Tryd.prog (4,s4):=by
 have hl:∀x∈[(11,s11),(19,s19),(20,s20),(21,s21),(22,s22),(23,Xk),(24,s24),(25,s25),(26,s26)],Gm.Good Tryd.prog x:=bJ.2 ⟨Xq,bJ.2 ⟨WM,bJ.2 ⟨WK,bJ.2 ⟨Xo,bJ.2 ⟨XD,bJ.2 ⟨Eh,bJ.2 ⟨WR,bJ.2 ⟨Xm,bJ.2 ⟨Xr,im⟩⟩⟩⟩⟩⟩⟩⟩⟩
 refine ⟨⟨aK (aV.env hl) (b9.cF hl) Tryd.func4 (by kernel_rfl:Tryd.f4.body=some XG) [4] (by kernel_rfl) ?_,_,Tryd.func4,by kernel_rfl,of_decide_eq_true (by kernel_rfl)⟩,Gm.Spec.aB _ _ _ _⟩
 intro ds outs h
 unfold q4 at h
 split at h
 ·cases h;exact Tc _
 ·cases h
end Go.Proofs.YtglijihijmkpaaaDoor
