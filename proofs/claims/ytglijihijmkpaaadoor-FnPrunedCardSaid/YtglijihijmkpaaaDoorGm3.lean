/- The G-machine, part 3: an evaluator of translated code on typed values, and that it is sound. No conditions. -/
import Derived.Test.YtglijihijmkpaaaDoorGm2
import Derived.Orders
namespace Go.Gm
open Go
variable {wl : World} {R : Type} {P : Program} {E : Env} {w0 w w' : World} {Mf : Nat → Prop} {g : Gh} {st aE : St} {a : Act}
theorem Form.uniq {t:Ty} {u v:Value} {us:Array Value} (h:Form t u us) (h':Form t v us):u=v:=by
 unfold Form at h h'
 split at h
 ·rename_i lW;simp only [lW,if_true] at h';rw [h,h']
 ·rename_i lW;simp only [lW] at h';have:=h.1.symm.trans h'.1;simpa using this
structure Res (w:World) (g:Gh) (st:St) (g':Gh) (bt:St) (d:Dl):Prop where
 n:g'.n=g.n
 aA:bt.aA=st.aA
 roots:bt.roots=cg st.roots d.roots
 boxes:bt.boxes=cg st.boxes d.boxes
 map:∀c v,aZ w g st c v→aZ w g' bt c v
def I8 (w:World) (g:Gh) (st:St):List Cm→List Value→Prop
 | [],[]=>True
 | c::cs,u::us=>ix w g st c u∧I8 w g st cs us
 | _,_=>False
theorem I8.map {g':Gh} {aE:St} (hm:∀c u,aZ w g st c u→aZ w g' aE c u):∀ {cs:List Cm} {us:List Value},I8 w g st cs us→I8 w g' aE cs us
 | [],[],_=>trivial
 | [],_::_,h=>h.elim
 | _::_,[],h=>h.elim
 | _::_,_::_,h=>⟨h.1.map hm,I8.map hm h.2⟩
theorem hZ {t:Ty} {x:El t} {y:Value} (h : .v y∈enc t x):cR y=true:=by
 have:=tw t x
 rw [List.all_eq_true] at this
 exact this _ h
theorem Inv.rm:∀ {ps:List Bool} {ds:List Dt} {us:List Value} {Gs:List (Nat→Prop)} {g:Gh} {st:St} {d id:Nat} {k:List Cm→St→Dl→Option R} {r:R},Inv w0 Mf g st a w→iU g.n.wl w true ps ds us Gs→bR Gs→
 (∀ G∈Gs,∀n,G n→fx w0 Mf g st n∧n<w.heap.size)→eo true st d id ps ds k=some r→
    ∃q9 g' bt δ,k q9 bt δ=some r∧Inv w0 Mf g' bt a w∧Res w g st g' bt δ∧I8 w g' bt q9 us
 | [],ds,us,Gs,g,st,d,id,k,r,I,hr,hp,hf,h=>by
  cases hr
  exact ⟨[],g,st,{},h,I,⟨rfl,rfl,rfl,rfl,fun _ _ h=>h⟩,trivial⟩
 | false::ps,ds,us,Gs,g,st,d,id,k,r,I,hr,hp,hf,h=>by
  cases hr with
  | val hv hs=>
  rename_i t x ds u us G Gs
  simp only [if_true] at hv
  obtain ⟨AU,w5⟩:=List.pairwise_cons.1 hp
  obtain ⟨vs,eA,fy⟩:=hv
  obtain ⟨Fs,hO,P9,dy⟩:=fy.list
  simp only [Gm.eo] at h
  obtain ⟨ss,m,g1,bt,u1,h,I1,G1,hc⟩:=Inv.ua I hO (fun y hy=>hZ hy) P9 (fun F hF n hn=>hf G (by simp) n (dy F hF n hn)) h
  obtain ⟨c,yT,h⟩:=aQ h
  obtain ⟨u',et,yV⟩:=Form.of yT (lV.arr hc)
  have:=eA.uniq et
  subst this
  obtain ⟨q9,g',pJ,δ,h1,I2,R2,CY⟩:=Inv.rm I1 (by rw [G1.n];exact hs) w5 (fun G' p5 n hn=>by
   obtain ⟨EC,ct⟩:=hf G' (by simp [p5]) n hn
   refine ⟨⟨fun aH hi h5=> ?_,by rw [G1.ro];exact EC.ro,fun b hb=>by rw [G1.bx];rw [G1.eq] at hb;exact EC.b b hb,EC.gy⟩,ct⟩
   rcases G1.own aH hi with ⟨h6,h7⟩ | h6
   ·rw [h7] at h5;exact EC.r aH h6 h5
   ·obtain ⟨F,hF,hk⟩:=h6 n h5
    exact AU G' p5 n (dy F hF n hk) hn) h
  refine ⟨_,g',pJ,_,h1,I2,⟨R2.n.trans G1.n,by rw [R2.aA,G1.eq],by rw [R2.roots,G1.eq,bc],by rw [R2.boxes,G1.eq],fun c v pZ=>R2.map c v (G1.map c v pZ)⟩,yV.map R2.map,CY⟩
 | true::ps,ds,us,Gs,g,st,d,id,k,r,I,hr,hp,hf,h=>by
  cases hr with
  | ptr hv hs=>
  rename_i t x ds u us G Gs
  obtain ⟨AU,w5⟩:=List.pairwise_cons.1 hp
  obtain ⟨b,vs,el,rfl,U0,hb,fy⟩:=hv.2
  simp only [Gm.eo] at h
  split at h
  case h_2=>cases h
  rename_i AZ
  obtain ⟨ss,m,g1,bt,u1,h,I1,G1,hc⟩:=Inv.tC I fy (fun y hy=>hZ hy) (fun n hn=>hf G (by simp) n hn.1) h
  have zj:ax bt.boxes d=none:=by rw [G1.eq];exact AZ
  obtain ⟨EA,_⟩:=hf G (by simp) b U0
  have I2:=I1.CW (d:=d) (nb:=b) (t:=t) zj hb (lV.arr hc) (fun aH hi h5=>by
    rcases G1.own aH hi with ⟨h6,h7⟩ | h6
    ·rw [h7] at h5;exact EA.r aH h6 h5
    ·exact (h6 b h5).2 rfl) (by rw [G1.ro];exact EA.ro) (fun b' gB=>by rw [G1.bx];rw [G1.eq] at gB;exact EA.b b' gB) EA.gy
  have Vb:∀c v,aZ w g1 bt c v→aZ w (g1.dB d b) { bt with boxes:=aX bt.boxes d ⟨t,ss⟩ } c v:=fun c v hc=>⟨hc.1,hc.2.dB zj⟩
  obtain ⟨q9,g',pJ,δ,h1,I3,R3,hc3⟩:=Inv.rm I2 (by show iU g1.n.wl w true ps ds us Gs;rw [G1.n];exact hs) w5 (fun G' p5 n hn=>by
   obtain ⟨EC,ct⟩:=hf G' (by simp [p5]) n hn
   refine ⟨⟨fun aH hi h5=> ?_,by show ¬g1.ro n;rw [G1.ro];exact EC.ro,fun b' gB e=> ?_,EC.gy⟩,ct⟩
   ·rcases G1.own aH hi with ⟨h6,h7⟩ | h6
    ·have h5':g1.rf aH n:=h5
     rw [h7] at h5';exact EC.r aH h6 h5'
    ·exact AU G' p5 n (h6 n h5).1 hn
   ·by_cases e':b'=d
    ·subst e'
     simp only [Gh.dB,if_true] at e
     subst e
     exact AU G' p5 b U0 hn
    ·simp only [Gh.dB,e',if_false] at e
     rw [G1.bx] at e
     refine EC.b b' ?_ e
     simp only [bA,bX _ _ e',G1.eq] at gB
     exact gB) h
  refine ⟨_,g',pJ,_,h1,I3,⟨R3.n.trans G1.n,by rw [R3.aA,G1.eq],by rw [R3.roots,G1.eq,bc],by rw [R3.boxes,G1.eq];rfl,fun c v pZ=>R3.map c v (Vb c v (G1.map c v pZ))⟩,?_,hc3⟩
  exact ix.map R3.map (x:= .one (.pt d 0)) ⟨rfl,by simp [Gh.dB],by simp [bd]⟩
theorem I9 {Pr:Nat→Prop} (hPr:∀k,Pr k→g.ro k):∀ {cs:List Cv} {us:List Value} {id:Nat} {k:List Sc→Nat→St→List (Nat×Rt)→Option R} {r:R},iA w Pr cs us→(∀ x,.v x∈cs→cR x=true)→tB false st id cs k=some r→
    ∃ss m,k ss m st []=some r∧lV w g st ss us
 | [],us,id,k,r,hr,hf,h=>by
  cases us with
  | nil=>exact ⟨[],id,h,trivial⟩
  | cons u us=>exact hr.elim
 | .v x::cs,us,id,k,r,hr,hf,h=>by
  cases us with
  | nil=>exact hr.elim
  | cons u us=>
   obtain ⟨ss,m,h1,h2⟩:=I9 hPr hr.2 (fun x hx=>hf x (by simp [hx])) h
   have hu:u=x:=hr.1
   subst hu
   exact ⟨_,m,h1,⟨hf u (by simp),rfl⟩,h2⟩
 | .l t xs::cs,us,id,k,r,hr,hf,h=>by
  cases us with
  | nil=>exact hr.elim
  | cons u us=>
   simp only [tB] at h
   replace h:=(Te h).2
   simp only [cond_false] at h
   obtain ⟨ss,m,h1,h2⟩:=I9 hPr hr.2 (fun x hx=>hf x (by simp [hx])) h
   have cZ:fK w g.ro t xs u:=fK.mono hPr hr.1
   refine ⟨_,m,h1,⟨?_,cZ⟩,h2⟩
   obtain ⟨av,h0,fw⟩:=cZ
   obtain ⟨ad,cap,e,_⟩:=fw [] _ rfl
   rw [h0] at e;subst e;rfl
theorem AG.l {Pr:Nat→Prop} {cs:List Cv} {us:Array Value} (h:AG w Pr cs us):iA w Pr cs us.toList:=by
 have key:∀ {cs:List Cv} {us:List Value},us.length=cs.length→(∀ (j:Nat) c,cs[j]? =some c→∃z,us[j]? =some z∧pF w Pr c z)→iA w Pr cs us:=by
  intro cs
  induction cs with
  | nil=>intro us hl _;cases us with | nil=>trivial | cons _ _=>simp at hl
  | cons c cs ih=>
   intro us hl hr
   cases us with
   | nil=>simp at hl
   | cons u us=>
    refine ⟨?_,ih (by simpa using hl) fun j c' hj=>by simpa using hr (j+1) c' (by simpa using hj)⟩
    obtain ⟨z,hz,hc⟩:=hr 0 c rfl
    simp only [List.getElem?_cons_zero,Option.some.injEq] at hz;subst hz;exact hc
 exact key (by simpa using h.1) fun j c hj=>by simpa using h.2 j c hj
theorem ub:∀ {ps:List Bool} {ds:List Dt} {us:List Value} {Gs:List (Nat→Prop)} {d id:Nat} {k:List Cm→St→Dl→Option R} {r:R},iU wl w false ps ds us Gs→(∀ G∈Gs,∀n,G n→g.ro n)→eo false st d id ps ds k=some r→
    ∃q9 δ,k q9 st δ=some r∧δ.roots=[]∧δ.boxes=[]∧I8 w g st q9 us
 | [],ds,us,Gs,d,id,k,r,hr,hf,h=>by
  cases hr
  exact ⟨[],{},h,rfl,rfl,trivial⟩
 | false::ps,ds,us,Gs,d,id,k,r,hr,hf,h=>by
  cases hr with
  | val hv hs=>
  rename_i t x ds u us G Gs
  simp only [Bool.false_eq_true,if_false] at hv
  obtain ⟨vs,eA,fy⟩:=hv
  simp only [Gm.eo] at h
  obtain ⟨ss,m,h,hc⟩:=I9 (hf G (by simp)) fy.l (fun y hy=>hZ hy) h
  obtain ⟨c,yT,h⟩:=aQ h
  obtain ⟨u',et,yV⟩:=Form.of yT (lV.arr hc)
  have:=eA.uniq et
  subst this
  obtain ⟨q9,δ,h1,h2,h3,h4⟩:=ub hs (fun G' p5=>hf G' (by simp [p5])) h
  exact ⟨_,_,h1,by simp [h2],by simp [h3],yV,h4⟩
 | true::ps,ds,us,Gs,d,id,k,r,hr,hf,h=>by
  cases hr with
  | ptr hv hs=>cases hv.1
end Go.Gm
namespace Go.Gm
open Go
variable {R : Type} {P : Program} {E : Env} {w0 w w' : World} {Mf : Nat → Prop} {g : Gh} {st aE : St} {a : Act} {Q : Exit → Act → World → Prop}
  {o:Oper} {k:Dl→Option R} {r:R} {K:Act→World→Prop}
theorem Inv.Ja (I:Inv w0 Mf g st a w) {b:Nat} (h:bA st b):g.bx b<w.heap.size:=by
 obtain ⟨x,hx⟩:=Option.isSome_iff_exists.1 h
 obtain ⟨us,el,h1,_⟩:=I.boxes b x hx
 exact (Array.getElem?_eq_some_iff.1 h1).1
theorem Inv.fO (I:Inv w0 Mf g st a w) {bt:St} {bs:List Bk} {d:Dl} {H:Nat→Prop} (L:zh g w st bt bs d H) {n:Nat} (hn:H n):A0 w0 Mf g bt bs n∧n<w.heap.size:=by
 refine ⟨⟨fun id hi=>L.off n hn id hi,fun cZ=> ?_,fun b hb e=> ?_,?_⟩,?_⟩
 ·rcases L.src n hn with ⟨id,h1,h2⟩ | ⟨b,h1,_,_,h4⟩
  ·exact I.apart.dZ id n h1 h2 cZ
  ·exact I.apart.fL b h1.at (h4▸cZ)
 ·rcases L.src n hn with ⟨id,h1,h2⟩ | ⟨b',h1,_,h3,h4⟩
  ·exact (I.apart.rb id b h1 ((L.box b).1 hb) (e▸h2)).elim
  ·have:=I.apart.bb b b' ((L.box b).1 hb) h1.at (by rw [e,h4])
   subst this;exact h3
 ·rcases L.src n hn with ⟨id,h1,h2⟩ | ⟨b,h1,_,_,h4⟩
  ·exact I.apart.ck id n h1 h2
  ·rw [← h4];exact I.apart.dA b h1.at
 ·rcases L.src n hn with ⟨id,h1,h2⟩ | ⟨b,h1,_,_,h4⟩
  ·exact I.apart.eb id n h1 h2
  ·rw [← h4];exact I.Ja h1.at
theorem lz.sub {bt:St} {ms:List Am} {us:List Value} {Fs:List (Nat→Prop)} {bs:List Bk} {Hs:List (Nat→Prop)} (h:lz w g bt ms us Fs bs Hs) (hp:bR Hs):bR Fs∧(∀ n,Any Fs n→Any Hs n)∧kj (Any Fs) Fs Hs:=by
 have key:bR Fs∧(∀ n,Any Fs n→Any Hs n):=by
  induction h with
  | nil=>exact ⟨List.Pairwise.nil,fun n h=>h⟩
  | cons h hs ih=>
   obtain ⟨AU,w5⟩:=List.pairwise_cons.1 hp
   obtain ⟨h1,h2⟩:=ih w5
   refine ⟨List.pairwise_cons.2 ⟨fun G hG n hn hg=> ?_,h1⟩,fun n ⟨G,hG,hn⟩=> ?_⟩
   ·obtain ⟨H',hH,hh⟩:=h2 n ⟨G,hG,hg⟩
    exact AU H' hH n (h.sub n hn) hh
   ·rcases List.mem_cons.1 hG with rfl | hG
    ·exact ⟨_,by simp,h.sub n hn⟩
    ·obtain ⟨H',hH,hh⟩:=h2 n ⟨G,hG,hn⟩
     exact ⟨H',by simp [hH],hh⟩
 refine ⟨key.1,key.2,?_⟩
 have gen:∀(X:Nat→Prop),(∀ n,X n→Any Fs n∨ ¬Any Hs n)→kj X Fs Hs:=by
  clear key
  induction h with
  | nil=>intro X _;trivial
  | cons h hs ih=>
   rename_i m ms u us F Fs bk bs H Hs
   obtain ⟨AU,w5⟩:=List.pairwise_cons.1 hp
   intro X hX
   refine ⟨fun n hx hh=> ?_,ih w5 X fun n hx=> ?_⟩
   ·rcases hX n hx with ⟨G,hG,hg⟩ | hn
    ·rcases List.mem_cons.1 hG with rfl | hG
     ·exact hg
     ·have dy:∀ {ms us Fs bs Hs},lz w g bt ms us Fs bs Hs→∀n,Any Fs n→Any Hs n:=by
       intro ms us Fs bs Hs hh
       induction hh with
       | nil=>exact fun n h=>h
       | cons h hs ih=>
        rintro n ⟨G,hG,hn⟩
        rcases List.mem_cons.1 hG with rfl | hG
        ·exact ⟨_,by simp,h.sub n hn⟩
        ·obtain ⟨H',hH,hh⟩:=ih n ⟨G,hG,hn⟩
         exact ⟨H',by simp [hH],hh⟩
      obtain ⟨H',hH,hh'⟩:=dy hs n ⟨G,hG,hg⟩
      exact (AU H' hH n hh hh').elim
    ·exact (hn ⟨H,by simp,hh⟩).elim
   ·rcases hX n hx with ⟨G,hG,hg⟩ | hn
    ·rcases List.mem_cons.1 hG with rfl | hG
     ·refine .inr fun ⟨H',hH,hh⟩=>AU H' hH n (h.sub n hg) hh
     ·exact .inl ⟨G,hG,hg⟩
    ·exact .inr fun ⟨H',hH,hh⟩=>hn ⟨H',by simp [hH],hh⟩
 exact gen (Any Fs) fun n h=> .inl h
def j4 (w:World) (g:Gh) (st:St):List (Nat×Sv)→List Value→Prop
 | [],[]=>True
 | x::l,u::us=>dD w g st x.2 u∧j4 w g st l us
 | _,_=>False
theorem j4.zip:∀ {ms:List Am} {l:List (Nat×Sv)} {us:List Value},ms.length=l.length→j4 w g st l us→ArgRel w g st (ms.zip l) us∧(ms.zip l).map (·.1)=ms∧∀x∈ms.zip l,x.2∈l
 | [],[],us,_,h=>by cases us<;>first | exact ⟨trivial,rfl,fun x h=>by simp at h⟩ | exact h.elim
 | [],_::_,_,h,_=>by simp at h
 | _::_,[],_,h,_=>by simp at h
 | m::ms,(T,s)::l,us,hl,h=>by
  cases us with
  | nil=>exact h.elim
  | cons u us=>
   obtain ⟨h1,h2,h3⟩:=j4.zip (ms:=ms) (l:=l) (by simpa using hl) h.2
   refine ⟨⟨h.1,h1⟩,by simp [h2],fun x hx=> ?_⟩
   simp only [List.zip_cons_cons,List.mem_cons] at hx
   rcases hx with rfl | hx
   ·simp
   ·exact List.mem_cons_of_mem _ (h3 x hx)
def xQ (args:List (Nat×Sv)):List Nat:=(args.map fun a=>(a.2.cells.map fun c=>c.names.2).flatten).flatten
theorem GU {args:List (Nat×Sv)} {x:Nat×Sv} (hx:x∈args) {c:Sc} (hc:c∈x.2.cells) {id:Nat} (hi:id∈c.names.2):id∈xQ args:=by
 unfold xQ
 simp only [List.mem_flatten,List.mem_map]
 exact ⟨_,⟨x,hx,rfl⟩,List.mem_flatten.2 ⟨_,List.mem_map.2 ⟨c,hc,rfl⟩,hi⟩⟩
def Reach (g:Gh) (bt:St) (own:Bool) (ids:List Nat) (n:Nat):Prop:=
  g.ro n∨(own=false∧∃id∈ids,aP bt id∧g.rf id n)∨(own=true∧((∃ id,aP bt id∧g.rf id n)∨∃b,nd bt b∧g.bx b=n))
theorem A2 {own:Bool} {args:List (Nat×Sv)} (oX:own=true∨∀x∈args,∀c∈x.2.cells,c.names.1=[]) {x:Nat×Sv} (hx:x∈args):RdP g st (Reach g st own (xQ args)) x.2:={
 ro:=fun k=> .inl
 r:=fun c hc id hi cU k hk=>by
  cases own
  ·exact .inr (.inl ⟨rfl,id,GU hx hc hi,cU,hk⟩)
  ·exact .inr (.inr ⟨rfl,.inl ⟨id,cU,hk⟩⟩)
 b:=by
  cases own
  ·exact .inl fun c hc=>(oX.resolve_left (by simp)) x hx c hc
  ·exact .inr ⟨fun b x hx ⟨c,hc,hd⟩=> .inr (.inr ⟨rfl,.inr ⟨b,⟨x,hx,c,hc,hd⟩,rfl⟩⟩),fun id cU k hk=> .inr (.inr ⟨rfl,.inl ⟨id,cU,hk⟩⟩)⟩ }
theorem Inv.reach (I:Inv w0 Mf g st a w) {bt:St} (I1:Inv w0 Mf g bt a w) {bs:List Bk} {d:Dl} {H:Nat→Prop} (L:zh g w st bt bs d H) {own:Bool} {ids:List Nat} {n:Nat} (h:Reach g bt own ids n) : ¬H n∧n<w.heap.size:=by
 have root:∀id,aP bt id→g.rf id n→ ¬H n∧n<w.heap.size:=fun id h1 h2=>⟨fun hn=>L.off n hn id h1 h2,I1.apart.eb id n h1 h2⟩
 rcases h with h | ⟨_,id,_,h1,h2⟩ | ⟨_,⟨id,h1,h2⟩ | ⟨b,h1,h2⟩⟩
 ·exact ⟨fun hn=>(I.fO L hn).1.ro h,I1.apart.c7 n h⟩
 ·exact root id h1 h2
 ·exact root id h1 h2
 ·refine ⟨fun hn=> ?_,by rw [← h2];exact I1.Ja h1.at⟩
  have:=(I.fO L hn).1.b b h1.at h2
  exact (L.sX b this).2 h1
end Go.Gm
namespace Go.Gm
open Go
variable {wl : World} {R : Type} {P : Program} {E : Env} {w0 w w' : World} {Mf : Nat → Prop} {g : Gh} {st aE : St} {a : Act} {Q : Exit → Act → World → Prop}
  {o:Oper} {k:Dl→Option R} {r:R} {K:Act→World→Prop}
theorem iO.flat {F:Nat→Prop} {t:Ty} {x:El t} {j:Nat} {c:Cv} (hc:(enc t x)[j]? =some c) {u:Value} (h:iO w F c u):cR u=true:=by
 cases c with
 | v y=>
  have hu:u=y:=h
  subst hu;exact hZ (List.mem_of_getElem? hc)
 | l t' ys=>exact kb.flat h
theorem tD.size {sh:Bool} {F:Nat→Prop} {cs:List Cv} {us:Array Value} (h:tD wl sh w F cs us):us.size=cs.length:=by
 cases sh
 ·obtain ⟨_,_,_,h,_⟩:=h;exact h
 ·exact h.1
theorem tD.flat {sh:Bool} {F:Nat→Prop} {t:Ty} {x:El t} {us:Array Value} (h:tD wl sh w F (enc t x) us) {j:Nat} {v:Value} (hj:us[j]? =some v) (hl:j<(enc t x).length):cR v=true:=by
 cases sh
 ·obtain ⟨_,_,_,_,hr⟩:=h
  obtain ⟨z,hz,hc⟩:=hr j _ (List.getElem?_eq_getElem hl)
  rw [hj] at hz;cases hz
  exact hc.flat (List.getElem?_eq_getElem hl)
 ·obtain ⟨z,hz,hc⟩:=h.2 j _ (List.getElem?_eq_getElem hl)
  rw [hj] at hz;cases hz
  revert hc
  generalize lR:(enc t x)[j]=c
  intro hc
  cases c with
  | v y=>
   have hu:v=y:=hc
   subst hu;exact hZ (List.mem_of_getElem? (show (enc t x)[j]? =some (.v v) by rw [← lR];exact List.getElem?_eq_getElem hl))
  | l t' ys=>exact Kl.flat hc
theorem lz.row {bt:St} {ROa:Nat→Prop} {ms:List Am} {us:List Value} {Fs:List (Nat→Prop)} {bs:List Bk} {Hs:List (Nat→Prop)} (h:lz w g bt ms us Fs bs Hs) {ins outs:List Dt} {Bs:List (Nat→Prop)} (hA:cS wl w ROa ms ins us Fs)
 (hb:ec wl w' ms ins us outs Bs) {b:Nat} (hm : .box b∈bs):∃(C' Qa:Array Value) (YO YQ:Nat),w.heap[g.bx b]? =some (.cells C' YO (0,0))∧w'.heap[g.bx b]? =some (.cells Qa YQ (0,0))∧Qa.size=C'.size∧
      ∀(j:Nat) v,Qa[j]? =some v→cR v=true:=by
 induction h generalizing ins outs Bs with
 | nil=>simp at hm
 | cons h hs ih=>
  rename_i m ms u us F Fs bk bs H Hs
  cases hA with
  | cons uc Pu=>
  cases m with
  | «mut» =>
   obtain ⟨id,r,p,s,rfl,_⟩:=h
   cases hb with
   | skip h1 h2=>exact h1.elim
   | «mut» h1 h2=>exact ih Pu h2 (by simpa using hm)
  | bj=>
   obtain ⟨b',rfl,_,_,hu,rfl,hF⟩:=h
   cases hb with
   | skip h1 h2=>exact h1.elim
   | bj h1 ht h2=>
    rcases List.mem_append.1 hm with hm | hm
    ·simp only [List.mem_singleton,Bk.box.injEq] at hm
     subst hm
     subst hu
     obtain ⟨b0,C',YO,e0,_,hb0,xR⟩:=uc
     obtain ⟨b1,Qa,YQ,e1,_,Tz,Jb⟩:=h1
     simp only [Value.pointer.injEq,Option.some.injEq,Addr.mk.injEq,and_true] at e0 e1
     rw [← e0] at hb0
     rw [← e1] at Tz
     have U3:=xR.size
     have o8:=Jb.size
     refine ⟨C',Qa,YO,YQ,hb0,Tz,by rw [o8,U3,br,br,ht],fun j v hj=> ?_⟩
     have ct:j<Qa.size:=by
      rcases Nat.lt_or_ge j Qa.size with h' | h'
      ·exact h'
      ·simp [Array.getElem?_eq_none h'] at hj
     exact Jb.flat hj (by omega)
    ·exact ih Pu h2 hm
  | _=>
   obtain ⟨rfl,_⟩:=h
   cases hb with
   | skip h1 h2=>exact ih Pu h2 (by simpa using hm)
end Go.Gm
namespace Go.Gm
open Go
variable {R : Type} {P : Program} {E : Env} {w0 w w' : World} {Mf : Nat → Prop} {g : Gh} {st aE : St} {a : Act} {Q : Exit → Act → World → Prop}
  {o:Oper} {k:Dl→Option R} {r:R} {K:Act→World→Prop}
theorem Inv.GV (I:Inv w0 Mf g st a w) {bt:St} (I1:Inv w0 Mf g bt a w) {ms:List Am} {us:List Value} {Fs:List (Nat→Prop)} {bs:List Bk} {Hs:List (Nat→Prop)} {d:Dl} (L:zh g w st bt bs d (Any Hs))
 (hH:lz w g bt ms us Fs bs Hs) (Io:bR Hs) {ROa:Nat→Prop} {ins outs:List Dt} {Bs:List (Nat→Prop)} (hA:cS g.n.wl w ROa ms ins us Fs) (hb:ec g.n.wl w' ms ins us outs Bs) (iR:Kept w w' (Any Fs)):
    Inv w0 Mf g bt a w':=by
 obtain ⟨P9,dy,hOL⟩:=hH.sub Io
 have cK:∀n,Any Fs n→A0 w0 Mf g bt bs n∧n<w.heap.size:=fun n hn=>I.fO L (dy n hn)
 refine I1.called iR.same (fun n h1 h2=>(cK n h2).1.ro h1) (fun id n h1 h2 h3=>(cK n h3).1.r id h1 h2) (fun b x hx=> ?_) (I1.kept.step iR.os iR.tape iR.output iR.same fun n hn=>(cK n hn).1.gy)
 by_cases hX:Any Fs (g.bx b)
 ·have hm:=(cK _ hX).1.b b (by simp [bA,hx]) rfl
  obtain ⟨C',Qa,YO,YQ,h0,h1,h2,h3⟩:=hH.row hA hb hm
  obtain ⟨us2,UO,h4,h5⟩:=I1.boxes b x hx
  rw [h0] at h4
  simp only [Option.some.injEq,Obj.cells.injEq] at h4
  exact .inr ⟨(L.sX b hm).2,Qa,YQ,h1,by rw [h2,h4.1];exact h5.1,h3⟩
 ·exact .inl hX
theorem Inv.A3 (I:Inv w0 Mf g st a w) {n:Nat} (h:w.heap.size≤n) (bs:List Bk):A0 w0 Mf g st bs n:={
 r:=fun id h1 h2=>by have:=I.apart.eb id n h1 h2;omega
 ro:=fun h1=>by have:=I.apart.c7 n h1;omega
 b:=fun b h1 e=>by have:=I.Ja h1;omega
 gy:= .inl (Nat.le_trans I.kept.same.1 h) }
theorem Inv.GW (I:Inv w0 Mf g st a w) {bt:St} (I1:Inv w0 Mf g bt a w) {ms:List Am} {us:List Value} {Fs:List (Nat→Prop)} {bs:List Bk} {Hs:List (Nat→Prop)} {d:Dl} (L:zh g w st bt bs d (Any Hs))
 (hH:lz w g bt ms us Fs bs Hs) (Io:bR Hs) (sY:bs.Pairwise fun b c=>b.key≠c.key) {ROa:Nat→Prop} {ins outs:List Dt} {Bs:List (Nat→Prop)} (hA:cS g.n.wl w ROa ms ins us Fs) (hb:ec g.n.wl w' ms ins us outs Bs) (iR:Kept w w' (Any Fs))
 (U8:bR Bs) (hB:∀B∈Bs,∀k,B k→Any Fs k∨w.heap.size≤k) (Vc:∀B∈Bs,∀k,B k→k<w'.heap.size) {kk:St→Dl→Option R} {r:R} (h:Gm.fJ bt bs outs kk=some r):
    ∃g' pJ d1,kk pJ d1=some r∧Inv w0 Mf g' pJ a w'∧qj w' g bt g' pJ bs d1 (fun n=>Any Bs n∨GQ Fs Hs n):=by
 obtain ⟨P9,dy,hOL⟩:=hH.sub Io
 refine Inv.fJ (X:=Any Fs) iR.same (I.GV I1 L hH Io hA hb iR) hH hb sY U8 Io hOL (fun B hm k hk=>⟨hB B hm k hk,Vc B hm k hk⟩) (fun H hm k hk=>(I.fO L (H:=Any Hs) ⟨H,hm,hk⟩).2) (fun n hn=> ?_) h
 rcases hn with ⟨B,hm,hk⟩ | hn
 ·rcases hB B hm n hk with h1 | h1
  ·exact (I.fO L (dy n h1)).1
  ·exact I1.A3 h1 bs
 ·exact (I.fO L hn.any).1
theorem kL {α:Type} {l l':List (Nat×α)} (h:ax l=ax l') (L:List (Nat×α)):ax (cg l L)=ax (cg l' L):=by
 funext n;rw [dG,dG L l',h]
theorem ud {w':World} {g':Gh} {bt pJ:St} {bs:List Bk} {d d1:Dl} {H F:Nat→Prop} (L:zh g w st bt bs d H) (G:qj w' g bt g' pJ bs d1 F):ax pJ.roots=ax (cg st.roots (d.roots++d1.roots)):=by
 funext id
 rw [G.roots,bc,dG,dG d1.roots (cg st.roots d.roots)]
 by_cases hk:∃r p,Bk.root id r p∈bs
 ·obtain ⟨r,p,hm⟩:=hk
  obtain ⟨x,hx⟩:=Option.isSome_iff_exists.1 (G.key id r p hm)
  rw [hx];rfl
 ·rw [L.roots id fun r p hm=>hk ⟨r,p,hm⟩]
theorem uf {w':World} {g':Gh} {bt pJ:St} {bs:List Bk} {d d1:Dl} {H F:Nat→Prop} (L:zh g w st bt bs d H) (G:qj w' g bt g' pJ bs d1 F):ax pJ.boxes=ax (cg st.boxes (d.boxes++d1.boxes)):=by
 rw [G.boxes,bc]
 exact kL (funext L.boxes) _
def Ve:List Cm→Sv | [r]=> .c r | rs=> .xx rs
theorem I8.pack {bt:St} {q9:List Cm} {us:List Value} (h:I8 w g bt q9 us):dD w g bt (Ve q9) (tG us):=by
 have len:∀ {q9:List Cm} {us:List Value},I8 w g bt q9 us→us.length=q9.length:=by
  intro q9
  induction q9 with
  | nil=>intro us h;cases us with | nil=>rfl | cons _ _=>exact h.elim
  | cons c q9 ih=>intro us h;cases us with | nil=>exact h.elim | cons u us=>simp [ih h.2]
 have get:∀ {q9:List Cm} {us:List Value},I8 w g bt q9 us→∀(j:Nat) x,q9[j]? =some x→∃z,us[j]? =some z∧ix w g bt x z:=by
  intro q9
  induction q9 with
  | nil=>intro us h j x hj;simp at hj
  | cons c q9 ih=>
   intro us h j x hj
   cases us with
   | nil=>exact h.elim
   | cons u us=>
    cases j with
    | zero=>simp only [List.getElem?_cons_zero,Option.some.injEq] at hj;subst hj;exact ⟨u,rfl,h.1⟩
    | succ j=>simpa using ih h.2 j x (by simpa using hj)
 have hl:=len h
 match q9,us,h,hl with
 | [c],[u],h,_=>exact h.1
 | [],[],h,_=>exact ⟨#[],rfl,rfl,fun j x hj=>by simp at hj⟩
 | c1::c2::cs,u1::u2::us,h,hl=>exact ⟨(u1::u2::us).toArray,rfl,by simpa using hl,fun j x hj=>by simpa using get h j x hj⟩
theorem Inv.finish (hK:Then w0 Mf g st k r K) {g3:Gh} {TA:St} (I:Inv w0 Mf g3 TA a w') (hn:g3.n=g.n) (hd:∀d,o.dst=some d→d<g.n.sz) (zk:TA.aA=st.aA) {rs:List (Nat×Rt)} {bx:List (Nat×Bx)}
    (hr:ax TA.roots=ax (cg st.roots rs)) (hb:ax TA.boxes=ax (cg st.boxes bx)) {sv:Sv} {v:Value} (hs:dD w' g3 TA sv v) (h:k { slot:=o.dst.map fun q=>(q,sv),boxes:=bx,roots:=rs }=some r):K (a.put o.dst v) w':=by
 have I1:=I.CR (dst:=o.dst) (fun d h=>by rw [hn];exact hd d h) hs
 refine hK _ g3 _ _ h hn (I1.congr ?_ ?_ ?_)
 ·cases kf:o.dst with
  | none=>simp only [St.apply,Option.map_none,zk]
  | some d=>simp only [St.apply,Option.map_some,zk]
 ·simp only [St.apply,cg];exact hb
 ·simp only [St.apply,cg];exact hr
theorem pK:∀ {sh:List Nat} {args kM:List (Nat×Sv)} {us:List Value},j4 w g st args us→yM sh args=some kM→∃vs,j4 w g st kM vs∧xG sh vs=us
  | [],args,kM,us,h,he=>by cases he;exact ⟨us,h,rfl⟩
  | 0::sh,[],_,_,_,he=>by cases he
  | 0::sh,a::l,kM,us,h,he=>by
    cases us with
    | nil=>exact h.elim
    | cons u us=>
      simp only [yM] at he
      obtain ⟨r,hr,he⟩:=Option.bind_eq_some_iff.1 he
      cases he
      obtain ⟨vs,h1,h2⟩:=pK h.2 hr
      exact ⟨u::vs,⟨h.1,h1⟩,by simp only [xG,h2]⟩
  | (n+1)::sh,[],_,_,_,he=>by cases he
  | (n+1)::sh,(T,s)::l,kM,us,h,he=>by
    cases us with
    | nil=>exact h.elim
    | cons u us=>
      cases s with
      | xx _=>cases he
      | c x=>
      cases x with
      | one _=>cases he
      | agg cs=>
      simp only [yM] at he
      obtain ⟨hlen,he⟩:=a8 he
      have hlen:=gX hlen
      obtain ⟨r,hr,he⟩:=Option.bind_eq_some_iff.1 he
      cases he
      obtain ⟨vs,h1,h2⟩:=pK h.2 hr
      obtain ⟨zs,hu,fe⟩:=h.1
      have YJ:zs.toList.length=n+1:=by rw [← hlen];simpa using fe.1
      have cells:∀(cs:List Sc) (zs:List Value),lV w g st cs zs→∀ {l:List (Nat×Sv)} {us:List Value},j4 w g st l us→j4 w g st (cs.map (fun c=>(0,.c (.one c)))++l) (zs++us):=by
        intro cs
        induction cs with
        | nil=>intro zs hz l us hl;cases zs with | nil=>exact hl | cons _ _=>exact hz.elim
        | cons c cs ih=>intro zs hz l us hl;cases zs with | nil=>exact hz.elim | cons z zs=>exact ⟨hz.1,ih zs hz.2 hl⟩
      refine ⟨zs.toList++vs,cells cs zs.toList fe.l h1,?_⟩
      simp only [xG]
      rw [List.take_left' YJ,List.drop_left' YJ,h2,hu]
theorem Inv.ka (hE:E.Ok P) (hW:tH P g.n.wl) (I:Inv w0 Mf g st a w) (hd:∀d,o.dst=some d→d<g.n.sz) {fn:Nat} {args:List (Nat×Sv)} {us:List Value} (gD:j4 w g st args us) (h:ka E o fn args st k=some r) (hK:Then w0 Mf g st k r K):
    Calls P fn us.toArray w fun e w'=>∃v,e = .returned v∧K (a.put o.dst v) w':=by
 unfold Gm.ka at h
 obtain ⟨sp,IB,h⟩:=Option.bind_eq_some_iff.1 h
 obtain ⟨kM,hex,h⟩:=Option.bind_eq_some_iff.1 h
 obtain ⟨us',iV,YR⟩:=pK gD hex
 subst YR
 clear hex gD
 revert iV h
 generalize kM=TB
 intro h gD
 obtain ⟨hc,h⟩:=a8 h
 simp only [Bool.and_eq_true,Bool.or_eq_true,List.all_eq_true,List.isEmpty_iff] at hc
 obtain ⟨hlen,oX⟩:=hc
 have hlen:=gX hlen
 obtain ⟨hAR,oW,zl⟩:=j4.zip hlen gD
 obtain ⟨bt,I1,hh⟩:=I.dx hAR h
 obtain ⟨ds,bs,d,Fs,Hs,h,hA,hH,L,Io,sY⟩:=hh (Reach g bt sp.own (xQ TB)) (fun x hx _=>A2 oX (zl x hx))
 rw [oW] at hA hH
 obtain ⟨P9,dy,hOL⟩:=hH.sub Io
 refine Calls.mono ((hE.spec fn sp IB).1 ds _ r h g.n.wl w us' (Any Fs) (Reach g bt sp.own (xQ TB)) Fs hW (fun b o hb=>let ⟨h2,h3⟩:=I.base.wl b o hb;⟨.inl (I.base.ro b h2),I.kept.same.get h3 (I.base.ap b h2)⟩) hA P9 (fun F hF k hk=>⟨F,hF,hk⟩)
  (fun n hn hx=>(I.reach I1 L hn).1 (dy n hx)) (fun n hn=>(I.reach I1 L hn).2) (fun n hn=>(I.fO L (dy n hn)).2)) ?_
 rintro e w' ⟨outs,h,YS⟩
 obtain ⟨rs,Gs,Bs,he,A4,hBk,U8,YT,YU,acF,hGB,PW,Vc⟩:=YS.out
 obtain ⟨g2,pJ,d1,h,I2,G2⟩:=I.GW I1 L hH Io sY hA hBk YS.kept U8 YT Vc h
 have cK:∀G∈Gs,∀n,G n→(Any Fs n∨w.heap.size≤n)→fx w0 Mf g2 pJ n:=by
  intro G hG n hn kH
  have hf:A0 w0 Mf g bt bs n:=kH.elim (fun h=>(I.fO L (dy n h)).1) fun h=>I1.A3 h bs
  refine ⟨fun id hi nr=> ?_,by rw [G2.ro];exact hf.ro,fun b hb e=> ?_,hf.gy⟩
  ·rcases G2.own id hi with ⟨h1,h2⟩ | h1
   ·rw [h2] at nr;exact hf.r id h1 nr
   ·rcases h1 n nr with ⟨B,hB,hk⟩ | YV
    ·exact hGB G hG B hB n hn hk
    ·rcases kH with hx | hx
     ·exact hOL.rem YV hx
     ·have:=(I.fO L YV.any).2;omega
  ·rw [G2.bx] at e
   have hm:=hf.b b ((G2.box b).1 hb) e
   obtain ⟨⟨B,hB,hk⟩,_⟩:=hH.box hBk hm
   rw [e] at hk
   exact hGB G hG B hB n hn hk
 cases eG:sp.own
 ·simp only [eG,cond_false] at h A4
  obtain ⟨g3,TA,u0,h,I3,Z⟩:=Inv.freeze I2 h
  -- all that the results lead to is read alone from now on
  let RO:Nat→Prop:=fun n=>g3.ro n∨Any Gs n
  have iP:∀G∈Gs,∀n,G n→g3.ro n∨w.heap.size≤n:=by
   intro G hG n hn
   rcases acF eG G hG n hn with h1 | h1
   ·rcases h1 with h1 | ⟨_,id,h2,h3,h4⟩ | ⟨h2,_⟩
    ·exact .inl (Z.ro n (by rw [G2.ro];exact h1))
    ·obtain ⟨r',h5,h6⟩:=h3
     obtain ⟨h7,h8,_⟩:=G2.live id r' h5
     exact .inl (Z.all id h2 ⟨r',h7,h6⟩ n (by rw [h8];exact h4))
    ·rw [eG] at h2;cases h2
   ·exact .inr h1
  have hf3:∀G∈Gs,∀n,G n→w.heap.size≤n→fx w0 Mf g2 pJ n:=fun G hG n hn h1=>cK G hG n hn (.inr h1)
  have I4:Inv w0 Mf { g3 with ro:=RO } TA a w':=I3.Iv (G:=RO) (fun k=> .inl)
   (fun id n h1 h2 h3=>by
    rcases h3 with h3 | ⟨G,hG,hk⟩
    ·exact I3.apart.dZ id n h1 h2 h3
    ·rcases iP G hG n hk with h4 | h4
     ·exact I3.apart.dZ id n h1 h2 h4
     ·obtain ⟨h5,h6⟩:=Z.own id h1
      rw [h6] at h2
      exact (hf3 G hG n hk h4).r id h5 h2)
   (fun b hb h3=>by
    rcases h3 with h3 | ⟨G,hG,hk⟩
    ·exact I3.apart.fL b hb h3
    ·rcases iP G hG _ hk with h4 | h4
     ·exact I3.apart.fL b hb h4
     ·refine (hf3 G hG _ hk h4).b b ?_ (by rw [Z.bx])
      rw [Z.eq] at hb;exact hb)
   (fun n h3=>by
    rcases h3 with h3 | ⟨G,hG,hk⟩
    ·exact I3.apart.c7 n h3
    ·exact PW G hG n hk)
   (fun n h3=>by
    rcases h3 with h3 | ⟨G,hG,hk⟩
    ·exact I3.apart.bU n h3
    ·rcases iP G hG n hk with h4 | h4
     ·exact I3.apart.bU n h4
     ·exact .inr (.inl (Nat.le_trans I.kept.same.1 h4)))
  obtain ⟨q9,δ,h,e1,e2,yT⟩:=ub (w:=w') (g:={ g3 with ro:=RO }) A4 (fun G hG n hn=> .inr ⟨G,hG,hn⟩) h
  refine ⟨_,he,Inv.finish hK I4 (Z.n.trans G2.n) hd (by rw [Z.eq];simp only;rw [G2.aA,L.aA]) ?_ ?_ yT.pack h⟩
  ·rw [Z.eq,e1]
   simp only [List.append_nil,bc]
   exact kL (by rw [ud L G2,bc]) _
  ·rw [Z.eq,e2]
   simp only [List.append_nil]
   exact uf L G2
 ·simp only [eG,cond_true] at h A4
  obtain ⟨hpG,YW⟩:=YU eG
  obtain ⟨q9,g3,TA,δ,h,I3,R3,yT⟩:=Inv.rm I2 (by rw [G2.n];exact A4) hpG (fun G hG n hn=>⟨cK G hG n hn (YW G hG n hn),PW G hG n hn⟩) h
  refine ⟨_,he,Inv.finish hK I3 (R3.n.trans G2.n) hd (by rw [R3.aA,G2.aA,L.aA]) ?_ ?_ yT.pack h⟩
  ·rw [R3.roots]
   simp only [List.nil_append,bc]
   exact kL (by rw [ud L G2,bc]) _
  ·rw [R3.boxes]
   simp only [bc]
   exact kL (by rw [uf L G2,bc]) _
theorem Jc {fn:Nat} {args:Array Value} (er:(execOp a.eval o).run P w = .ok (.enter fn args) w) (h:Calls P fn args w fun e w'=>∃v,e = .returned v∧K (a.put o.dst v) w'):o.wp P a w K Q:=by
 unfold Oper.wp
 rw [er,Oper.upon_enter]
 refine Calls.mono h fun e w' ⟨v,he,hk⟩=> ?_
 subst he;exact hk
theorem zm {fn : Nat} {args : Array Value} {f : Func} (hf : P.funcs[fn]? = some f) (hb : f.body.isSome) (hn : f.name ≠ "runtime.NumGoroutine") : (callFunc fn args).run P w = .ok (.enter fn args) w := by
 have gB:f.body.isNone=false:=by cases h:f.body<;>simp_all
 have Pn : (f.name == "runtime.NumGoroutine") = false := by simpa using hn
 have q8:f.body≠none:=by intro e;simp [e] at hb
 simp [callFunc,hf,q8,hn]
theorem j4.of:∀ {xs:List Operand} {Ts:List Nat} {ss:List Sv},Ts.length=ss.length→ss.length=xs.length→(∀ (j:Nat) s,ss[j]? =some s→∃x,xs[j]? =some x∧dD w g st s (a.eval x))→j4 w g st (Ts.zip ss) (xs.map a.eval)
 | [],Ts,ss,h1,h2,_=>by
  cases ss with
  | nil=>cases Ts with | nil=>trivial | cons _ _=>simp at h1
  | cons _ _=>simp at h2
 | x::xs,Ts,ss,h1,h2,h=>by
  cases ss with
  | nil=>simp at h2
  | cons s ss=>
   cases Ts with
   | nil=>simp at h1
   | cons T Ts=>
    refine ⟨?_,j4.of (by simpa using h1) (by simpa using h2) fun j s' hj=>by simpa using h (j+1) s' (by simpa using hj)⟩
    obtain ⟨x',o6,hr⟩:=h 0 s rfl
    simp only [List.getElem?_cons_zero,Option.some.injEq] at o6
    subst o6;exact hr
theorem j4.append:∀ {l m:List (Nat×Sv)} {us vs:List Value},j4 w g st l us→j4 w g st m vs→j4 w g st (l++m) (us++vs)
 | [],m,us,vs,h,hm=>by cases us with | nil=>exact hm | cons _ _=>exact h.elim
 | x::l,m,us,vs,h,hm=>by
  cases us with
  | nil=>exact h.elim
  | cons u us=>exact ⟨h.1,j4.append h.2 hm⟩
theorem j4.boxes:∀ {bs:List Nat},(∀ b∈bs,(ax st.boxes b).isSome)→j4 w g st (bs.map fun b=>(0,.c (.one (.pt b 0)))) (bs.map fun b=>Value.pointer (some ⟨g.bx b,0,none⟩))
 | [],_=>trivial
 | b::bs,h=>⟨⟨rfl,rfl,h b (by simp)⟩,j4.boxes fun b hb=>h b (by simp [hb])⟩
theorem j4.rps:∀ {ys:List (Σ t:Ty,El t)} {ps:List Value},ps.length=ys.length→(∀ (i:Nat) (y:Σ t:Ty,El t) (q:Value),ys[i]? =some y→ps[i]? =some q→iQ w g.ro y.1 y.2 0 q)→
    j4 w g st (ys.map fun y=>(0,.c (.one (.rp y.1 y.2 0)))) ps
 | [],[],_,_=>trivial
 | [],_::_,h,_=>by simp at h
 | _::_,[],h,_=>by simp at h
 | y::ys,p::ps,h,hr=>by
  have h0:=hr 0 y p rfl rfl
  refine ⟨⟨?_,h0⟩,j4.rps (by simpa using h) fun i y' q hy hq=>hr (i+1) y' q (by simpa using hy) (by simpa using hq)⟩
  obtain ⟨b,o,cs,el,fz,e,_⟩:=h0
  subst e;rfl
theorem A5 (hE:E.Ok P) (hW:tH P g.n.wl) (I:Inv w0 Mf g st a w) (hd:∀d,o.dst=some d→d<g.n.sz) (hK:Then w0 Mf g st k r K) {c:Call} {f:Operand} (cc:o.op = .call c) (IL:c.callee = .value f)
 (h:eE E o st k=some r):o.wp P a w K Q:=by
 simp only [eE,cc,IL] at h
 replace h:=I.fr h;obtain ⟨cf,h,hcf⟩:=h
 have go:∀(fn:Nat) (nA:List Value) (extra:List (Nat×Sv)),a.eval f = .func (.func fn) #[] nA.toArray→j4 w g st extra nA→
   (lT st c.args.toList fun ss=>cond (Nat.beq c.argTypes.toList.length ss.length) (Gm.ka E o fn (c.argTypes.toList.zip ss++extra) st k) none)=some r→o.wp P a w K Q:=by
  intro fn nA extra hf hx h
  obtain ⟨ss,h,hl,hs⟩:=I.lT h
  obtain ⟨hlen,h⟩:=a8 h
  have Vf:=(j4.of (a:=a) (gX hlen) hl hs).append hx
  have YX:=I.ka hE hW hd Vf h hK
  have YY:∃sp,E.spec fn=some sp:=by
   unfold Gm.ka at h
   obtain ⟨sp,IB,_⟩:=Option.bind_eq_some_iff.1 h
   exact ⟨sp,IB⟩
  obtain ⟨sp,IB⟩:=YY
  obtain ⟨_,fd,h1,h2,h3⟩:=hE.spec fn sp IB
  refine Jc (fn:=fn) (args:=(c.args.toList.map a.eval++nA).toArray) ?_ YX
  have:=zm (P:=P) (w:=w) (args:=(c.args.toList.map a.eval++nA).toArray) h1 h2 h3
  have e:c.args.map a.eval++nA.toArray=(c.args.toList.map a.eval++nA).toArray:=by apply Array.ext';simp
  simp only [execOp,cc,resolve,IL,hf,Deferred.ofValue,Sem.run_bind,Sem.run_pure,Result.andThen_ok,invoke,Array.empty_append,e,this]
 split at h
 ·rename_i fn bs
  obtain ⟨hu,Tg⟩:=hcf.2
  refine go fn (bs.map fun b=> .pointer (some ⟨g.bx b,0,none⟩)) _ hu ?_ h
  exact j4.boxes Tg
 ·rename_i fn ys
  obtain ⟨ps,hu,hl,hp⟩:=hcf.2
  exact go fn ps _ hu (j4.rps hl hp) h
 ·cases h
end Go.Gm
namespace Go.Gm
open Go
variable {R : Type} {P : Program} {E : Env} {w0 w : World} {Mf : Nat → Prop} {g : Gh} {st : St} {a : Act} {Q : Exit → Act → World → Prop}
  {o:Oper} {k:Dl→Option R} {r:R} {K:Act→World→Prop}
theorem lZ (hE:E.Ok P) (hW:tH P g.n.wl) (I:Inv w0 Mf g st a w) (hd:∀d,o.dst=some d→d<g.n.sz) (hK:Then w0 Mf g st k r K)
 (h:eE E o st k=some r):o.wp P a w K Q:=by
 cases cc:o.op with
 | move x=>exact Ix I hd hK (.inl cc) (by simpa only [eE,cc] using h)
 | assign x=>exact Ix I hd hK (.inr cc) (by simpa only [eE,cc] using h)
 | pick c x y=>exact UI I hd hK cc h
 | alloc T=>exact PK hE I hd hK cc h
 | box T x=>exact Yn hE I hd hK cc h
 | build T ps=>exact PU hE I hd hK cc h
 | buildSlice T n ps=>exact zd hE I hd hK cc h
 | load T x=>exact UM hE I hd hK cc h
 | store T x y=>exact PY hE I hK cc h
 | nilCheck x=>exact CS I hd hK cc h
 | binOp op T x y T'=>exact PF hE I hd hK cc h
 | unOp op T x=>exact UJ I hd hK cc h
 | convert S T x=>exact GD hE I hd hK cc h
 | makeFunc fn first nA=>exact CT I hd hK cc h
 | makeSlice T n m=>exact AV hE I hd hK cc h
 | slice T x lo hi mx=>
  cases mx with
  | none=>exact PH hE I hd hK cc h
  | some _=>simp only [eE,cc] at h;cases h
 | fieldAddr T x f=>exact AL hE I hd hK cc h
 | field T x f=>exact PI hE I hd hK cc h
 | indexAddr T x i=>exact AN hE I hd hK cc h
 | index T x i=>exact PG hE I hd hK cc h
 | extract x i=>exact GC I hd hK cc h
 | call c=>
  cases hc:c.callee with
  | value f=>exact A5 hE hW I hd hK cc hc h
  | invoke _ _=>simp only [eE,cc,hc] at h;cases h
  | builtin b=>
   cases b with
   | len=>exact Yk hE I hd hK cc hc h
   | append=>exact IK hE I hd hK cc hc h
   | min=>exact Yl I hd hK cc hc h
   | max=>exact Ym I hd hK cc hc h
   | clear=>exact P1 hE I hK cc hc h
   | _=>simp only [eE,cc,hc,eD] at h;cases h
 | _=>simp only [eE,cc] at h;cases h
end Go.Gm
namespace Go.Gm
open Go
inductive Ex where
 | normal | exit (id:Nat) | ret
abbrev Kx (R:Type):=Ex→St→Option R
def Sc.fix (st:St):Sc→Sc
 | .h id ver iv p=>match ax st.roots id with | some (.live r)=>cond (Nat.beq r.ver ver&&iu r iv p) (.h id 0 0 p) .dead | _=> .dead
 | .vw id ver lo hi=>match ax st.roots id with | some (.live r)=>cond (Nat.beq r.ver ver) (.vw id 0 lo hi) .dead | _=> .dead
 | .pe id ver iv p i off=>match ax st.roots id with | some (.live r)=>cond (Nat.beq r.ver ver&&iu r iv p) (.pe id 0 0 p i off) .dead | _=> .dead
 | c=>c
def Cm.map (f:Sc→Sc):Cm→Cm | .one c=> .one (f c) | .agg cs=> .agg (cs.map f)
def Sv.map (f:Sc→Sc):Sv→Sv | .c x=> .c (x.map f) | .xx vs=> .xx (vs.map (Cm.map f))
def cE (n:Nat):List Nat→Bool | []=>false | m::r=>cond (Nat.beq n m) true (cE n r)
def Sc.boxed (bs:List Nat):Sc→Sc
 | .pt b off=>cond (cE b bs) (.pt b off) .dead
 | .fH f cs=>cond (cs.all fun b=>cE b bs) (.fH f cs) .dead
 | c=>c
def St.named (aA:List (Nat×Sv)):List Nat×List Nat:=
  let ns:=(aA.map fun s=>(s.2.cells.map Sc.names)).flatten
 ((ns.map (·.1)).flatten,(ns.map (·.2)).flatten)
def l9 (boxes:List (Nat×Bx)):List Nat×List Nat:=
  let ns:=(boxes.map fun s=>(s.2.cs.map Sc.names)).flatten
 ((ns.map (·.1)).flatten,(ns.map (·.2)).flatten)
def Rt.Da:Rt→Rt | .live x=> .live ⟨x.t,x.md.norm,0,[],x.xs⟩ | _=> .gone 0
def St.clean (aJ:List Nat) (st:St):St:=
  let aA:=(st.aA.filter fun s=>cE s.1 aJ).map fun s=>(s.1,s.2.map (Sc.fix st))
  let b0:=(St.named aA).1
  let b1:=(l9 (st.boxes.filter fun b=>cE b.1 b0)).1
  let boxes:=(st.boxes.filter fun b=>cE b.1 b0||cE b.1 b1)
  let bs:=boxes.map (·.1)
  let aA:=aA.map fun s=>(s.1,s.2.map (Sc.boxed bs))
  let boxes:=boxes.map fun b=>(b.1,(⟨b.2.t,b.2.cs.map fun c=>(c.fix st).boxed bs⟩:Bx))
  let rs:=(St.named aA).2++(l9 boxes).2
  { aA,boxes
    roots:=(st.roots.filter fun r=>cE r.1 rs).map fun r=>(r.1,r.2.Da) }
structure Mk where
 box:Bool
 ro:Bool
 s:Nat
 j:Nat
 t:Ty
structure Kp where
 aA:List Nat
 lists:List Mk
 YZ:List Nat
 Y0:List (Nat×Nat)
def Mk.id (m:Mk):Nat:=64*m.s+m.j
def Mk.cell (m:Mk):Sc:=cond m.ro (.ro m.t []) (.h m.id 0 0 [])
def Mk.roots (m:Mk) (roots:List (Nat×Rt)):List (Nat×Rt):=cond m.ro roots (aX roots m.id (.live ⟨m.t,.deep,0,[],[]⟩))
def Mk.free (m:Mk) (st:St):Bool:=m.ro||(match ax st.roots m.id with | none=>true | some _=>false)
def GX:Option Sc→Bool | some .nl=>true | _=>false
def St.A6 (st:St) (m:Mk):St:=
  cond (m.free st)
 (cond m.box
 (match ax st.boxes m.s with
       | some x=>cond (GX x.cs[m.j]?) { st with boxes:=aX st.boxes m.s ⟨x.t,x.cs.set m.j m.cell⟩,roots:=m.roots st.roots } st
       | none=>st)
      (match ax st.aA m.s with
       | some (.c (.one .nl))=>{ st with aA:=aX st.aA m.s (.c (.one m.cell)),roots:=m.roots st.roots }
       | some (.c (.agg cs))=>cond (GX cs[m.j]?) { st with aA:=aX st.aA m.s (.c (.agg (cs.set m.j m.cell))),roots:=m.roots st.roots } st
       | _=>st)) st
def St.rq (st:St):List Mk→St
 | []=>st
 | m::ms=>(st.A6 m).rq ms
def St.Jd (st:St) (id:Nat):St:=match ax st.roots id with
 | some (.live r)=>cond r.md.cW st { st with roots:=aX st.roots id (.live ⟨r.t,.Er,r.ver,r.log,r.xs⟩) }
 | _=>st
def St.Y1 (st:St) (id:Nat):St:=match ax st.roots id with
 | some (.live ⟨t,.deep,ver,log,[]⟩)=>{ st with roots:=aX st.roots id (.live ⟨t,.nq,ver,log,[]⟩) }
 | _=>st
def St.Y2 (st:St) (id:Nat):St:=match ax st.roots id with
 | some (.live ⟨t,.deep,ver,log,xs⟩)=>{ st with roots:=aX st.roots id (.live ⟨t,.part (.cur 0 0),ver,log,xs⟩) }
 | _=>st
def St.Je (st:St) (id:Nat):St:=cond (Nat.ble 1000000000 id) (cond (Nat.ble 2000000000 id) (st.Y2 (id-2000000000)) (st.Y1 (id-1000000000))) (st.Jd id)
def St.frozen (st:St):List Nat→St
 | []=>st
 | i::is=>(st.Je i).frozen is
def rn (a b n:Nat):Nat:=cond (Nat.beq n a) b n
def Sc.zn (a b:Nat):Sc→Sc
 | .h id ver iv p=> .h (rn a b id) ver iv p
 | .vw id ver lo hi=> .vw (rn a b id) ver lo hi
 | .pe id ver iv p i off=> .pe (rn a b id) ver iv p i off
 | c=>c
def Bx.map (f:Sc→Sc) (x:Bx):Bx:=⟨x.t,x.cs.map f⟩
def St.Jf (st:St) (a b:Nat):St:=match ax st.roots a with
  | some (.live r)=>match ax st.roots b with
    | none=>{ aA:=st.aA.map fun s=>(s.1,s.2.map (Sc.zn a b)),boxes:=st.boxes.map fun x=>(x.1,x.2.map (Sc.zn a b)),roots:=aX (st.roots.filter fun x=> !(Nat.beq x.1 a)) b (.live r) }
    | some _=>st
  | _=>st
def St.renamed (st:St):List (Nat×Nat)→St
 | []=>st
 | x::xs=>(st.Jf x.1 x.2).renamed xs
def Kp.tidy (k:Kp) (st:St):St:=(((st.clean k.aA).rq k.lists).frozen k.YZ).renamed k.Y0
structure mw where
 s:List Nat
 b:List Nat
 r:List Nat
 d:Option Nat
 m:List Nat:=[]
def tg (d:Option Nat) (n:Nat):Bool:=match d with | some m=>Nat.beq n m | none=>false
def mw.zo (u:mw) (n:Nat):Bool:=cE n u.s
def mw.hasB (u:mw) (n:Nat):Bool:=cE n u.b||tg u.d n
def mw.nu (u:mw) (n:Nat):Bool:=cE n u.r||(cE (n/64) u.b||tg u.d (n/64))
def mw.Qb (u:mw) (n:Nat):Bool:=cE n u.m
def tmpsOf (xs:List Operand):List Nat:=xs.filterMap fun | .tmp t=>some t | _=>none
def fk (ops:Array Oper) (o:Oper):Option Nat:=match o.guard with | none=>none | some (j,_)=>(ops[j]?).bind (·.dst)
def Jg (o:Oper):Bool:=match o.op with | .move _ | .assign _=>true | _=>false
def bF (ops:Array Oper) (st:St) (o:Oper):mw:=
  let s:=tmpsOf o.op.operands.toList++(fk ops o).toList
  let ns:=(s.map fun t=>match ax st.aA t with | some v=>v.cells.map Sc.names | none=>[]).flatten
  let b0:=(ns.map (·.1)).flatten
  let r0:=(ns.map (·.2)).flatten
  { s,b:=b0,r:=r0++(b0.map (p9 st)).flatten,d:=some (o.dst.getD 0) }
def kN (st:St):Operand→Option Sc
 | .tmp t=>match ax st.aA t with | some (.c (.one c))=>some c | _=>none
 | _=>none
def ug (st:St) (o:Oper):Option (List Nat):=match o.op with
 | .fieldAddr _ x _=>match kN st x with | some (.pt _ _)=>some [] | _=>none
 | .load _ x=>match kN st x with | some (.pt _ _)=>some [] | _=>none
 | .slice _ x _ _ none=>match kN st x with | some (.h id _ _ [])=>some [id] | _=>none
 | .nilCheck x=>match kN st x with | some (.pt _ _)=>some [] | _=>none
 | .store _ x _=>match kN st x with | some (.pt _ _)=>some [] | _=>none
 | _=>none
def eu (ops:Array Oper) (st:St) (o:Oper):mw:=
  cond (Jg o) { s:=tmpsOf o.op.operands.toList++(fk ops o).toList,b:=[],r:=[],d:=some (o.dst.getD 0) }
    (match ug st o with | some m=>{ s:=(bF ops st o).s,b:=(bF ops st o).b,r:=[],d:=some (o.dst.getD 0),m } | none=>bF ops st o)
def Jh:Sc→Bool | .nl=>true | .h _ _ _ []=>true | _=>false
def zp (st:St) (o:Oper) (d:Dl):List Nat:=match o.op with
 | .call c=>match c.callee,c.args.toList with
  | .builtin .append,[s,x]=>match kN st s,kN st x,d.roots with
   | some s,some (.vw id _ _ _),(n,.live _)::rest=>cond (Jh s&&(Nat.beq n id&&(!rest.isEmpty&& !cE id (rest.map (·.1))))) [id] []
   | _,_,_=>[]
  | _,_=>[]
 | _=>[]
def EN:Md→List (Nat×Nat)→Bool | .deep,_=>true | .part (.hole p0),p=>Nat.blt p.length p0.length | _,_=>false
def fA (E:Env) (st:St) (o:Oper):Option (Bool×Nat):=cond o.guard.isNone (match o.op with
 | .indexAddr _ x _=>match kN st x with | some (.h _ _ _ _)=>some (false,0) | _=>none
 | .store T x y=>cond o.dst.isNone ((E.code T).bind fun t=>match kN st x with
  | some (.pe id ver iv p _ off)=>j9 st id ver iv p fun r=>cond (EN r.md p) ((sub r.t r.xs p).bind fun s=>cond (Nat.ble (off+aD t) (aD s.t))
    (dk st y fun sv=>(eV t sv).bind fun cs=>cond (Nat.beq cs.length (aD t)) (some (true,id)) none) none) none
  | _=>none) none
 | _=>none) none
structure Rec where
 i:Nat
 u:mw
 d:Dl
 ms:List Nat
 lt:Option (Bool×Nat)
def Dl.nH (d:Dl):List Nat:=match d.slot with | some (s,_)=>[s] | none=>[]
def Dl.uh (d:Dl):List Nat:=d.boxes.map (·.1)
def Dl.lA (d:Dl):List Nat:=d.roots.map (·.1)
def Rec.clear (x y:Rec):Bool:=
 (x.d.nH.all fun n=> !(cE n y.d.nH||y.u.zo n))&&
 ((x.d.uh.all fun n=> !(cE n y.d.uh||y.u.hasB n))&&
 (x.d.lA.all fun n=> !(cE n y.d.lA||(y.u.nu n||cond (y.u.Qb n) (!cE n x.ms) false))))
def kl:List Oper→List Nat→List Nat
 | [],acc=>acc
 | o::r,acc=>kl r (acc++[o.after.toList.foldl (fun s e=>cond (Region.binds .any e) (s ||| (2^e.on ||| acc.getD e.on 0)) s) 0])
def eh (ops:Array Oper):List Nat:=kl ops.toList []
def Db (ah:List Nat) (x y:Rec):Bool:=
  cond (Nat.blt x.i y.i) (Nat.testBit (ah.getD y.i 0) x.i||(x.clear y&&y.clear x)) true
def nI (ops:Array Oper) (rs:List Rec):Bool:=rs.all fun x=>rs.all fun y=>Db (eh ops) x y
def qk:Nat→List Oper→Bool
 | _,[]=>true
 | i,o::r=>(o.after.toList.all fun e=> !Region.binds .any e||Nat.blt e.on i)&&qk (i+1) r
section ev
variable {R : Type}
def St.dB (st:St) (g:Nat) (b:Bool):St:={ st with aA:=aX st.aA g (.c (.one (.v (.bool b)))) }
def lB (o:Oper):Dl:={ slot:=o.dst.map fun d=>(d,.xx []) }
def evO (E:Env) (ops:Array Oper) (o:Oper) (st:St) (k:St→Dl→Option R):Option R:=
  match o.guard with
  | none=>eE E o st (k st)
  | some (_,want)=>(fk ops o).bind fun g=>
      match ax st.aA g with
      | some (.c (.one (.v (.bool b))))=>
        cond b (let st:=st.dB g true;cond want (eE E o st (k st)) (k st (lB o)))
               (let st:=st.dB g false;cond want (k st (lB o)) (eE E o st (k st)))
      | some (.xx [])=>k st (lB o)
      | _=>none
def EO (E:Env) (ops:Array Oper):List Oper→St→(St→Option R)→Option R
 | [],st,k=>k st
 | o::r,st,k=>evO E ops o st fun st d=>EO E ops r (st.apply d) k
def zq (E:Env) (ops:Array Oper):Nat→List Oper→List Rec→St→(List Rec→St→Option R)→Option R
 | _,[],rs,st,k=>k rs st
 | i,o::r,rs,st,k=>evO E ops o st fun st d=>zq E ops (i+1) r (⟨i,eu ops st o,d,zp st o d,fA E st o⟩::rs) (st.apply d) k
def iY (W:List Nat) (o:Oper):Oper:={ o with after:=o.after++(W.map fun i=>({ on:=i,ground:= .data }:Edge)).toArray }
def cV (ops:Array Oper) (j:Nat) (W:List Nat):Array Oper:=ops.modify j (iY W)
def TC (ah:List Nat) (rs:List Rec):Option Nat:=(rs.reverse.find? fun y=>rs.any fun x=> !(Db ah x y)).map (·.i)
def EP (ah:List Nat) (j:Nat):List Nat:=(List.range j).filter fun i=> !(Nat.testBit (ah.getD j 0) i)
def A7 (xs:List Nat) (id:Nat) (x:Rec):Bool:=
 (match x.lt with | some (false,_)=>true | some (true,aH)=> !(Nat.beq aH id) | none=>false)&&
 ((x.d.nH.all fun n=> !(cE n xs))&&(x.d.lA.all fun n=> !(Nat.beq n id)))
def Dc (ops:Array Oper) (rs:List Rec) (j:Nat) (W:List Nat):Bool:=
  match ops[j]? with
 | none=>false
 | some oj=>(rs.all fun y=> !(Nat.beq y.i j)||(match y.lt with
   | some (true,id)=>rs.all fun x=> !(cE x.i W)||A7 (tmpsOf oj.op.operands.toList) id x
   | _=>false))&&
  (W.all fun i=>match ops[i]? with | some o=>(match o.dst with | some d=> !(cE d (tmpsOf oj.op.operands.toList)) | none=>true) | none=>false)&&
  ((List.range ops.size).all fun i=>cE i W||(Nat.beq i j||(Nat.testBit ((eh ops).getD j 0) i||W.all fun v=>Nat.testBit ((eh ops).getD i 0) v)))
def zr (ops:Array Oper) (rs:List Rec):Bool:=match TC (eh ops) rs with
 | some j=>nI (cV ops j (EP (eh ops) j)) rs&&Dc ops rs j (EP (eh ops) j)
 | none=>false
def ui (E:Env) (ops:Array Oper) (draw:Bool) (st:St) (k:St→Option R):Option R:=
  cond draw (zq E ops 0 ops.toList [] st fun rs st=>cond (qk 0 ops.toList&&(nI ops rs||zr ops rs)) (k st) none) (EO E ops ops.toList st k)
def iter (body:St→(Kx R)→Option R):Nat→St→(Kx R)→Option R
 | 0,_,_=>none
 | n+1,st,k=>body st fun e st=>match e with
   | .normal=>iter body n st k
   | e=>k e st
def ev (E:Env) (aJ:Nat→Kp) (n:Nat):Code→St→(Kx R)→Option R
 | .skip,st,k=>k .normal st
 | .region id ops draw,st,k=>ui E ops draw st fun st=>k .normal ((aJ id).tidy st)
 | .seq a b,st,k=>ev E aJ n a st fun e st=>match e with
   | .normal=>ev E aJ n b st k
   | e=>k e st
 | .cond c x y,st,k=>getBool st c fun b=>cond b (ev E aJ n x st k) (ev E aJ n y st k)
 | .block id c,st,k=>ev E aJ n c st fun e st=>match e with
   | .exit aH=>cond (Nat.beq aH id) (k .normal st) (k (.exit aH) st)
   | e=>k e st
 | .loop c,st,k=>iter (fun st k=>ev E aJ n c st k) n st k
 | .exit id,st,k=>k (.exit id) st
 | .ret,st,k=>k .ret st
 | _,_,_=>none
end ev
end Go.Gm
namespace Go.Gm
open Go
def Spec.lC (s:Spec):Prop:=∀ds,∃q:Option (List Dt),∀(R:Type) (k:Kt R),s.fn ds k=q.bind k
def Env.lC (E:Env):Prop:=∀f s,E.spec f=some s→s.lC
def sf (u:mw) (c:Sc):Prop:=∀id∈c.names.2,u.nu id=true
def XT (u:mw) (c:Sc):Prop:=(∀ b∈c.names.1,cE b u.b=true)∧sf u c
def Dd (u:mw) (s:Sv):Prop:=∀c∈s.cells,XT u c
structure Ag (u:mw) (st aE:St):Prop where
 s:∀n,u.zo n=true→ax aE.aA n=ax st.aA n
 b:∀n,u.hasB n=true→ax aE.boxes n=ax st.boxes n
 r:∀n,u.nu n=true→ax aE.roots n=ax st.roots n
 cs:∀n,u.zo n=true→∀v,ax st.aA n=some v→Dd u v
 cb:∀n,cE n u.b=true→∀x,ax st.boxes n=some x→∀c∈x.cs,sf u c
variable {R R' : Type} {ρ : Option R → Option R' → Prop} {u : mw} {st aE : St} {E : Env} {o : Oper}
theorem du.{v} {α:Type v} (h0:ρ none none) {q:Option α} {f:α→Option R} {f':α→Option R'} (h:∀x,q=some x→ρ (f x) (f' x)):ρ (q.bind f) (q.bind f'):=by
 cases q with
 | none=>exact h0
 | some x=>exact h x rfl
theorem bW.{v} {α:Type v} (h0:ρ none none) {q:Option α} {f:α→Option R} {f':α→Option R'} (h:∀x,q=some x→ρ (f x) (f' x)):ρ (q.bind f) (q.bind f'):=by
 cases q with
 | none=>exact h0
 | some x=>exact h x rfl
theorem kO {b:Bool} {x y:Option R} {x' y':Option R'} (h:b=true→ρ x x') (h':b=false→ρ y y'):ρ (cond b x y) (cond b x' y'):=by
 cases b with
 | true=>exact h rfl
 | false=>exact h' rfl
theorem bC (h0:ρ none none) {b:Bool} {x:Option R} {x':Option R'} (h:b=true→ρ x x'):ρ (cond b x none) (cond b x' none):=kO h fun _=>h0
theorem mw.ql {n:Nat} (h:cE n u.b=true):u.hasB n=true:=by simp [mw.hasB,h]
theorem uj {α:Type} {l l':List (Nat×α)} {n:Nat} (h:ax l' n=ax l n) (m:Nat) (v:α):ax (aX l' m v) n=ax (aX l m v) n:=by
 rw [aF,aF,h]
theorem Ag.b8 (A:Ag u st aE) (id:Nat) (x:Rt):Ag u { st with roots:=aX st.roots id x } { aE with roots:=aX aE.roots id x }:=
 ⟨A.s,A.b,fun n hn=>uj (A.r n hn) id x,A.cs,A.cb⟩
theorem Ag.dB (A:Ag u st aE) (b:Nat) (x:Bx) (hx:∀c∈x.cs,sf u c):Ag u { st with boxes:=aX st.boxes b x } { aE with boxes:=aX aE.boxes b x }:=
 ⟨A.s,fun n hn=>uj (A.b n hn) b x,A.r,A.cs,fun n hn y hy=>by
    simp only [aF] at hy
    split at hy
    · cases hy;exact hx
    · exact A.cb n hn y hy⟩
theorem qm {v:Value} {c:Sc} (h:j3 v=some c):XT u c:=by
 unfold j3 at h
 split at h<;>first | (cases h;exact ⟨by simp [Sc.names],by simp [sf,Sc.names]⟩) | cases h
theorem o9:∀ {vs:List Value} {cs:List Sc},gW vs=some cs→∀c∈cs,XT u c
 | [],cs,h=>by cases h;simp
 | v::vs,cs,h=>by
  simp only [gW] at h
  obtain ⟨c,hc,h⟩:=Option.bind_eq_some_iff.1 h
  obtain ⟨ds,hd,h⟩:=Option.bind_eq_some_iff.1 h
  cases h
  intro x hx
  rcases List.mem_cons.1 hx with rfl | hx
  ·exact qm hc
  ·exact o9 hd x hx
theorem De {v:Value} {s:Sv} (h:oz v=some s):Dd u s:=by
 unfold oz at h
 split at h
 ·obtain ⟨cs,hc,h⟩:=Option.bind_eq_some_iff.1 h
  cases h
  exact o9 hc
 ·obtain ⟨c,hc,h⟩:=Option.bind_eq_some_iff.1 h
  cases h
  intro x hx
  simp [Sv.cells,Cm.cells] at hx
  subst hx
  exact qm hc
def CF (u:mw) (x:Operand):Prop:=∀t,x = .tmp t→u.zo t=true
theorem iC (h0:ρ none none) (A:Ag u st aE) {x:Operand} (hx:CF u x) {k:Sv→Option R} {k':Sv→Option R'} (hk:∀s,Dd u s→ρ (k s) (k' s)):ρ (dk st x k) (dk aE x k'):=by
 cases x with
 | tmp t=>simp only [dk];rw [A.s t (hx t rfl)];exact du h0 fun v hv=>hk v (A.cs t (hx t rfl) v hv)
 | const v=>simp only [dk];exact du h0 fun s hs=>hk s (De hs)
 | func f=>simp only [dk];exact hk _ (by intro c hc;simp [Sv.cells,Cm.cells] at hc;subst hc;exact ⟨by simp [Sc.names],by simp [sf,Sc.names]⟩)
 | global _=>exact h0
theorem iZ (h0:ρ none none) (A:Ag u st aE) {x:Operand} (hx:CF u x) {k:Sc→Option R} {k':Sc→Option R'} (hk:∀c,XT u c→ρ (k c) (k' c)):ρ (fr st x k) (fr aE x k'):=
  iC h0 A hx fun s hs=>by
    split
    · rename_i c
      have hc:=hs c (by simp [Sv.cells,Cm.cells])
      refine hk c.soft ?_
      cases c<;>exact hc
    · exact h0
theorem km (h0:ρ none none) (A:Ag u st aE) {x:Operand} (hx:CF u x) {k:Value→Option R} {k':Value→Option R'} (hk:∀c,ρ (k c) (k' c)):ρ (jn st x k) (jn aE x k'):=
  iZ h0 A hx fun c _=>by split<;>first | exact h0 | exact hk _
theorem GY (h0:ρ none none) (A:Ag u st aE) {x:Operand} (hx:CF u x) {k:Bool→Option R} {k':Bool→Option R'} (hk:∀c,ρ (k c) (k' c)):ρ (getBool st x k) (getBool aE x k'):=
  km h0 A hx fun c=>by split<;>first | exact h0 | exact hk _
theorem nJ (h0:ρ none none) (A:Ag u st aE) {x:Operand} (hx:CF u x) {k:Int→Option R} {k':Int→Option R'} (hk:∀c,ρ (k c) (k' c)):ρ (getInt st x k) (getInt aE x k'):=
  km h0 A hx fun c=>by split<;>first | exact h0 | exact hk _
theorem kn (h0:ρ none none) (A:Ag u st aE) {id ver:Nat} (hi:u.nu id=true) {k:cB→Option R} {k':cB→Option R'} (hk:∀c,ρ (k c) (k' c)):ρ (jH st id ver k) (jH aE id ver k'):=by
 unfold jH
 rw [A.r id hi]
 split
 ·exact bC h0 fun _=>hk _
 ·exact h0
theorem jl (h0:ρ none none) (A:Ag u st aE) {id ver iv:Nat} {p:Path} (hi:u.nu id=true) {k:cB→Option R} {k':cB→Option R'} (hk:∀c,ρ (k c) (k' c)):ρ (j9 st id ver iv p k) (j9 aE id ver iv p k'):=
  kn h0 A hi fun c=>bC h0 fun _=>hk _
theorem Df (h0:ρ none none) (A:Ag u st aE) {c:Sc} (hc:sf u c) {q:Option Ty} {k:Cv→Option R} {k':Cv→Option R'} (hk:∀c,ρ (k c) (k' c)):ρ (oU st c q k) (oU aE c q k'):=by
 unfold oU
 split<;>first
  | exact h0
  | exact hk _
  | exact jl h0 A (hc _ (by simp [Sc.names])) fun c=>bC h0 fun _=>bW h0 fun _ _=>hk _
  | exact kn h0 A (hc _ (by simp [Sc.names])) fun c=>bC h0 fun _=>hk _
theorem ER (h0:ρ none none) (A:Ag u st aE):∀ {cs:List Sc} {qs:List (Option Ty)} (_:∀c∈cs,sf u c) {k:List Cv→Option R} {k':List Cv→Option R'} (_:∀c,ρ (k c) (k' c)),ρ (CP st cs qs k) (CP aE cs qs k')
 | [],[],_,_,_,hk=>hk _
 | [],_::_,_,_,_,_=>h0
 | _::_,[],_,_,_,_=>h0
 | c::cs,q::qs,hc,k,k',hk=>Df h0 A (hc c (by simp)) fun x=>ER h0 A (fun c h=>hc c (by simp [h])) fun xs=>hk _
theorem jr {t:Ty} {s:Sv} {cs:List Sc} (h:eV t s=some cs):∀c∈cs,c∈s.cells:=by
 unfold eV at h
 split at h<;>cases h<;>simp [Sv.cells,Cm.cells]
theorem Ji (h0:ρ none none) (A:Ag u st aE) {t:Ty} {s:Sv} (hs:Dd u s) {k:El t→Option R} {k':El t→Option R'} (hk:∀c,ρ (k c) (k' c)):ρ (ra st t s k) (ra aE t s k'):=
  bW h0 fun cs fe=>ER h0 A (fun c h=>(hs c (jr fe c h)).2) fun xs=>du h0 fun y _=>hk y
theorem th (h0:ρ none none) (A:Ag u st aE) {c:Sc} (hc:sf u c) {q:Option Ty} {k:Cv→Bool→St→List (Nat×Rt)→Option R} {k':Cv→Bool→St→List (Nat×Rt)→Option R'}
 (hk:∀x d s s' v,Ag u s s'→ρ (k x d s v) (k' x d s' v)):ρ (jO st c q k) (jO aE c q k'):=by
 unfold jO
 split<;>first
  | exact h0
  | exact hk _ _ _ _ _ A
  | exact kn h0 A (hc _ (by simp [Sc.names])) fun c=>bC h0 fun _=>kO (fun _=>hk _ _ _ _ _ A) fun _=>hk _ _ _ _ _ (A.b8 _ _)
theorem A8 (h0:ρ none none) (A:Ag u st aE) {c:Sc} (hc:sf u c) {q:Option Ty} {k:Cv→Bool→St→List (Nat×Rt)→Option R} {k':Cv→Bool→St→List (Nat×Rt)→Option R'}
 (hk:∀x d s s' v,Ag u s s'→ρ (k x d s v) (k' x d s' v)):ρ (ll st c q k) (ll aE c q k'):=by
 unfold ll
 split
 ·exact jl h0 A (hc _ (by simp [Sc.names])) fun r=>bC h0 fun _=>bW h0 fun s _=>hk _ _ _ _ _ (A.b8 _ _)
 ·exact th h0 A hc hk
theorem Qc (h0:ρ none none) (A:Ag u st aE) {c:Sc} (hc:sf u c) {q:Option Ty} {k:Cv→Bool→St→List (Nat×Rt)→Option R} {k':Cv→Bool→St→List (Nat×Rt)→Option R'}
 (hk:∀x d s s' v,Ag u s s'→ρ (k x d s v) (k' x d s' v)):ρ (xD st c q k) (xD aE c q k'):=by
 unfold xD
 split
 ·exact kn h0 A (hc _ (by simp [Sc.names])) fun r=>kO (fun _=>hk _ _ _ _ _ (A.b8 _ _)) fun _=>th h0 A hc hk
 ·exact A8 h0 A hc hk
theorem ES (h0:ρ none none):∀ {st aE:St} (_:Ag u st aE) {cs:List Sc} {qs:List (Option Ty)} (_:∀c∈cs,sf u c) {k:List Cv→Bool→St→List (Nat×Rt)→Option R} {k':List Cv→Bool→St→List (Nat×Rt)→Option R'}
 (_:∀x d s s' v,Ag u s s'→ρ (k x d s v) (k' x d s' v)),ρ (r3 st cs qs k) (r3 aE cs qs k')
 | _,_,A,[],[],_,_,_,hk=>hk _ _ _ _ _ A
 | _,_,_,[],_::_,_,_,_,_=>h0
 | _,_,_,_::_,[],_,_,_,_=>h0
 | _,_,A,c::cs,q::qs,hc,k,k',hk=>A8 h0 A (hc c (by simp)) fun x d s s' v A=>ES h0 A (fun c h=>hc c (by simp [h])) fun _ _ _ _ _ A=>hk _ _ _ _ _ A
theorem zt (h0:ρ none none):∀ {st aE:St} (_:Ag u st aE) {cs:List Sc} {qs:List (Option Ty)} (_:∀c∈cs,sf u c) {k:List Cv→Bool→St→List (Nat×Rt)→Option R} {k':List Cv→Bool→St→List (Nat×Rt)→Option R'}
 (_:∀x d s s' v,Ag u s s'→ρ (k x d s v) (k' x d s' v)),ρ (pE st cs qs k) (pE aE cs qs k')
 | _,_,A,[],[],_,_,_,hk=>hk _ _ _ _ _ A
 | _,_,_,[],_::_,_,_,_,_=>h0
 | _,_,_,_::_,[],_,_,_,_=>h0
 | _,_,A,c::cs,q::qs,hc,k,k',hk=>th h0 A (hc c (by simp)) fun x d s s' v A=>zt h0 A (fun c h=>hc c (by simp [h])) fun _ _ _ _ _ A=>hk _ _ _ _ _ A
theorem Qd (h0:ρ none none) (A:Ag u st aE) {t:Ty} {s:Sv} (hs:Dd u s) {k:El t→Bool→St→List (Nat×Rt)→Option R} {k':El t→Bool→St→List (Nat×Rt)→Option R'}
 (hk:∀x d s s' v,Ag u s s'→ρ (k x d s v) (k' x d s' v)):ρ (xB st t s k) (xB aE t s k'):=
  bW h0 fun cs fe=>zt h0 A (fun c h=>(hs c (jr fe c h)).2) fun xs d s s' v A=>du h0 fun y _=>hk _ _ _ _ _ A
theorem Jj (h0:ρ none none) (A:Ag u st aE) {t:Ty} {s:Sv} (hs:Dd u s) {k:El t→Bool→St→List (Nat×Rt)→Option R} {k':El t→Bool→St→List (Nat×Rt)→Option R'}
 (hk:∀x d s s' v,Ag u s s'→ρ (k x d s v) (k' x d s' v)):ρ (re st t s k) (re aE t s k'):=
  bW h0 fun cs fe=>ES h0 A (fun c h=>(hs c (jr fe c h)).2) fun xs d s s' v A=>du h0 fun y _=>hk _ _ _ _ _ A
theorem uk (h0:ρ none none) (A:Ag u st aE) {id:Nat} (hi:u.nu id=true) {t:Ty} {md:Md} {xs:List (El t)} {k:cB→Option R} {k':cB→Option R'} (hk:∀c,ρ (k c) (k' c)):ρ (mkRoot st id t md xs k) (mkRoot aE id t md xs k'):=by
 unfold mkRoot
 rw [A.r id hi]
 split<;>first | exact h0 | exact hk _
theorem ru (h0:ρ none none) (A:Ag u st aE) {id:Nat} (hi:u.nu id=true) {t:Ty} {md:Md} {xs:List (El t)} {k:cB→Option R} {k':cB→Option R'} (hk:∀c,ρ (k c) (k' c)):ρ (jU st id t md xs k) (jU aE id t md xs k'):=by
 unfold jU
 rw [A.r id hi]
 split
 ·exact bC h0 fun _=>hk _
 ·exact uk h0 A hi hk
def CG (u:mw) (b:Nat):Prop:=(cE b u.b||tg u.d b)=true
theorem CG.r {b id:Nat} (h:CG u b) (hi:id/64=b):u.nu id=true:=by
 subst hi;unfold CG at h;simp only [mw.nu,h,Bool.or_true]
theorem CG.b {b:Nat} (h:CG u b):u.hasB b=true:=h
theorem Jk {id:Nat} (h:Nat.beq (id%64) 63=false):(id+1)/64=id/64:=by
 have h:id%64≠63:=fun e=>by rw [e] at h;cases h
 omega
theorem um (h0:ρ none none) {b:Nat} (hb:CG u b) {own:Bool}:∀ {cs:List Cv} {st aE:St} (_:Ag u st aE) {id:Nat} (_:id/64=b) {k:List Sc→Nat→St→List (Nat×Rt)→Option R} {k':List Sc→Nat→St→List (Nat×Rt)→Option R'}
 (_:∀ss n s s' v,Ag u s s'→n/64=b→(∀ c∈ss,sf u c)→ρ (k ss n s v) (k' ss n s' v)),ρ (tB own st id cs k) (tB own aE id cs k')
 | [],_,_,A,id,hi,_,_,hk=>hk _ _ _ _ _ A hi (by simp)
 | .v x::cs,_,_,A,id,hi,k,k',hk=>um h0 hb A hi (k:=fun ss n st u=>k (.v x::ss) n st u) (k':=fun ss n st u=>k' (.v x::ss) n st u) fun ss n s s' v A hn hs=>hk (.v x::ss) n s s' v A hn (by
   intro c hc;rcases List.mem_cons.1 hc with rfl | hc
   ·simp [sf,Sc.names]
   ·exact hs c hc)
 | .l t xs::cs,_,_,A,id,hi,_,_,hk=>kO (fun _=>h0) fun h64=>kO
   (fun _=>uk h0 A (hb.r hi) fun r=>um h0 hb (A.b8 _ _) ((Jk h64).trans hi) fun ss n s s' v A hn hs=>hk (.h id r.ver 0 []::ss) n s s' ((id,.live r)::v) A hn (by
    intro c hc;rcases List.mem_cons.1 hc with rfl | hc
    ·intro i mZ;simp [Sc.names] at mZ;subst mZ;exact hb.r hi
    ·exact hs c hc))
   (fun _=>um h0 hb A ((Jk h64).trans hi) fun ss n s s' v A hn hs=>hk (.ro t xs::ss) n s s' v A hn (by
    intro c hc;rcases List.mem_cons.1 hc with rfl | hc
    ·simp [sf,Sc.names]
    ·exact hs c hc))
theorem Qe {u:mw} {cs:List Cv}:∀c∈Gw cs,sf u c:=by
 intro c hc
 obtain ⟨x,_,rfl⟩:=List.mem_map.1 hc
 cases x<;>simp [sf,Sc.names]
theorem Jl (h0:ρ none none) {b:Nat} (hb:CG u b) {own:Bool} {t:Ty} {cs:List Cv} {st aE:St} (A:Ag u st aE) {id:Nat} (hi:id/64=b) {k:List Sc→Nat→St→List (Nat×Rt)→Option R} {k':List Sc→Nat→St→List (Nat×Rt)→Option R'}
 (hk:∀ss n s s' v,Ag u s s'→n/64=b→(∀ c∈ss,sf u c)→ρ (k ss n s v) (k' ss n s' v)):ρ (tC own st id t cs k) (tC own aE id t cs k'):=
  kO (fun _=>hk _ _ _ _ _ A hi Qe) fun _=>um h0 hb A hi hk
theorem Vg (h0:ρ none none) {st aE:St} (A:Ag u st aE) {t:Ty} {cs:List Sc} (hc:∀c∈cs,sf u c) {k:List Cv→Bool→St→List (Nat×Rt)→Option R} {k':List Cv→Bool→St→List (Nat×Rt)→Option R'}
 (hk:∀x d s s' v,Ag u s s'→ρ (k x d s v) (k' x d s' v)):ρ (PC st t cs k) (PC aE t cs k'):=
  kO (fun _=>du h0 fun _ _=>hk _ _ _ _ _ A) fun _=>zt h0 A hc hk
theorem Jm (h0:ρ none none) (A:Ag u st aE) {c:Sc} (hc:XT u c) {n:Nat} {k:List Sc→Option R} {k':List Sc→Option R'} (hk:∀c,ρ (k c) (k' c)):ρ (loadAt st c n k) (loadAt aE c n k'):=by
 unfold loadAt
 split
 ·rw [A.b _ (mw.ql (hc.1 _ (by simp [Sc.names])))]
  exact bW h0 fun x _=>bC h0 fun _=>hk _
 ·exact jl h0 A (hc.2 _ (by simp [Sc.names])) fun r=>bC h0 fun _=>bW h0 fun s _=>bC h0 fun _=>hk _
 ·exact bC h0 fun _=>hk _
 ·exact h0
theorem A9 (h0:ρ none none) (A:Ag u st aE):∀ {bs:List Nat} (_:∀b∈bs,cE b u.b=true) {k:List (Σ t:Ty,El t)→Option R} {k':List (Σ t:Ty,El t)→Option R'} (_:∀c,ρ (k c) (k' c)),ρ (my st bs k) (my aE bs k')
 | [],_,_,_,hk=>hk _
 | b::bs,hb,k,k',hk=>by
  simp only [my]
  rw [A.b b (mw.ql (hb b (by simp)))]
  exact bW h0 fun x hx=>ER h0 A (A.cb b (hb b (by simp)) x hx) fun cv=>du h0 fun y _=>A9 h0 A (fun b h=>hb b (by simp [h])) fun ys=>hk _
def Vh (u:mw):Bk→Prop | .root id _ _=>u.nu id=true | .box b=>cE b u.b=true
theorem xS (h0:ρ none none) (A:Ag u st aE) {m:Am} {T:Nat} {s:Sv} (hs:Dd u s) {k:Dt→List Bk→St→Dl→Option R} {k':Dt→List Bk→St→Dl→Option R'}
 (hk:∀x b s s' d,Ag u s s'→(∀ y∈b,Vh u y)→ρ (k x b s d) (k' x b s' d)):ρ (fF E m T s st k) (fF E m T s aE k'):=by
 have one:∀ {c:Sc},Dd u (.c (.one c))→XT u c:=fun h=>h _ (by simp [Sv.cells,Cm.cells])
 unfold fF
 cases m
 ·exact du h0 fun t _=>Ji h0 A hs fun x=>hk _ _ _ _ _ A (by simp)
 ·simp only
  split
  ·exact jl h0 A ((one hs).2 _ (by simp [Sc.names])) fun r=>bC h0 fun _=>bW h0 fun s _=>hk _ _ _ _ _ (A.b8 _ _) (by intro y hy;simp at hy;subst hy;exact (one hs).2 _ (by simp [Sc.names]))
  ·exact h0
 ·exact du h0 fun t _=>Qd h0 A hs fun x d s s' v A=>bC h0 fun _=>hk _ _ _ _ _ A (by simp)
 ·simp only
  split
  ·rename_i b
   have hb:=(one hs).1 b (by simp [Sc.names])
   rw [A.b _ (mw.ql hb)]
   exact bW h0 fun x hx=>ER h0 A (A.cb b hb x hx) fun cv=>du h0 fun y _=>hk _ _ _ _ _ A (by simp)
  ·exact hk _ _ _ _ _ A (by simp)
  ·exact h0
 ·simp only
  split
  ·rename_i b
   have hb:=(one hs).1 b (by simp [Sc.names])
   rw [A.b _ (mw.ql hb)]
   exact bW h0 fun x hx=>Vg h0 A (A.cb b hb x hx) fun cv d s s' v A=>bC h0 fun _=>du h0 fun y _=>hk _ _ _ _ _ (A.dB b _ (by simp [sf,Sc.names])) (by intro y hy;simp at hy;subst hy;exact hb)
  ·exact h0
 ·simp only
  split
  ·exact A9 h0 A (fun b hb=>(one hs).1 b (by simpa [Sc.names] using hb)) fun ys=>hk _ _ _ _ _ A (by simp)
  ·exact hk _ _ _ _ _ A (by simp)
  ·exact h0
 ·simp only
  split
  ·exact hk _ _ _ _ _ A (by simp)
  ·exact h0
 ·exact du h0 fun t _=>du h0 fun cs _=>du h0 fun cv _=>du h0 fun x _=>hk _ _ _ _ _ A (by simp)
theorem pL (h0:ρ none none):∀ {l:List (Am×Nat×Sv)} {st aE:St} (_:Ag u st aE) (_:∀a∈l,Dd u a.2.2) {k:List Dt→List Bk→St→Dl→Option R} {k':List Dt→List Bk→St→Dl→Option R'}
 (_:∀x b s s' d,Ag u s s'→(∀ y∈b,Vh u y)→ρ (k x b s d) (k' x b s' d)),ρ (dx E l st k) (dx E l aE k')
  | [],_,_,A,_,_,_,hk=>hk _ _ _ _ _ A (by simp)
  | (m,T,s)::l,_,_,A,hl,k,k',hk=>by
    simp only [dx]
    split
    · exact pL h0 A (fun a h=>hl a (by simp [h])) fun xs bs s1 s1' d A hb=>xS h0 A (hl (m,T,s) (by simp)) fun x _ _ _ _ _ _=>hk _ _ _ _ _ A hb
    · exact xS h0 A (hl (m,T,s) (by simp)) fun x b s s' d A hb=>pL h0 A (fun a h=>hl a (by simp [h])) fun xs bs s s' d A gB=>hk (x::xs) (b++bs) _ _ _ A (by
        intro y hy;rcases List.mem_append.1 hy with hy | hy
        · exact hb y hy
        · exact gB y hy)
theorem pM (h0:ρ none none):∀ {bs:List Bk} {ds:List Dt} {st aE:St} (_:Ag u st aE) (_:∀y∈bs,Vh u y) {k:St→Dl→Option R} {k':St→Dl→Option R'}
 (_:∀s s' d,Ag u s s'→ρ (k s d) (k' s' d)),ρ (fJ st bs ds k) (fJ aE bs ds k')
 | [],[],_,_,A,_,_,_,hk=>hk _ _ _ A
 | [],_::_,_,_,_,_,_,_,_=>h0
 | .root id r p::bs,[],_,_,_,_,_,_,_=>h0
 | .box b::bs,[],_,_,_,_,_,_,_=>h0
 | .root id r p::bs,.fH _ _::ds,_,_,_,_,_,_,_=>h0
 | .box b::bs,.fH _ _::ds,_,_,_,_,_,_,_=>h0
 | .root id r p::bs,.d t x::ds,st,aE,A,hb,k,k',hk=>by
  cases t
  case sl t=>
   exact du h0 fun zs _=>pM h0 (A.b8 _ _) (fun y h=>hb y (by simp [h])) fun s s' d A=>hk _ _ _ A
  all_goals exact h0
 | .box b::bs,.d t x::ds,st,aE,A,hb,k,k',hk=>by
  have gB:cE b u.b=true:=hb (.box b) (by simp)
  have hD:CG u b:=by simp [CG,gB]
  exact Jl h0 hD A (by omega) fun cs n s s' v A _ hc=>pM h0 (A.dB _ _ hc) (fun y h=>hb y (by simp [h])) fun s s' d A=>hk _ _ _ A
theorem uo (h0:ρ none none) {d:Nat} (hd:CG u d) {own:Bool}:∀ {ps:List Bool} {ds:List Dt} {st aE:St} (_:Ag u st aE) {id:Nat} (_:id/64=d) {k:List Cm→St→Dl→Option R} {k':List Cm→St→Dl→Option R'}
 (_:∀c s s' d,Ag u s s'→ρ (k c s d) (k' c s' d)),ρ (eo own st d id ps ds k) (eo own aE d id ps ds k')
 | [],[],_,_,A,_,_,_,_,hk=>hk _ _ _ _ A
 | [],_::_,_,_,_,_,_,_,_,_=>h0
 | false::ps,[],_,_,_,_,_,_,_,_=>h0
 | true::ps,[],_,_,_,_,_,_,_,_=>h0
 | false::ps,.fH _ _::ds,_,_,_,_,_,_,_,_=>h0
 | true::ps,.fH _ _::ds,_,_,_,_,_,_,_,_=>h0
 | false::ps,.d t x::ds,_,_,A,id,hi,_,_,hk=>um h0 hd A hi fun cs n s s' v A hn _=>bW h0 fun c _=>uo h0 hd A hn fun r s s' u' A=>hk _ _ _ _ A
 | true::ps,.d t x::ds,st,aE,A,id,hi,k,k',hk=>by
  simp only [eo]
  rw [A.b d hd.b]
  split
  ·exact Jl h0 hd A hi fun cs n s s' v A hn hc=>uo h0 hd (A.dB _ _ hc) hn fun r s s' u' A=>hk _ _ _ _ A
  ·exact h0
theorem uq (h0:ρ none none):∀ {ids:List Nat} {st aE:St} (_:Ag u st aE) (_:∀i∈ids,u.nu i=true) {k:St→List (Nat×Rt)→Option R} {k':St→List (Nat×Rt)→Option R'}
 (_:∀s s' d,Ag u s s'→ρ (k s d) (k' s' d)),ρ (freeze st ids k) (freeze aE ids k')
 | [],_,_,A,_,_,_,hk=>hk _ _ _ A
 | id::ids,st,aE,A,hi,k,k',hk=>by
  simp only [freeze]
  rw [A.r id (hi id (by simp))]
  split
  ·exact kO (fun _=>h0) fun _=>uq h0 (A.b8 _ _) (fun i h=>hi i (by simp [h])) fun s s' d A=>hk _ _ _ A
  ·exact uq h0 A (fun i h=>hi i (by simp [h])) hk
end Go.Gm
namespace Go.Gm
open Go
variable {R R' : Type} {ρ : Option R → Option R' → Prop} {u : mw} {st aE : St} {E : Env} {o : Oper}
theorem GZ {l:List (Nat×Sv)} (hl:∀a∈l,Dd u a.2):∀i∈((l.map fun a=>(a.2.cells.map fun c=>c.names.2).flatten).flatten),u.nu i=true:=by
 intro i hi
 simp only [List.mem_flatten,List.mem_map] at hi
 obtain ⟨_,⟨a,ha,rfl⟩,hi⟩:=hi
 simp only [List.mem_flatten,List.mem_map] at hi
 obtain ⟨_,⟨c,hc,rfl⟩,hi⟩:=hi
 exact (hl a ha c hc).2 i hi
theorem Jn (h0:ρ none none) {s:Spec} (hs:s.lC) (ds:List Dt) {k:Kt R} {k':Kt R'} (hk:∀x,ρ (k x) (k' x)):ρ (s.fn ds k) (s.fn ds k'):=by
 obtain ⟨q,hq⟩:=hs ds
 rw [hq,hq]
 exact bW h0 fun x _=>hk x
theorem zu:∀ {sh:List Nat} {args kM:List (Nat×Sv)},yM sh args=some kM→(∀ a∈args,Dd u a.2)→∀a∈kM,Dd u a.2
  | [],args,kM,he,h=>by cases he;exact h
  | 0::sh,[],_,he,_=>by cases he
  | 0::sh,x::l,kM,he,h=>by
    simp only [yM] at he
    obtain ⟨r,hr,he⟩:=Option.bind_eq_some_iff.1 he
    cases he
    intro a ha
    rcases List.mem_cons.1 ha with rfl | ha
    · exact h _ (by simp)
    · exact zu hr (fun a ha=>h a (by simp [ha])) a ha
  | (n+1)::sh,[],_,he,_=>by cases he
  | (n+1)::sh,(T,s)::l,kM,he,h=>by
    cases s with
    | xx _=>cases he
    | c x=>
    cases x with
    | one _=>cases he
    | agg cs=>
    simp only [yM] at he
    obtain ⟨hlen,he⟩:=a8 he
    obtain ⟨r,hr,he⟩:=Option.bind_eq_some_iff.1 he
    cases he
    intro a ha
    rcases List.mem_append.1 ha with ha | ha
    · obtain ⟨c,hc,rfl⟩:=List.mem_map.1 ha
      intro c' r6
      have:c'=c:=by simpa [Sv.cells,Cm.cells] using r6
      subst this
      exact h (T,.c (.agg cs)) (by simp) _ (by simpa [Sv.cells,Cm.cells] using hc)
    · exact zu hr (fun a ha=>h a (by simp [ha])) a ha
theorem A' (h0:ρ none none) (hN:E.lC) (A:Ag u st aE) (hd:CG u (o.dst.getD 0)) {fn:Nat} {args:List (Nat×Sv)} (ha:∀a∈args,Dd u a.2) {k:Dl→Option R} {k':Dl→Option R'}
 (hk:∀d,ρ (k d) (k' d)):ρ (ka E o fn args st k) (ka E o fn args aE k'):=by
  unfold ka
  refine bW h0 fun sp IB=>bW h0 fun kM hex=> ?_
  replace ha:=zu hex ha
  refine bC h0 fun _=>pL h0 A (fun a h=> ?_) fun ds bs s s' d A hb=>Jn h0 (hN _ _ IB) ds fun outs=>pM h0 A hb fun s s' d1 A=> ?_
  · obtain ⟨m,T,s⟩:=a
    exact ha (T,s) (List.of_mem_zip h).2
  · have fin:∀(own:Bool) {s s':St} (u0:List (Nat×Rt)),Ag u s s'→ρ (eo own s (o.dst.getD 0) (64*o.dst.getD 0) sp.res (outs.take sp.res.length) fun rs _ u'=>
            k { slot:=o.dst.map fun q=>(q,match rs with | [r]=> .c r | rs=> .xx rs),boxes:=d.boxes++(d1.boxes++u'.boxes),roots:=d.roots++(d1.roots++(u0++u'.roots)) })
          (eo own s' (o.dst.getD 0) (64*o.dst.getD 0) sp.res (outs.take sp.res.length) fun rs _ u'=>
            k' { slot:=o.dst.map fun q=>(q,match rs with | [r]=> .c r | rs=> .xx rs),boxes:=d.boxes++(d1.boxes++u'.boxes),roots:=d.roots++(d1.roots++(u0++u'.roots)) }):=
      fun own _ _ _ A=>uo h0 hd A (by omega) fun _ _ _ _ _=>hk _
    cases sp.own with
    | true=>exact fin true [] A
    | false=>exact uq h0 A (GZ ha) fun s s' u0 A=>fin false u0 A
theorem zw (h0:ρ none none) (A:Ag u st aE) {e:Ty} {c:Sc} (hc:sf u c) {k:List (El e)→Bool→St→List (Nat×Rt)→Option R} {k':List (El e)→Bool→St→List (Nat×Rt)→Option R'}
 (hk:∀x d s s' v,Ag u s s'→ρ (k x d s v) (k' x d s' v)):ρ (kJ st e c k) (kJ aE e c k'):=by
 unfold kJ
 split
 ·exact Df h0 A hc fun x=>du h0 fun xs _=>hk _ _ _ _ _ A
 ·exact Qc h0 A hc fun x d s s' v A=>du h0 fun xs _=>hk _ _ _ _ _ A
theorem Dg (h0:ρ none none) (A:Ag u st aE) (hd:CG u (o.dst.getD 0)) {T:Nat} {s x:Sc} (hs:sf u s) (hx:sf u x) {k:Dl→Option R} {k':Dl→Option R'}
 (hk:∀d,ρ (k d) (k' d)):ρ (lS E o T s x st k) (lS E o T s x aE k'):=by
 unfold lS
 split
 ·split
  ·exact zw h0 A hx fun ys d s s' v A=>bC h0 fun _=>ru h0 A (hd.r (by omega)) fun r=>hk _
  ·exact zw h0 A hx fun ys d s s' v A=>kn h0 A (hs _ (by simp [Sc.names])) fun r=>kO (fun _=>h0) fun _=>du h0 fun xs _=>bC h0 fun _=>hk _
  ·exact zw h0 A hx fun ys d s s' v A=>jl h0 A (hs _ (by simp [Sc.names])) fun r=>bC h0 fun _=>bW h0 fun s _=>du h0 fun xs _=>bC h0 fun _=>uk h0 A (hd.r (by omega)) fun r2=>hk _
  ·exact h0
 ·exact h0
theorem Ba (h0:ρ none none) (A:Ag u st aE) (hd:CG u (o.dst.getD 0)) {b:Builtin} {c:Call} (hx:∀x∈c.args.toList,CF u x) {k:Dl→Option R} {k':Dl→Option R'}
 (hk:∀d,ρ (k d) (k' d)):ρ (eD E o b c st k) (eD E o b c aE k'):=by
 unfold eD
 split
 ·split
  ·rename_i he _
   exact iZ h0 A (hx _ (by simp [he])) fun c hc=>by
    split
    ·exact bC h0 fun _=>hk _
    ·exact bW h0 fun _ _=>hk _
    ·exact bW h0 fun _ _=>hk _
    ·exact bW h0 fun _ _=>jl h0 A (hc.2 _ (by simp [Sc.names])) fun r=>bC h0 fun _=>bW h0 fun s _=>hk _
    ·exact bW h0 fun _ _=>kn h0 A (hc.2 _ (by simp [Sc.names])) fun r=>hk _
    ·exact h0
  ·exact h0
 ·split
  ·rename_i he _
   exact bW h0 fun _ _=>iZ h0 A (hx _ (by simp [he])) fun s hs=>iZ h0 A (hx _ (by simp [he])) fun x hx=>Dg h0 A hd hs.2 hx.2 hk
  ·exact h0
 ·split
  ·rename_i he
   exact km h0 A (hx _ (by simp [he])) fun x=>km h0 A (hx _ (by simp [he])) fun y=>bW h0 fun z _=>hk _
  ·exact h0
 ·split
  ·rename_i he
   exact km h0 A (hx _ (by simp [he])) fun x=>km h0 A (hx _ (by simp [he])) fun y=>bW h0 fun z _=>hk _
  ·exact h0
 ·split
  ·rename_i he _
   exact bC h0 fun _=>bW h0 fun _ _=>iZ h0 A (hx _ (by simp [he])) fun c hc=>by
    split
    ·exact kn h0 A (hc.2 _ (by simp [Sc.names])) fun r=>bC h0 fun _=>bW h0 fun _ _=>hk _
    ·exact h0
  ·exact h0
 ·exact h0
theorem xT (h0:ρ none none) (A:Ag u st aE) {T:Nat}:∀ {ps:List (Nat×Operand)} {row:List Sc} (_:∀p∈ps,CF u p.2) {k:List Sc→Option R} {k':List Sc→Option R'} (_:∀c,ρ (k c) (k' c)),ρ (ji E T st ps row k) (ji E T aE ps row k')
  | [],_,_,_,_,hk=>hk _
  | (i,x)::ps,row,hp,k,k',hk=>by
    have hx:CF u x:=hp (i,x) (by simp)
    simp only [ji]
    exact du h0 fun (off,ft) _=>bW h0 fun t _=>iC h0 A hx fun s _=>bW h0 fun cs _=>bC h0 fun _=>xT h0 A (fun p h=>hp p (by simp [h])) hk
theorem xU (h0:ρ none none) {e:Ty}:∀ {ps:List (Nat×Operand)} {xs:List (El e)} {st aE:St} (_:Ag u st aE) (_:∀p∈ps,CF u p.2) {k:List (El e)→Bool→St→List (Nat×Rt)→Option R} {k':List (El e)→Bool→St→List (Nat×Rt)→Option R'}
 (_:∀x d s s' v,Ag u s s'→ρ (k x d s v) (k' x d s' v)),ρ (jj e st ps xs k) (jj e aE ps xs k')
  | [],_,_,_,A,_,_,_,hk=>hk _ _ _ _ _ A
  | (i,x)::ps,xs,_,_,A,hp,k,k',hk=>by
    have hx:CF u x:=hp (i,x) (by simp)
    simp only [jj]
    exact iC h0 A hx fun s hs=>Jj h0 A hs fun y d s s' v A=>bC h0 fun _=>xU h0 A (fun p h=>hp p (by simp [h])) fun _ _ _ _ _ A=>hk _ _ _ _ _ A
theorem ti (h0:ρ none none) (A:Ag u st aE):∀ {xs:List Operand} (_:∀x∈xs,CF u x) {k:List Sv→Option R} {k':List Sv→Option R'} (_:∀ss,(∀ s∈ss,Dd u s)→ρ (k ss) (k' ss)),ρ (lT st xs k) (lT aE xs k')
 | [],_,_,_,hk=>hk _ (by simp)
 | x::xs,hx,k,k',hk=>by
  simp only [lT]
  exact iC h0 A (hx x (by simp)) fun s hs=>ti h0 A (fun x h=>hx x (by simp [h])) fun ss xI=>hk (s::ss) (by
   intro y hy;rcases List.mem_cons.1 hy with rfl | hy
   ·exact hs
   ·exact xI y hy)
theorem ma (h0:ρ none none) (A:Ag u st aE) {x:Option Operand} {d:Int} (hx:∀y,x=some y→CF u y) {k:Int→Option R} {k':Int→Option R'} (hk:∀c,ρ (k c) (k' c)):ρ (fu st x d k) (fu aE x d k'):=by
 cases x with
 | none=>exact hk _
 | some x=>exact nJ h0 A (hx x rfl) hk
theorem G0 (h0:ρ none none) {op:BinOp} {tb:Bool} {x y:Value} {k:Value→Option R} {k':Value→Option R'} (hk:∀c,ρ (k c) (k' c)):ρ (xC op tb x y k) (xC op tb x y k'):=by
 unfold xC
 split
 ·split
  ·exact kO (fun _=>h0) fun _=>hk _
  ·exact kO (fun _=>h0) fun _=>hk _
  ·refine bC h0 fun _=> ?_
   split<;>first | exact hk _ | exact h0 | exact kO (fun _=>h0) fun _=>hk _
 ·split<;>first | exact hk _ | exact h0 | exact bC h0 fun _=>hk _
 ·split<;>first | exact h0 | exact bC h0 fun _=>hk _
 ·exact h0
theorem TD (h0:ρ none none) (hN:E.lC) (A:Ag u st aE) (hd:CG u (o.dst.getD 0)) (hx:∀x∈o.op.operands.toList,CF u x) {k:Dl→Option R} {k':Dl→Option R'}
 (hk:∀d,ρ (k d) (k' d)):ρ (eE E o st k) (eE E o aE k'):=by
 have hB:=A.b _ hd.b
 unfold eE
 split<;>rename_i cc<;>simp only [cc,Op.operands] at hx
 ·exact iC h0 A (hx _ (by simp)) fun s _=>hk _
 ·exact iC h0 A (hx _ (by simp)) fun s _=>hk _
 ·exact GY h0 A (hx _ (by simp)) fun t=>kO (fun _=>iC h0 A (hx _ (by simp)) fun s _=>hk _) fun _=>iC h0 A (hx _ (by simp)) fun s _=>hk _
 ·refine bW h0 fun t _=>du h0 fun d PO=> ?_
  rw [PO] at hB;simp only [Option.getD_some] at hB;rw [hB]
  split
  ·exact hk _
  ·exact h0
 ·refine bW h0 fun t _=>du h0 fun d PO=> ?_
  rw [PO] at hB;simp only [Option.getD_some] at hB;rw [hB]
  split
  ·exact iC h0 A (hx _ (by simp)) fun s _=>bW h0 fun cs _=>bC h0 fun _=>hk _
  ·exact h0
 ·exact bW h0 fun t _=>bC h0 fun _=>xT h0 A (fun p hp=>hx _ (by simp only [Array.toList_map,List.mem_map];exact ⟨p,hp,rfl⟩)) fun row=>hk _
 ·split
  ·exact bC h0 fun _=>xU h0 A (fun p hp=>hx _ (by simp only [Array.toList_map,List.mem_map];exact ⟨p,hp,rfl⟩)) fun xs d s s' v A=>ru h0 A (hd.r (by omega)) fun r=>hk _
  ·exact h0
 ·exact bW h0 fun t _=>iZ h0 A (hx _ (by simp)) fun c hc=>Jm h0 A hc fun cs=>bW h0 fun c _=>hk _
 ·refine bC h0 fun _=>bW h0 fun t _=>iZ h0 A (hx _ (by simp)) fun c hc=>iC h0 A (hx _ (by simp)) fun s hs=>bW h0 fun cs fe=>bC h0 fun _=> ?_
  split
  ·rw [A.b _ (mw.ql (hc.1 _ (by simp [Sc.names])))]
   exact bW h0 fun y _=>bC h0 fun _=>hk _
  ·have hi:=hc.2 _ (List.mem_singleton.2 rfl:_∈(Sc.pe _ _ _ _ _ _).names.2)
   refine jl h0 A hi fun r=> ?_
   split
   ·refine bC h0 fun _=> ?_
    split
    ·exact bW h0 fun s0 _=>th h0 A (hs _ (jr fe _ (by simp))).2 fun cv d s s' v A=>bC h0 fun _=>kn h0 A hi fun r=>du h0 fun ys _=>du h0 fun zs _=>hk _
    ·exact h0
   ·exact bW h0 fun s _=>bC h0 fun _=>zt h0 A (fun c h=>(hs c (jr fe c h)).2) fun cv d s s' v A=>kn h0 A hi fun r=>bC h0 fun _=>du h0 fun y _=>du h0 fun zs _=>hk _
  ·exact h0
 ·exact iZ h0 A (hx _ (by simp)) fun c hc=>by
   split
   ·exact hk _
   ·exact jl h0 A (hc.2 _ (by simp [Sc.names])) fun _=>hk _
   ·exact hk _
   ·exact hk _
   ·exact hk _
   ·exact h0
 ·exact iC h0 A (hx _ (by simp)) fun x _=>iC h0 A (hx _ (by simp)) fun y _=>by
   split
   ·exact G0 h0 fun z=>hk _
   ·refine bW h0 fun _ _=> ?_
    split
    ·exact du h0 fun e _=>hk _
    ·exact du h0 fun e _=>hk _
    ·exact h0
   ·refine du h0 fun _ _=>kO (fun _=>h0) fun _=> ?_
    split
    ·exact hk _
    ·exact hk _
    ·exact h0
   ·exact h0
 ·exact km h0 A (hx _ (by simp)) fun x=>by
   split
   ·exact hk _
   ·exact hk _
   ·exact h0
 ·split
  ·exact km h0 A (hx _ (by simp)) fun x=>by split<;>first | exact hk _ | exact h0
  ·exact km h0 A (hx _ (by simp)) fun x=>by split<;>first | exact hk _ | exact h0
  ·exact km h0 A (hx _ (by simp)) fun x=>by split<;>first | exact hk _ | exact h0
  ·exact iZ h0 A (hx _ (by simp)) fun c hc=>Df h0 A hc.2 fun cv=>du h0 fun xs _=>hk _
  ·exact h0
 ·split
  ·exact ti h0 A (fun x h=>hx x (by simp [h])) fun ss _=>du h0 fun bs _=>hk _
  ·exact h0
 ·split
  ·exact nJ h0 A (hx _ (by simp)) fun n=>nJ h0 A (hx _ (by simp)) fun m=>bC h0 fun _=>ru h0 A (hd.r (by omega)) fun r=>hk _
  ·exact h0
 ·rename_i T x lo hi
  have Ic:∀y,lo=some y→CF u y:=fun y hy=>hx _ (by simp [hy])
  have Tf:∀y,hi=some y→CF u y:=fun y hy=>hx _ (by simp [hy])
  exact iZ h0 A (hx _ (by simp)) fun c hc=>by
   split
   ·exact bC h0 fun _=>ma h0 A Ic fun l=>ma h0 A Tf fun h=>bC h0 fun _=>hk _
   ·exact bW h0 fun _ _=>bC h0 fun _=>ma h0 A Ic fun l=>ma h0 A Tf fun h=>bC h0 fun _=>hk _
   ·exact bW h0 fun _ _=>kn h0 A (hc.2 _ (by simp [Sc.names])) fun r=>bC h0 fun _=>ma h0 A Ic fun l=>ma h0 A Tf fun h=>bC h0 fun _=>hk _
   ·exact h0
 ·exact du h0 fun (off,_) _=>iZ h0 A (hx _ (by simp)) fun c hc=>by
   split
   ·exact hk _
   ·exact jl h0 A (hc.2 _ (by simp [Sc.names])) fun _=>hk _
   ·exact hk _
   ·exact h0
 ·exact du h0 fun (off,_) _=>bW h0 fun t _=>iC h0 A (hx _ (by simp)) fun s _=>by
   split
   ·exact bC h0 fun _=>bW h0 fun c _=>hk _
   ·exact h0
 ·exact iZ h0 A (hx _ (by simp)) fun c hc=>nJ h0 A (hx _ (by simp)) fun i=>bW h0 fun e _=>by
   split
   ·exact bC h0 fun _=>bC h0 fun _=>hk _
   ·exact jl h0 A (hc.2 _ (by simp [Sc.names])) fun r=>bC h0 fun _=>bW h0 fun s _=>bC h0 fun _=>bC h0 fun _=>hk _
   ·exact kn h0 A (hc.2 _ (by simp [Sc.names])) fun r=>bC h0 fun _=>bC h0 fun _=>hk _
   ·exact h0
 ·exact km h0 A (hx _ (by simp)) fun x=>nJ h0 A (hx _ (by simp)) fun i=>by
   split
   ·exact bC h0 fun _=>hk _
   ·exact h0
 ·exact iC h0 A (hx _ (by simp)) fun s _=>by
   split
   ·exact bW h0 fun c _=>hk _
   ·exact h0
 ·rename_i c
  split
  ·rename_i hc
   exact Ba h0 A hd (fun x h=>hx x (by simp [Call.operands,hc,h])) hk
  ·rename_i f hc
   exact iZ h0 A (hx f (by simp [Call.operands,hc])) fun cf hcf=>by
    split
    ·rename_i fn bs
     refine ti h0 A (fun x h=>hx x (by simp [Call.operands,hc,h])) fun ss xI=>bC h0 fun _=>A' h0 hN A hd (fun a ha=> ?_) hk
     rcases List.mem_append.1 ha with ha | ha
     ·obtain ⟨T,s⟩:=a;exact xI s (List.of_mem_zip ha).2
     ·simp only [List.mem_map] at ha
      obtain ⟨b,hb,rfl⟩:=ha
      intro c r6
      simp [Sv.cells,Cm.cells] at r6
      subst r6
      exact ⟨by intro b' gB;simp [Sc.names] at gB;subst gB;exact hcf.1 _ (by simpa [Sc.names] using hb),by simp [sf,Sc.names]⟩
    ·rename_i fn ys
     refine ti h0 A (fun x h=>hx x (by simp [Call.operands,hc,h])) fun ss xI=>bC h0 fun _=>A' h0 hN A hd (fun a ha=> ?_) hk
     rcases List.mem_append.1 ha with ha | ha
     ·obtain ⟨T,s⟩:=a;exact xI s (List.of_mem_zip ha).2
     ·simp only [List.mem_map] at ha
      obtain ⟨b,hb,rfl⟩:=ha
      intro c r6
      simp [Sv.cells,Cm.cells] at r6
      subst r6
      exact ⟨by simp [Sc.names],by simp [sf,Sc.names]⟩
    ·exact h0
  ·exact h0
 ·exact h0
end Go.Gm
namespace Go.Gm
open Go
variable {R : Type} {P : Program} {E : Env} {w0 w : World} {Mf : Nat → Prop} {g : Gh} {st bt pJ : St} {a : Act} {Q : Exit → Act → World → Prop}
  {o:Oper} {ops:Array Oper} {K:Act→World→Prop}
structure qn (st aE:St):Prop where
 s:ax st.aA=ax aE.aA
 b:ax st.boxes=ax aE.boxes
 r:ax st.roots=ax aE.roots
theorem qn.refl (st:St):qn st st:=⟨rfl,rfl,rfl⟩
theorem qn.symm (h:qn st bt):qn bt st:=⟨h.s.symm,h.b.symm,h.r.symm⟩
theorem qn.inv (h:qn st bt) (I:Inv w0 Mf g st a w):Inv w0 Mf g bt a w:=I.congr h.s h.b h.r
theorem cd {n:Nat}:∀ {l:List Nat},cE n l=true↔n∈l
 | []=>by simp [cE]
 | m::l=>by
  have ih:=cd (n:=n) (l:=l)
  cases h:Nat.beq n m with
  | true=>
   have:=Nat.eq_of_beq_eq_true h
   subst this
   simp [cE,h]
  | false=>
   have:n≠m:=fun e=>by subst e;simp at h
   simp [cE,h,ih,this]
theorem mw.sIn {st:St} {n:Nat} (hn:(bF ops st o).zo n=true) {v:Sv} (hv:ax st.aA n=some v):Dd (bF ops st o) v:=by
 have hs:=cd.1 hn
 have hns:∀c∈v.cells,c.names∈((bF ops st o).s.map fun t=>match ax st.aA t with | some v=>v.cells.map Sc.names | none=>[]).flatten:=by
  intro c hc
  simp only [List.mem_flatten,List.mem_map]
  refine ⟨v.cells.map Sc.names,⟨n,hs,by simp [hv]⟩,List.mem_map.2 ⟨c,hc,rfl⟩⟩
 intro c hc
 have:=hns c hc
 refine ⟨fun b hb=>cd.2 ?_,fun id hid=> ?_⟩
 ·exact List.mem_flatten.2 ⟨c.names.1,List.mem_map.2 ⟨c.names,this,rfl⟩,hb⟩
 ·unfold mw.nu
  have:cE id (bF ops st o).r=true:=cd.2 (List.mem_append.2 (.inl (List.mem_flatten.2 ⟨c.names.2,List.mem_map.2 ⟨c.names,this,rfl⟩,hid⟩)))
  rw [this];rfl
theorem mw.bIn {st:St} {n:Nat} (hn:cE n (bF ops st o).b=true) {x:Bx} (hx:ax st.boxes n=some x):∀c∈x.cs,sf (bF ops st o) c:=by
 intro c hc id hid
 unfold mw.nu
 have hn:=cd.1 hn
 have:cE id (bF ops st o).r=true:=cd.2 (List.mem_append.2 (.inr (List.mem_flatten.2 ⟨p9 st n,List.mem_map.2 ⟨n,hn,rfl⟩,by
  simp only [p9,hx,List.mem_flatten,List.mem_map]
  exact ⟨_,⟨c,hc,rfl⟩,hid⟩⟩)))
 rw [this];rfl
theorem Ag.Y3 {st aE:St} (hs:∀n,(bF ops st o).zo n=true→ax aE.aA n=ax st.aA n) (hb:∀n,(bF ops st o).hasB n=true→ax aE.boxes n=ax st.boxes n)
 (hr:∀n,(bF ops st o).nu n=true→ax aE.roots n=ax st.roots n):Ag (bF ops st o) st aE:=
 ⟨hs,hb,hr,fun _ hn _ hv=>mw.sIn hn hv,fun _ hn _ hx=>mw.bIn hn hx⟩
theorem Ag.self (ops:Array Oper) (st:St) (o:Oper):Ag (bF ops st o) st st:=Ag.Y3 (fun _ _=>rfl) (fun _ _=>rfl) fun _ _=>rfl
theorem Jo {st:St}:∀x∈o.op.operands.toList,CF (bF ops st o) x:=by
 intro x hx t ht
 subst ht
 refine cd.2 ?_
 simp only [bF,List.mem_append,tmpsOf,List.mem_filterMap]
 exact .inl ⟨_,hx,rfl⟩
theorem Vi {st:St} {n:Nat} (h:fk ops o=some n):(eu ops st o).zo n=true:=by
 refine cd.2 ?_
 unfold eu
 cases Jg o
 ·simp only [cond_false]
  split<;>simp [bF,h]
 ·simp [h]
theorem Jp {st:St}:CG (bF ops st o) (o.dst.getD 0):=by
 simp [CG,bF,tg]
theorem ET (hN:E.lC) (o:Oper) (st:St) (k:Dl→Option R):eE E o st k=(eE E o st some).bind k:=
  TD (ρ:=fun x y=>x=y.bind k) (u:=bF #[] st o) rfl hN (Ag.self #[] st o) Jp Jo fun _=>rfl
def iD:Option Rt→Option Rt
 | some (.live r)=>some (.live ⟨r.t,.deep,r.ver,r.log,r.xs⟩)
 | y=>y
theorem G3 {id ver:Nat} (hb:iD (ax bt.roots id)=iD (ax st.roots id)) {k:cB→Option R} (hk:∀(r:cB) md,k ⟨r.t,md,r.ver,r.log,r.xs⟩=k r):jH st id ver k=jH bt id ver k:=by
 unfold jH
 cases h0:ax st.roots id with
 | none=>cases h1:ax bt.roots id with
  | none=>rfl
  | some y=>rw [h0,h1] at hb;cases y<;>simp [iD] at hb
 | some x=>
  cases h1:ax bt.roots id with
  | none=>rw [h0,h1] at hb;cases x<;>simp [iD] at hb
  | some y=>
   rw [h0,h1] at hb
   cases x<;>cases y<;>simp only [iD,Option.some.injEq,Rt.live.injEq,reduceCtorEq] at hb<;>try rfl
   rename_i r r'
   obtain ⟨t,md,ver,log,xs⟩:=r
   obtain ⟨t',md',IM,acG,Yc⟩:=r'
   simp only [cB.mk.injEq] at hb
   obtain ⟨rfl,_,rfl,rfl,hx⟩:=hb
   cases hx
   have:=hk ⟨t',md,IM,acG,Yc⟩ md'
   simp only at this ⊢
   rw [this]
structure XU (u:mw) (st aE:St):Prop where
 m:∀n,u.Qb n=true→iD (ax aE.roots n)=iD (ax st.roots n)
 s:∀n,u.zo n=true→ax aE.aA n=ax st.aA n
 b:∀n,u.hasB n=true→ax aE.boxes n=ax st.boxes n
 r:∀n,u.nu n=true→ax aE.roots n=ax st.roots n
theorem qo {x:Operand} (h:∀t,x = .tmp t→ax bt.aA t=ax st.aA t) (k:Sv→Option R):dk st x k=dk bt x k:=by
 cases x with
 | tmp t=>simp only [dk,h t rfl]
 | _=>rfl
theorem e7 {x:Operand} {c:Sc} (h:kN st x=some c):∃t,x = .tmp t∧ax st.aA t=some (.c (.one c)):=by
 unfold kN at h
 split at h
 ·split at h
  ·rename_i e;cases h;exact ⟨_,rfl,e⟩
  ·cases h
 ·cases h
theorem ur {x:Option Operand} (h:∀t,x=some (.tmp t)→ax bt.aA t=ax st.aA t) (d:Int) (k:Int→Option R):fu st x d k=fu bt x d k:=by
 cases x with
 | none=>rfl
 | some y=>exact qo (fun t ht=>h t (by rw [ht])) _
theorem Jq {m:List Nat} (hs:ug st o=some m) (A:XU { s:=(bF ops st o).s,b:=(bF ops st o).b,r:=[],d:=some (o.dst.getD 0),m } st bt) (k:Dl→Option R):eE E o st k=eE E o bt k:=by
 have C6:∀x∈o.op.operands.toList,∀t,x = .tmp t→ax bt.aA t=ax st.aA t:=by
  intro x hx t ht
  refine A.s t (cd.2 ?_)
  simp only [bF,List.mem_append,tmpsOf,List.mem_filterMap]
  exact .inl ⟨x,hx,by rw [ht]⟩
 unfold ug at hs
 split at hs<;>rename_i cc
 ·rw [cc] at C6
  split at hs
  ·rename_i e
   obtain ⟨t,rfl,e0⟩:=e7 e
   have e1:=C6 (.tmp t) (by simp [Op.operands]) t rfl
   rw [e0] at e1
   simp only [eE,cc,fr,dk,e0,e1,Option.bind_some,Sc.soft]
  ·cases hs
 ·rw [cc] at C6
  split at hs
  ·rename_i b off e
   obtain ⟨t,rfl,e0⟩:=e7 e
   have e1:=C6 (.tmp t) (by simp [Op.operands]) t rfl
   rw [e0] at e1
   have hb:ax bt.boxes b=ax st.boxes b:=by
    refine A.b b ?_
    unfold mw.hasB
    have:cE b (bF ops st o).b=true:=by
     refine cd.2 ?_
     simp only [bF,cc,List.mem_flatten,List.mem_map]
     refine ⟨[b],⟨([b],[]),⟨[([b],[])],⟨t,by simp [Op.operands,tmpsOf],by simp [e0,Sv.cells,Cm.cells,Sc.names]⟩,by simp⟩,rfl⟩,by simp⟩
    rw [this];rfl
   simp only [eE,cc,fr,dk,e0,e1,Option.bind_some,Sc.soft,loadAt,hb]
  ·cases hs
 ·rw [cc] at C6
  split at hs
  ·rename_i id ver iv e
   obtain ⟨t,rfl,e0⟩:=e7 e
   have e1:=C6 (.tmp t) (by simp [Op.operands]) t rfl
   rw [e0] at e1
   cases hs
   have hb:=A.m id (by simp [mw.Qb,cE])
   simp only [eE,cc,fr,dk,e0,e1,Option.bind_some,Sc.soft]
   congr 1
   funext ee
   refine (G3 hb (fun r md=>rfl)).trans ?_
   congr 1
   funext r
   congr 1
   refine (ur (fun t ht=>C6 (.tmp t) (by subst ht;simp [Op.operands]) t rfl) _ _).trans ?_
   congr 1
   funext l
   exact ur (fun t ht=>C6 (.tmp t) (by subst ht;simp [Op.operands]) t rfl) _ _
  ·cases hs
 ·rw [cc] at C6
  split at hs
  ·rename_i e
   obtain ⟨t,rfl,e0⟩:=e7 e
   have e1:=C6 (.tmp t) (by simp [Op.operands]) t rfl
   rw [e0] at e1
   simp only [eE,cc,fr,dk,e0,e1,Option.bind_some,Sc.soft]
  ·cases hs
 ·rw [cc] at C6
  split at hs
  ·rename_i y _ b off e
   obtain ⟨t,rfl,e0⟩:=e7 e
   have e1:=C6 (.tmp t) (by simp [Op.operands]) t rfl
   rw [e0] at e1
   have hb:ax bt.boxes b=ax st.boxes b:=by
    refine A.b b ?_
    unfold mw.hasB
    have:cE b (bF ops st o).b=true:=by
     refine cd.2 ?_
     simp only [bF,cc,List.mem_flatten,List.mem_map]
     refine ⟨[b],⟨([b],[]),⟨[([b],[])],⟨t,by simp [Op.operands,tmpsOf],by simp [e0,Sv.cells,Cm.cells,Sc.names]⟩,by simp⟩,rfl⟩,by simp⟩
    rw [this];rfl
   simp only [eE,cc,fr]
   congr 1
   congr 1
   funext t'
   simp only [dk,e0,e1,Option.bind_some,Sc.soft,hb]
   exact qo (fun t ht=>C6 y (by simp [Op.operands]) t ht) _
  ·cases hs
 ·cases hs
theorem xV (hN:E.lC) (A:XU (eu ops st o) st bt) (k:Dl→Option R):eE E o st k=eE E o bt k:=by
 cases hm:Jg o with
 | false=>
  cases hs:ug st o with
  | some m=>
   have e:eu ops st o={ s:=(bF ops st o).s,b:=(bF ops st o).b,r:=[],d:=some (o.dst.getD 0),m }:=by unfold eu;rw [hm,hs];rfl
   rw [e] at A
   exact Jq hs A k
  | none=>
  have e:eu ops st o=bF ops st o:=by unfold eu;rw [hm,hs];rfl
  rw [e] at A
  exact TD (ρ:=fun x y=>x=y) rfl hN (Ag.Y3 A.s A.b A.r) Jp Jo fun _=>rfl
 | true=>
  have hs:∀x∈o.op.operands.toList,∀t,x = .tmp t→ax bt.aA t=ax st.aA t:=by
   intro x hx t ht
   refine A.s t ?_
   unfold eu
   rw [hm]
   refine cd.2 ?_
   simp only [cond_true,List.mem_append,tmpsOf,List.mem_filterMap]
   exact .inl ⟨x,hx,by rw [ht]⟩
  unfold Jg at hm
  cases cc:o.op with
  | move x=>
   rw [cc] at hs
   simp only [eE,cc]
   exact qo (fun t ht=>hs x (by simp [Op.operands]) t ht) _
  | assign x=>
   rw [cc] at hs
   simp only [eE,cc]
   exact qo (fun t ht=>hs x (by simp [Op.operands]) t ht) _
  | _=>rw [cc] at hm;cases hm
def CH (E:Env) (ops:Array Oper) (o:Oper) (st:St) (d:Dl):Prop:=
  match o.guard with
 | none=>eE E o st some=some d
 | some (_,want)=>∃n,fk ops o=some n∧((∃ b,ax st.aA n=some (.c (.one (.v (.bool b))))∧if b=want then eE E o st some=some d else d=lB o)∨(ax st.aA n=some (.xx [])∧d=lB o))
theorem qn.dB {n:Nat} {b:Bool} (h:ax st.aA n=some (.c (.one (.v (.bool b))))):qn st (st.dB n b):=by
 refine ⟨?_,rfl,rfl⟩
 funext m
 simp only [St.dB,aF]
 split
 ·rename_i e;rw [e,h]
 ·rfl
theorem EU (hN:E.lC) {k:St→Dl→Option R} {r:R} (h:evO E ops o st k=some r):∃bt d,qn st bt∧k bt d=some r∧CH E ops o bt d:=by
  unfold evO at h
  unfold CH
  cases hg:o.guard with
  | none=>
    simp only [hg] at h ⊢
    rw [ET hN] at h
    obtain ⟨d,hd,hk⟩:=Option.bind_eq_some_iff.1 h
    exact ⟨st,d,.refl st,hk,hd⟩
  | some jw=>
    obtain ⟨j,want⟩:=jw
    simp only [hg] at h ⊢
    obtain ⟨n,hn,h⟩:=Option.bind_eq_some_iff.1 h
    split at h
    · rename_i b hb
      have hS:=qn.dB hb
      have gB:ax (st.dB n b).aA n=some (.c (.one (.v (.bool b)))):=by rw [← hS.s];exact hb
      have:∃d,qn st (st.dB n b)∧k (st.dB n b) d=some r∧∃b',ax (st.dB n b).aA n=some (.c (.one (.v (.bool b'))))∧if b'=want then eE E o (st.dB n b) some=some d else d=lB o:=by
        cases b<;>cases want<;>simp only [cond_true,cond_false] at h
        all_goals
          first
            | (rw [ET hN] at h
               obtain ⟨d,hd,hk⟩:=Option.bind_eq_some_iff.1 h
               exact ⟨d,hS,hk,_,gB,by simpa using hd⟩)
            | exact ⟨_,hS,h,_,gB,by simp⟩
      obtain ⟨d,h1,h2,h3⟩:=this
      exact ⟨st.dB n b,d,h1,h2,n,hn,.inl h3⟩
    · rename_i hb
      exact ⟨st,_,.refl st,h,n,hn,.inr ⟨hb,rfl⟩⟩
    · cases h
theorem CH.move (hN:E.lC) {d:Dl} (h:CH E ops o st d) (A:XU (eu ops st o) st bt):CH E ops o bt d:=by
 unfold CH at *
 split at h
 ·rw [← xV hN A];exact h
 ·obtain ⟨n,h1,h⟩:=h
  refine ⟨n,h1,?_⟩
  rw [A.s n (Vi h1),←xV hN A];exact h
theorem Oper.Vj {K:Act→World→Prop} (h:o.wp P a w K Q):o.wp P a w (fun a' w'=>K a' w'∧∃v,a'.tmps=(a.put o.dst v).tmps) Q:=by
  unfold Oper.wp at *
  generalize (execOp a.eval o).run P w=r at *
  have acH:∀(d:Deferred) (v:Value),(({ a with defers:=d::a.defers }:Act).put o.dst v).tmps=(a.put o.dst v).tmps:=fun d v=>by cases o.dst<;>rfl
  cases r with
  | ok n w'=>
    cases n<;>simp only [Oper.upon] at h ⊢ <;>
      first
        | exact ⟨h,_,rfl⟩
        | exact ⟨h,_,acH _ _⟩
        | exact Calls.mono h (fun e w'' he=>by cases e<;>first | exact ⟨he,_,rfl⟩ | exact he)
        | exact Rows.mono h (fun _ _ he=>⟨he,_,rfl⟩)
  | halt x w'=>cases x<;>simp only [Oper.upon] at h ⊢ <;>exact h
def qp (J:Array Value→Prop) (o:Oper):Prop:=∀(a:Act) v,J a.tmps→J (a.put o.dst v).tmps
theorem ry (hE:E.Ok P) (hW:tH P g.n.wl) {J:Array Value→Prop} (EV:qp J o) (hJ:J a.tmps) (I:Inv w0 Mf g st a w) (hd:∀d,o.dst=some d→d<g.n.sz) {i:Nat} (hi:ops[i]? =some o) {d:Dl} (h:CH E ops o st d)
 (hK:∀g' a' w',g'.n=g.n→Inv w0 Mf g' (st.apply d) a' w'→J a'.tmps→K a' w'):wpOp P ops Q i K a w:=by
 unfold wpOp
 simp only [hi]
 have hT:Then w0 Mf g st some d (fun a' w'=>J a'.tmps→K a' w'):=fun δ g' a' w' h1 h2 h3=>by cases h1;exact hK g' a' w' h2 h3
 have fin:o.wp P a w (fun a' w'=>J a'.tmps→K a' w') Q→o.wp P a w K Q:=fun h=>Oper.wp_mono (fun a' w' ⟨h1,v,h2⟩=>h1 (by rw [h2];exact EV a v hJ)) (Oper.Vj h)
 have EM:d=lB o→K (a.put o.dst undef) w:=fun e=>by
  subst e
  exact hK g _ _ rfl (I.CR (s:= .xx []) (v:=undef) hd ⟨#[],rfl,rfl,fun _ _ h=>by simp at h⟩) (EV a _ hJ)
 unfold CH at h
 cases hg:o.guard with
 | none=>
  simp only [hg] at h
  simp only [Region.wanted,hg,if_true]
  exact .inl (fin (lZ hE hW I hd hT h))
 | some jw=>
  obtain ⟨j,want⟩:=jw
  simp only [hg] at h
  obtain ⟨n,h1,h⟩:=h
  rcases h with ⟨b,h2,h3⟩ | ⟨h2,h3⟩
  ·have hy:yielded ops a.tmps j=some b:=by
    obtain ⟨v,hv,hr⟩:=I.aA n _ h2
    have Tr:v = .bool b:=hr.2
    subst Tr
    simp only [fk,hg] at h1
    simp only [yielded,h1,Option.bind_some,hv]
   simp only [Region.wanted,hg,hy]
   by_cases e:b=want
   ·simp only [e,if_true] at h3
    simp only [e,beq_self_eq_true,if_true]
    exact .inl (fin (lZ hE hW I hd hT h3))
   ·simp only [e,if_false] at h3
    have:(some b==some want)=false:=by simpa using e
    simp only [this,Bool.false_eq_true,if_false]
    exact EM h3
  ·have hy:yielded ops a.tmps j=none:=by
    obtain ⟨v,hv,us,hr,_⟩:=I.aA n _ h2
    subst hr
    simp only [fk,hg] at h1
    simp only [yielded,h1,Option.bind_some,hv]
   simp only [Region.wanted,hg,hy]
   have:((none:Option Bool)==some want)=false:=rfl
   simp only [this,Bool.false_eq_true,if_false]
   exact EM h3
theorem xW (hE:E.Ok P) (hN:E.lC) {J:Array Value→Prop} (EV:∀o∈ops.toList,qp J o) {n:Fx} (hW:tH P n.wl) (hd:∀o∈ops.toList,∀d,o.dst=some d→d<n.sz) {k:St→Option R} {r:R}
 (hK:∀g' aE a' w',k aE=some r→g'.n=n→Inv w0 Mf g' aE a' w'→J a'.tmps→Q .normal a' w'):
    ∀(l:List Oper) (i:Nat) {g:Gh} {st:St} {a:Act} {w:World},ops.toList.drop i=l→EO E ops l st k=some r→g.n=n→Inv w0 Mf g st a w→J a.tmps→wpOps P ops Q (List.range' i l.length) a w
 | [],i,g,st,a,w,hl,h,hn,I,hJ=>by
  simp only [List.length_nil,List.range'_zero,wpOps]
  exact hK g st a w h hn I hJ
 | o::l,i,g,st,a,w,hl,h,hn,I,hJ=>by
  have mZ:ops.toList[i]? =some o:=by
   have:=congrArg (fun m=>m[0]?) hl
   simpa [List.getElem?_drop] using this
  have hi:ops[i]? =some o:=by simpa using mZ
  simp only [List.length_cons,List.range'_succ,wpOps_cons]
  simp only [EO] at h
  obtain ⟨bt,d,hS,hk,hD⟩:=EU hN h
  refine ry hE (by rw [hn];exact hW) (EV o (List.mem_of_getElem? mZ)) hJ (hS.inv I) (fun d Jr=>by rw [hn];exact hd o (List.mem_of_getElem? mZ) d Jr) hi hD fun g' a' w' Pn I' tj=> ?_
  exact xW hE hN EV hW hd hK l (i+1) (by rw [← List.drop_drop,hl];rfl) hk (Pn.trans hn) I' tj
end Go.Gm
namespace Go.Gm
open Go
variable {R : Type} {P : Program} {E : Env} {w0 w : World} {Mf : Nat → Prop} {g : Gh} {st st0 bt pJ : St} {a : Act} {Q : Exit → Act → World → Prop}
  {o:Oper} {ops:Array Oper} {K:Act→World→Prop}
section
variable {V : Type}
def w7 (p:Rec→Bool) (f:Rec→Option V):List Rec→Option V→Option V
 | [],v=>v
 | x::L,v=>w7 p f L (cond (p x) ((f x).or v) v)
theorem e8 {p:Rec→Bool} {f:Rec→Option V}:∀ {L M:List Rec} {v:Option V},w7 p f (L++M) v=w7 p f M (w7 p f L v)
 | [],_,_=>rfl
 | _::L,_,_=>e8 (L:=L)
theorem dH {p q:Rec→Bool} {f:Rec→Option V}:∀ {L:List Rec} {v:Option V},(∀ x∈L,p x≠q x→f x=none)→w7 p f L v=w7 q f L v
 | [],_,_=>rfl
 | x::L,v,h=>by
  simp only [w7]
  have e:cond (p x) ((f x).or v) v=cond (q x) ((f x).or v) v:=by
   by_cases hpq:p x=q x
   ·rw [hpq]
   ·rw [h x (by simp) hpq];cases p x<;>cases q x<;>rfl
  rw [e]
  exact dH fun y hy=>h y (by simp [hy])
theorem mb {p:Rec→Bool} {f:Rec→Option V}:∀ {L:List Rec} {v:Option V},(∀ x∈L,p x=true→f x=none)→w7 p f L v=v
 | [],_,_=>rfl
 | x::L,v,h=>by
  simp only [w7]
  rw [mb fun y hy=>h y (by simp [hy])]
  cases hp:p x with
  | true=>rw [h x (by simp) hp];rfl
  | false=>rfl
theorem nK {p q:Rec→Bool} {f:Rec→Option V} {x0:Rec} (hp:p x0=false) (PX:q x0=true):∀ {L:List Rec} {v:Option V},x0∈L→(L.map (·.i)).Pairwise (· < ·)→
 (∀ x∈L,x.i≠x0.i→q x=p x)→(∀ x∈L,x0.i<x.i→p x=true→f x0=none∨f x=none)→w7 q f L v=(f x0).or (w7 p f L v)
 | [],_,h,_,_,_=>by simp at h
 | x::L,v,h,hs,hq,hc=>by
  have fv:(∀ y∈L,x.i<y.i)∧(L.map (·.i)).Pairwise (· < ·):=by simpa using hs
  simp only [w7]
  rcases List.mem_cons.1 h with rfl | hm
  ·rw [hp,PX]
   simp only [cond_true,cond_false]
   have e1:∀v,w7 q f L v=w7 p f L v:=fun v=>dH fun y hy dP=>absurd (hq y (by simp [hy]) (by have:=fv.1 y hy;omega)) dP
   rw [e1]
   cases hf:f x0 with
   | none=>rfl
   | some z=>
    simp only [Option.some_or]
    exact mb fun y hy hpy=>(hc y (by simp [hy]) (fv.1 y hy) hpy).resolve_left (by simp [hf])
  ·have dP:x.i≠x0.i:=by have:=fv.1 x0 hm;omega
   rw [hq x (by simp) dP]
   exact nK hp PX hm fv.2 (fun y hy=>hq y (by simp [hy])) fun y hy=>hc y (by simp [hy])
end
def fS (n:Nat) (d:Dl):Option Sv:=match d.slot with | some (s,v)=>if n=s then some v else none | none=>none
def fB (n:Nat) (d:Dl):Option Bx:=ax (cg [] d.boxes) n
def fR (n:Nat) (d:Dl):Option Rt:=ax (cg [] d.roots) n
theorem EW (st:St) (d:Dl) (n:Nat):ax (st.apply d).aA n=(fS n d).or (ax st.aA n):=by
 unfold fS St.apply
 cases d.slot with
 | none=>rfl
 | some sv=>
  obtain ⟨s,v⟩:=sv
  simp only [aF]
  split<;>rfl
theorem EX (st:St) (d:Dl) (n:Nat):ax (st.apply d).boxes n=(fB n d).or (ax st.boxes n):=dG d.boxes st.boxes n
theorem zx (st:St) (d:Dl) (n:Nat):ax (st.apply d).roots n=(fR n d).or (ax st.roots n):=dG d.roots st.roots n
theorem qq {α:Type}:∀ {L l:List (Nat×α)} {n:Nat},n ∉ L.map (·.1)→ax (cg l L) n=ax l n
  | [],_,_,_=>rfl
  | (m,v)::L,l,n,h=>by
    simp only [List.map_cons,List.mem_cons,not_or] at h
    simp only [cg]
    rw [qq h.2,bX _ _ h.1]
theorem Js {n:Nat} {d:Dl} (h:n ∉ d.nH):fS n d=none:=by
 unfold fS;unfold Dl.nH at h
 split<;>rename_i e<;>simp only [e] at h
 ·simp only [List.mem_singleton] at h;simp [h]
 ·rfl
theorem TE {n:Nat} {d:Dl} (h:n ∉ d.uh):fB n d=none:=by unfold fB;rw [qq h];rfl
theorem xX {n:Nat} {d:Dl} (h:n ∉ d.lA):fR n d=none:=by unfold fR;rw [qq h];rfl
abbrev rS (n:Nat) (x:Rec):Option Sv:=fS n x.d
abbrev rB (n:Nat) (x:Rec):Option Bx:=fB n x.d
abbrev rR (n:Nat) (x:Rec):Option Rt:=fR n x.d
def rM (n:Nat) (x:Rec):Option (Option Rt):=cond (cE n x.ms) none ((fR n x.d).map fun y=>iD (some y))
def Dh (st:St) (ms:List Nat) (d:Dl):Prop:=∀n,cE n ms=true→∃y,fR n d=some y∧iD (some y)=iD (ax st.roots n)
theorem Bb {x:Rec} (h:Dh st x.ms x.d) (n:Nat):some (iD (ax (st.apply x.d).roots n))=(rM n x).or (some (iD (ax st.roots n))):=by
 rw [zx]
 unfold rM
 cases hm:cE n x.ms with
 | true=>
  obtain ⟨y,h1,h2⟩:=h n hm
  rw [h1]
  simp only [Option.some_or,cond_true,Option.none_or,h2]
 | false=>
  cases h1:fR n x.d<;>simp
structure Lk (st0:St) (p:Rec→Bool) (L:List Rec) (st:St):Prop where
 s:∀n,ax st.aA n=w7 p (rS n) L (ax st0.aA n)
 b:∀n,ax st.boxes n=w7 p (rB n) L (ax st0.boxes n)
 r:∀n,ax st.roots n=w7 p (rR n) L (ax st0.roots n)
 m:∀n,some (iD (ax st.roots n))=w7 p (rM n) L (some (iD (ax st0.roots n)))
theorem Lk.same {p:Rec→Bool} {L:List Rec} (h:Lk st0 p L st) (hS:qn st bt):Lk st0 p L bt:=
 ⟨fun n=>by rw [← hS.s];exact h.s n,fun n=>by rw [← hS.b];exact h.b n,fun n=>by rw [← hS.r];exact h.r n,fun n=>by rw [← hS.r];exact h.m n⟩
theorem Lk.congr {p q:Rec→Bool} {L:List Rec} (h:Lk st0 p L st) (e:∀x∈L,p x=q x):Lk st0 q L st:=
 ⟨fun n=>(h.s n).trans (dH fun x hx dP=>absurd (e x hx) dP),fun n=>(h.b n).trans (dH fun x hx dP=>absurd (e x hx) dP),fun n=>(h.r n).trans (dH fun x hx dP=>absurd (e x hx) dP),fun n=>(h.m n).trans (dH fun x hx dP=>absurd (e x hx) dP)⟩
theorem Lk.eq {p:Rec→Bool} {L:List Rec} (h:Lk st0 p L st) (h':Lk st0 p L bt):qn st bt:=
 ⟨funext fun n=>(h.s n).trans (h'.s n).symm,funext fun n=>(h.b n).trans (h'.b n).symm,funext fun n=>(h.r n).trans (h'.r n).symm⟩
theorem Lk.snoc {L:List Rec} (h:Lk st0 (fun _=>true) L st) (x:Rec) (hx:Dh st x.ms x.d):Lk st0 (fun _=>true) (L++[x]) (st.apply x.d):=
 ⟨fun n=>by rw [e8,EW,h.s n];rfl,fun n=>by rw [e8,EX,h.b n];rfl,fun n=>by rw [e8,zx,h.r n];rfl,fun n=>by rw [e8,Bb hx,h.m n];rfl⟩
theorem Lk.more {p:Rec→Bool} {L:List Rec} (h:Lk st0 p L st) {x:Rec} (hx:p x=false):Lk st0 p (L++[x]) st:=
 ⟨fun n=>by rw [e8];simp only [w7,hx,cond_false];exact h.s n,fun n=>by rw [e8];simp only [w7,hx,cond_false];exact h.b n,fun n=>by rw [e8];simp only [w7,hx,cond_false];exact h.r n,fun n=>by rw [e8];simp only [w7,hx,cond_false];exact h.m n⟩
theorem Qf {n:Nat} {y:Rt} {rest:List (Nat×Rt)} {d:Dl} (hd:d.roots=(n,y)::rest) (h:cE n (rest.map (·.1))=false):fR n d=some y:=by
 unfold fR
 rw [hd]
 simp only [cg]
 rw [qq (fun hm=>by rw [cd.2 hm] at h;cases h)]
 simp [aF]
theorem Bc {e:Ty} {id ver lo hi:Nat} {k:List (El e)→Bool→St→List (Nat×Rt)→Option R} {r:R} (h:kJ st e (.vw id ver lo hi) k=some r):
    ∃ys dd aE u,k ys dd aE u=some r∧∀n y rest,u=(n,Rt.live y)::rest→rest=[]∧n=id∧∃(x:cB) (md:Md),ax st.roots id=some (.live x)∧y=⟨x.t,md,x.ver,x.log,x.xs⟩:=by
 unfold kJ at h
 split at h
 ·simp only [oU] at h
  unfold jH at h
  split at h
  ·obtain ⟨_,h⟩:=a8 h
   obtain ⟨_,h⟩:=a8 h
   obtain ⟨xs,_,h⟩:=Option.bind_eq_some_iff.1 h
   exact ⟨_,_,_,_,h,fun _ _ _ hu=>by cases hu⟩
  ·cases h
 ·simp only [xD] at h
  unfold jH at h
  split at h
  ·rename_i x hx
   obtain ⟨_,h⟩:=a8 h
   simp only at h
   cases ht:x.md.rZ lo 0 with
   | true=>
    rw [ht] at h
    obtain ⟨xs,_,h⟩:=Option.bind_eq_some_iff.1 h
    refine ⟨_,_,_,_,h,fun n y rest hu=> ?_⟩
    cases hu
    exact ⟨rfl,rfl,x,_,hx,rfl⟩
   | false=>
    rw [ht] at h
    simp only [cond_false,jO,jH,hx] at h
    obtain ⟨_,h⟩:=a8 h
    obtain ⟨_,h⟩:=a8 h
    cases hf:x.md.cr with
    | true=>
     rw [hf] at h
     obtain ⟨xs,_,h⟩:=Option.bind_eq_some_iff.1 h
     exact ⟨_,_,_,_,h,fun _ _ _ hu=>by cases hu⟩
    | false=>
     rw [hf] at h
     obtain ⟨xs,_,h⟩:=Option.bind_eq_some_iff.1 h
     exact ⟨_,_,_,_,h,fun _ _ _ hu=>by cases hu⟩
  ·cases h
theorem Bd {n m:Nat} (h:cE n [m]=true):n=m:=by simpa using cd.1 h
theorem Jt {d:Dl} (h:eE E o st some=some d):Dh st (zp st o d) d:=by
 intro n hn
 unfold zp at hn
 split at hn
 ·rename_i c cc
  split at hn
  ·rename_i s x hc gD
   split at hn
   ·rename_i sc id ver lo hi m y rest hs hx hr
    cases ki:(Jh sc&&(Nat.beq m id&&(!rest.isEmpty&& !cE id (rest.map (·.1))))) with
    | false=>rw [ki] at hn;cases hn
    | true=>
     rw [ki] at hn
     simp only [Bool.and_eq_true,Bool.not_eq_true'] at ki
     obtain ⟨hp,Vk,dP,ID⟩:=ki
     have Vk:=Nat.eq_of_beq_eq_true Vk
     have acI:=Bd hn
     subst acI
     subst Vk
     refine ⟨_,Qf hr ID,?_⟩
     obtain ⟨ts,rfl,e0⟩:=e7 hs
     obtain ⟨tx,rfl,e1⟩:=e7 hx
     simp only [eE,cc,hc,eD,gD] at h
     obtain ⟨T,T',cU⟩:∃T T',c.argTypes.toList=[T,T']:=by
      rcases cU:c.argTypes.toList with _ | ⟨T,_ | ⟨T',_ | ⟨_,_⟩⟩⟩<;>rw [cU] at h
      ·cases h
      ·cases h
      ·exact ⟨_,_,rfl⟩
      ·cases h
     rw [cU] at h
     simp only at h
     obtain ⟨_,_,h⟩:=Option.bind_eq_some_iff.1 h
     unfold fr dk at h
     simp only [e0,e1,Option.bind_some] at h
     have hsx:∀a b c d,(Sc.vw a b c d).soft=Sc.vw a b c d:=fun _ _ _ _=>rfl
     rw [hsx] at h
     unfold lS at h
     split at h
     ·cases sc with
      | nl=>
       have EL:Sc.nl.soft=Sc.nl:=rfl
       rw [EL] at h
       simp only at h
       obtain ⟨ys,dd,aE,u,h,hu⟩:=Bc h
       obtain ⟨_,h⟩:=a8 h
       obtain ⟨r2,h⟩:∃r2:cB,d.roots=u++[(64*o.dst.getD 0,.live r2)]:=by
        unfold jU mkRoot at h
        split at h
        ·obtain ⟨_,h⟩:=a8 h;cases h;exact ⟨_,rfl⟩
        ·split at h
         ·cases h;exact ⟨_,rfl⟩
         ·cases h;exact ⟨_,rfl⟩
         ·cases h
       rw [hr] at h
       cases u with
       | nil=>cases h;cases dP
       | cons a u=>
        cases h
        obtain ⟨_,_,x,md,h1,rfl⟩:=hu _ _ _ rfl
        rw [h1];rfl
      | h Vl za iv2 p2=>
       cases p2 with
       | cons a b=>cases hp
       | nil=>
        have EL:(Sc.h Vl za iv2 []).soft=Sc.h Vl za iv2 []:=rfl
        rw [EL] at h
        simp only at h
        obtain ⟨ys,dd,aE,u,h,hu⟩:=Bc h
        obtain ⟨r2,h⟩:∃r2:cB,d.roots=u++[(Vl,.live r2)]:=by
         unfold jH at h
         split at h
         ·rename_i x2 _
          replace h:=(a8 h).2
          simp only at h
          cases hb:(x2.md.cr||x2.md.cW) with
          | true=>rw [hb] at h;cases h
          | false=>
           rw [hb] at h
           obtain ⟨_,_,h⟩:=Option.bind_eq_some_iff.1 h
           obtain ⟨_,h⟩:=a8 h
           cases h;exact ⟨_,rfl⟩
         ·cases h
        rw [hr] at h
        cases u with
        | nil=>cases h;cases dP
        | cons a u=>
         cases h
         obtain ⟨_,_,x,md,h1,rfl⟩:=hu _ _ _ rfl
         rw [h1];rfl
      | _=>cases hp
     ·cases h
   ·cases hn
  ·cases hn
 ·cases hn
theorem Ju {d:Dl} (h:CH E ops o st d):Dh st (zp st o d) d:=by
 have dead:Dh st (zp st o (lB o)) (lB o):=by
  intro n hn
  have:zp st o (lB o)=[]:=by
   unfold zp
   split
   ·split
    ·split
     ·rename_i hr;cases hr
     ·rfl
    ·rfl
   ·rfl
  rw [this] at hn;cases hn
 unfold CH at h
 split at h
 ·exact Jt h
 ·obtain ⟨n,_,h⟩:=h
  rcases h with ⟨b,_,h⟩ | ⟨_,h⟩
  ·split at h
   ·exact Jt h
   ·rw [h];exact dead
  ·rw [h];exact dead
def Fact (E:Env) (ops:Array Oper) (st0:St) (L:List Rec) (x:Rec):Prop:=
  ∃o bt,ops[x.i]? =some o∧CH E ops o bt x.d∧x.u=eu ops bt o∧Dh bt x.ms x.d∧Lk st0 (fun y=>Nat.blt y.i x.i) L bt∧x.lt=fA E bt o
theorem Be (hN:E.lC) {k:List Rec→St→Option R} {r:R}:∀(l:List Oper) (i:Nat) {st:St} (L:List Rec),ops.toList.drop i=l→i≤ops.toList.length→L.map (·.i)=List.range i→Lk st0 (fun _=>true) L st→
 (∀ x∈L,Fact E ops st0 L x)→zq E ops i l L.reverse st k=some r→
    ∃L' Jv,L'.map (·.i)=List.range ops.toList.length∧(∀ x∈L',Fact E ops st0 L' x)∧Lk st0 (fun _=>true) L' Jv∧k L'.reverse Jv=some r
 | [],i,st,L,hl,hle,hL,hk,hF,h=>by
  have hi:i=ops.toList.length:=by
   have:=congrArg List.length hl
   simp only [List.length_drop,List.length_nil] at this
   omega
  subst hi
  exact ⟨L,st,hL,hF,hk,h⟩
 | o::l,i,st,L,hl,hle,hL,hk,hF,h=>by
  have mZ:ops.toList[i]? =some o:=by
   have:=congrArg (fun m=>m[0]?) hl
   simpa [List.getElem?_drop] using this
  have hi:ops[i]? =some o:=by simpa using mZ
  simp only [zq] at h
  obtain ⟨bt,d,hS,h,hD⟩:=EU hN h
  have Ij:=hk.same hS
  let x:Rec:=⟨i,eu ops bt o,d,zp bt o d,fA E bt o⟩
  have ct:∀y∈L,y.i<i:=fun y hy=>by
   have:y.i∈L.map (·.i):=List.mem_map.2 ⟨y,hy,rfl⟩
   rw [hL] at this;simpa using this
  have hr:(⟨i,eu ops bt o,d,zp bt o d,fA E bt o⟩::L.reverse:List Rec)=(L++[x]).reverse:=by simp [x]
  rw [hr] at h
  have hlen:i<ops.toList.length:=by
   rcases Nat.lt_or_ge i ops.toList.length with h' | h'
   ·exact h'
   ·simp [List.getElem?_eq_none h'] at mZ
  refine Be hN l (i+1) (L++[x]) (by rw [← List.drop_drop,hl];rfl) hlen (by simp [hL,List.range_succ,x]) (Ij.snoc x (Ju hD)) (fun y hy=> ?_) h
  have Y4:Nat.blt i i=false:=by
   cases hb:Nat.blt i i with
   | false=>rfl
   | true=>rw [Nat.blt_eq] at hb;omega
  rcases List.mem_append.1 hy with hy | hy
  ·obtain ⟨o',s1,f1,f2,f3,f5,f4,f6⟩:=hF y hy
   refine ⟨o',s1,f1,f2,f3,f5,f4.more ?_,f6⟩
   have:=ct y hy
   show Nat.blt i y.i=false
   cases hb:Nat.blt i y.i with
   | false=>rfl
   | true=>rw [Nat.blt_eq] at hb;omega
  ·have hyx:y=x:=by simpa using hy
   subst hyx
   refine ⟨o,bt,hi,hD,rfl,Ju hD,Lk.more ?_ Y4,rfl⟩
   exact Ij.congr fun z hz=>by
    have:=ct z hz
    show true=Nat.blt z.i i
    exact (by rw [Nat.blt_eq];exact this:Nat.blt z.i i=true).symm
theorem Bf (acc:List Nat):∀(es:List Edge) (s:Nat) (x:Nat),Nat.testBit (es.foldl (fun s e=>cond (Region.binds .any e) (s ||| (2^e.on ||| acc.getD e.on 0)) s) s) x=true→
    Nat.testBit s x=true∨∃e∈es,Region.binds .any e=true∧(x=e.on∨(e.on<acc.length∧Nat.testBit (acc.getD e.on 0) x=true))
 | [],s,x,h=> .inl h
 | e::es,s,x,h=>by
  rcases Bf acc es _ x h with h | ⟨e',h1,h2⟩
  ·cases hb:Region.binds .any e with
   | false=>simp only [hb,cond_false] at h;exact .inl h
   | true=>
    simp only [hb,cond_true,Nat.testBit_or,Bool.or_eq_true,Nat.testBit_two_pow,decide_eq_true_eq] at h
    rcases h with h | h | h
    ·exact .inl h
    ·exact .inr ⟨e,by simp,hb,.inl h.symm⟩
    ·refine .inr ⟨e,by simp,hb,.inr ⟨?_,h⟩⟩
     rcases Nat.lt_or_ge e.on acc.length with h' | h'
     ·exact h'
     ·simp [List.getD,List.getElem?_eq_none h'] at h
  ·exact .inr ⟨e',by simp [h1],h2⟩
theorem Jw {l m:List Nat} {i:Nat} (h:i<l.length):(l++m).getD i 0=l.getD i 0:=by
 simp [List.getD,List.getElem?_append_left h]
theorem uu:∀(l:List Oper) (acc:List Nat),(∀ i,i<acc.length→(kl l acc).getD i 0=acc.getD i 0)∧
    ∀j o,l[j]? =some o→∀x,Nat.testBit ((kl l acc).getD (acc.length+j) 0) x=true→
      ∃e∈o.after.toList,Region.binds .any e=true∧(x=e.on∨(e.on<acc.length+j∧Nat.testBit ((kl l acc).getD e.on 0) x=true))
 | [],acc=>⟨fun _ _=>rfl,fun j o h=>by simp at h⟩
 | o::l,acc=>by
  simp only [kl]
  generalize hv:o.after.toList.foldl (fun s e=>cond (Region.binds .any e) (s ||| (2^e.on ||| acc.getD e.on 0)) s) 0=v
  obtain ⟨h1,h2⟩:=uu l (acc++[v])
  have Au:∀i,i<acc.length→(kl l (acc++[v])).getD i 0=acc.getD i 0:=fun i hi=>by
   rw [h1 i (by simp;omega),Jw hi]
  refine ⟨Au,fun j o' hj x hx=> ?_⟩
  cases j with
  | zero=>
   simp only [List.getElem?_cons_zero,Option.some.injEq] at hj
   subst hj
   rw [Nat.add_zero,h1 acc.length (by simp)] at hx
   have hx:Nat.testBit v x=true:=by simpa [List.getD] using hx
   rw [← hv] at hx
   rcases Bf acc _ 0 x hx with h | ⟨e,he,hb,h⟩
   ·simp at h
   ·refine ⟨e,he,hb,h.imp (fun h=>h) fun ⟨h3,h4⟩=>⟨by omega,by rw [Au _ h3];exact h4⟩⟩
  | succ j=>
   have e:acc.length+(j+1)=(acc++[v]).length+j:=by simp;omega
   rw [e] at hx ⊢
   exact h2 j o' (by simpa using hj) x hx
def uv (ops:Array Oper) (t:Nat→Bool):Prop:=∀(j:Nat) o,ops[j]? =some o→t j=true→∀e∈o.after,Region.binds .any e=true→t e.on=true
theorem iE {t:Nat→Bool} (hc:uv ops t):∀(n i:Nat),i<n→∀o,ops[i]? =some o→(∀ e∈o.after,Region.binds .any e=true→t e.on=true)→∀x,Nat.testBit ((eh ops).getD i 0) x=true→t x=true
 | 0,_,h=>by omega
 | n+1,i,h=>fun o hi eO x hx=>by
  obtain ⟨e,he,hb,hor⟩:=(uu ops.toList []).2 i o (by simpa using hi) x (by simpa [eh] using hx)
  have Yu:e∈o.after:=by simpa using he
  have CI:=eO e Yu hb
  rcases hor with rfl | ⟨ct,acJ⟩
  ·exact CI
  ·simp only [List.length_nil,Nat.zero_add] at ct
   cases ho:ops[e.on]? with
   | none=>
    have ff:ops.size≤e.on:=by
     rcases Nat.lt_or_ge e.on ops.size with h' | h'
     ·simp [Array.getElem?_eq_getElem h'] at ho
     ·exact h'
    have:i<ops.size:=by
     rcases Nat.lt_or_ge i ops.size with h' | h'
     ·exact h'
     ·simp [Array.getElem?_eq_none h'] at hi
    omega
   | some oe=>exact iE hc n e.on (by omega) oe ho (fun e' Yu gB=>hc e.on oe ho CI e' Yu gB) x acJ
end Go.Gm
namespace Go.Gm
open Go
variable {R : Type} {P : Program} {E : Env} {w0 w : World} {Mf : Nat → Prop} {g : Gh} {st st0 bt pJ : St} {a : Act} {Q : Exit → Act → World → Prop}
  {o:Oper} {ops:Array Oper} {K:Act→World→Prop}
theorem mH:∀ {l:List Oper} {i:Nat},qk i l=true→∀(j:Nat) o,l[j]? =some o→∀e∈o.after,Region.binds .any e=true→e.on<i+j
 | [],_,_,j,o,h=>by simp at h
 | o::l,i,h,j,o',hj=>by
  simp only [qk,Bool.and_eq_true,List.all_eq_true,Bool.or_eq_true,Bool.not_eq_true'] at h
  obtain ⟨h1,h2⟩:=h
  cases j with
  | zero=>
   simp only [List.getElem?_cons_zero,Option.some.injEq] at hj
   subst hj
   intro e he hb
   have:=(h1 e (by simpa using he)).resolve_left (by simp [hb])
   rw [Nat.blt_eq] at this
   omega
  | succ j=>
   intro e he hb
   have:=mH h2 j o' (by simpa using hj) e he hb
   omega
theorem Jx {p q:Nat→Bool}:∀ {l:List Nat} {i:Nat},(∀ x,q x=true→p x=true)→i∈l→p i=true→q i=false→l.countP q<l.countP p
 | [],_,_,h,_,_=>by simp at h
 | x::l,i,EH,h,hp,hq=>by
  have hle:∀l:List Nat,l.countP q≤l.countP p:=fun l=>List.countP_mono_left fun x _=>EH x
  simp only [List.countP_cons]
  rcases List.mem_cons.1 h with rfl | h
  ·have:=hle l;simp [hp,hq];omega
  ·have:=Jx EH h hp hq
   cases hx:q x with
   | true=>simp [EH x hx];omega
   | false=>cases p x<;>simp<;>omega
def XV (ops:Array Oper) (listed:Array Bool):Nat:=(List.range ops.size).countP fun j=> !listed.getD j false
theorem mc {listed:Array Bool} {j:Nat} (h:j<listed.size):listed.getD j true=listed.getD j false:=by
 simp [h]
theorem xh {listed:Array Bool} {j:Nat} (h:j<listed.size) (d:Bool):(listed.setIfInBounds j true).getD j d=true:=by
 simp [h]
theorem pN (rz:qk 0 ops.toList=true) {listed:Array Bool} (hs:listed.size=ops.size) (hr:Region.ready .any ops listed=[]):
    ∀(n j:Nat),j<n→j<ops.size→listed.getD j false=true
 | 0,_,h,_=>by omega
 | n+1,j,hj,ct=>by
  cases hl:listed.getD j false with
  | true=>rfl
  | false=>
   have ho:ops[j]? =some ops[j]:=Array.getElem?_eq_getElem ct
   have:j∈Region.ready .any ops listed:=mem_ready.2 ⟨by rw [mc (by omega)];exact hl,ops[j],ho,fun e he hb=>by
    have:=mH rz j ops[j] (by simp) e he hb
    exact pN rz hs hr n e.on (by omega) (by omega)⟩
   rw [hr] at this;cases this
theorem Rec.EY {x y:Rec} (h:x.clear y=true) {n:Nat} (hn:y.u.zo n=true∨n∈y.d.nH):fS n x.d=none:=by
 refine Js fun hm=> ?_
 simp only [Rec.clear,Bool.and_eq_true,List.all_eq_true] at h
 have:=h.1 n hm
 simp only [Bool.not_eq_true',Bool.or_eq_false_iff] at this
 rcases hn with hn | hn
 ·rw [this.2] at hn;cases hn
 ·rw [cd.2 hn] at this;cases this.1
theorem Rec.EZ {x y:Rec} (h:x.clear y=true) {n:Nat} (hn:y.u.hasB n=true∨n∈y.d.uh):fB n x.d=none:=by
 refine TE fun hm=> ?_
 simp only [Rec.clear,Bool.and_eq_true,List.all_eq_true] at h
 have:=h.2.1 n hm
 simp only [Bool.not_eq_true',Bool.or_eq_false_iff] at this
 rcases hn with hn | hn
 ·rw [this.2] at hn;cases hn
 ·rw [cd.2 hn] at this;cases this.1
theorem Rec.E0 {x y:Rec} (h:x.clear y=true) {n:Nat} (hn:y.u.nu n=true∨n∈y.d.lA):fR n x.d=none:=by
 refine xX fun hm=> ?_
 simp only [Rec.clear,Bool.and_eq_true,List.all_eq_true] at h
 have:=h.2.2 n hm
 simp only [Bool.not_eq_true',Bool.or_eq_false_iff] at this
 rcases hn with hn | hn
 ·rw [this.2.1] at hn;cases hn
 ·rw [cd.2 hn] at this;cases this.1
theorem Rec.zy {x y:Rec} (h:x.clear y=true) {n:Nat} (hn:y.u.Qb n=true∨n∈y.d.lA):rM n x=none:=by
 unfold rM
 cases Qg:cE n x.ms with
 | true=>rfl
 | false=>
  have:fR n x.d=none:=xX fun hm=>by
   simp only [Rec.clear,Bool.and_eq_true,List.all_eq_true] at h
   have:=h.2.2 n hm
   simp only [Bool.not_eq_true',Bool.or_eq_false_iff] at this
   rcases hn with hn | hn
   ·have:=this.2.2
    rw [hn,Qg] at this;cases this
   ·rw [cd.2 hn] at this;cases this.1
  rw [this];rfl
theorem Y5 {n:Nat} {x:Rec} (h:n ∉ x.d.lA):rM n x=none:=by
 unfold rM
 rw [xX h]
 cases cE n x.ms<;>rfl
theorem uw {V:Type} {f:Dl→Option V} {d d':Dl} {t:Dl→List Nat} {n:Nat} (na:n ∉ t d→f d=none) (h:n∈t d→f d'=none):f d=none∨f d'=none:=by
 by_cases hm:n∈t d
 ·exact .inr (h hm)
 ·exact .inl (na hm)
theorem ew {listed:Array Bool} {i:Nat} (h:i<listed.size) (j:Nat):(listed.setIfInBounds i true).getD j false=if j=i then true else listed.getD j false:=by
 by_cases e:i=j
 ·subst e;rw [xh h];simp
 ·rw [getD_set_ne false e,if_neg (Ne.symm e)]
theorem nL {listed:Array Bool} {i:Nat} (h:i<listed.size) (mD:uv ops (fun j=>listed.getD j false)) {o:Oper} (ho:ops[i]? =some o) (eO:∀e∈o.after,Region.binds .any e=true→listed.getD e.on false=true):
    uv ops (fun j=>(listed.setIfInBounds i true).getD j false):=by
 intro j oj Vm hj e he hb
 simp only [ew h] at hj ⊢
 by_cases ej:j=i
 ·subst ej
  have:oj=o:=by rw [ho] at Vm;cases Vm;rfl
  subst this
  rw [eO e he hb];simp
 ·rw [if_neg ej] at hj
  have h5:listed.getD e.on false=true:=mD j oj Vm hj e he hb
  rw [h5];simp
theorem E1 {listed:Array Bool} {i:Nat} (h:i<listed.size) (hi:i<ops.size) (h0:listed.getD i false=false):XV ops (listed.setIfInBounds i true)<XV ops listed:=
  Jx (i:=i) (fun x hx=>by
    rw [ew h] at hx
    by_cases e:x=i
    · rw [if_pos e] at hx;cases hx
    · rw [if_neg e] at hx;exact hx) (by simpa using hi) (by simp only [h0];rfl) (by rw [ew h];simp)
theorem Qh {L:List Rec} (xk:nI ops L.reverse=true):∀x∈L,∀y∈L,x.i<y.i→Nat.testBit ((eh ops).getD y.i 0) x.i=true∨(x.clear y=true∧y.clear x=true):=by
 intro x hx y hy hxy
 simp only [nI,List.all_eq_true,List.mem_reverse] at xk
 have:=xk x hx y hy
 have hb:Nat.blt x.i y.i=true:=by rw [Nat.blt_eq];exact hxy
 simpa [Db,hb] using this
theorem qt (hN:E.lC) {L:List Rec} (CJ:L.map (·.i)=List.range ops.toList.length) (hF:∀x∈L,Fact E ops st0 L x) (xk:nI ops L.reverse=true)
    {listed:Array Bool} (hs:listed.size=ops.size) (mD:uv ops (fun j=>listed.getD j false)) {x0:Rec} (G4:x0∈L) (h0:listed.getD x0.i false=false) {o':Oper} (ho:ops[x0.i]? =some o')
 (me:∀e∈o'.after,Region.binds .any e=true→listed.getD e.on false=true) {σ:St} (hσ:Lk st0 (fun x=>listed.getD x.i false) L σ):
    ∃s1,XU (eu ops s1 o') s1 σ∧x0.lt=fA E s1 o'∧CH E ops o' σ x0.d∧Lk st0 (fun x=>(listed.setIfInBounds x0.i true).getD x.i false) L (σ.apply x0.d):=by
 have ct:∀x∈L,x.i<ops.size:=fun x hx=>by
  have:x.i∈L.map (·.i):=List.mem_map.2 ⟨x,hx,rfl⟩
  rw [CJ] at this;simpa using this
 have XW:(L.map (·.i)).Pairwise (· < ·):=by rw [CJ];exact List.pairwise_lt_range
 have tS:=Qh xk
 have Vn:x0.i<ops.size:=ct x0 G4
 obtain ⟨o1,s1,yQ,hD,hu,Qg,TF,qe⟩:=hF x0 G4
 have:o1=o':=by rw [ho] at yQ;cases yQ;rfl
 subst this
 have hah:∀x,Nat.testBit ((eh ops).getD x0.i 0) x=true→listed.getD x false=true:=iE mD (x0.i+1) x0.i (by omega) o1 ho me
 -- what is told of the others
 have acK:∀y∈L,y.i<x0.i→listed.getD y.i false=false→x0.clear y=true∧y.clear x0=true:=fun y hy ct tR=>by
  rcases tS y hy x0 G4 ct with h | h
  ·have:=hah _ h;rw [tR] at this;cases this
  ·exact ⟨h.2,h.1⟩
 have Jy:∀y∈L,x0.i<y.i→listed.getD y.i false=true→x0.clear y=true∧y.clear x0=true:=fun y hy qe uy=>by
  rcases tS x0 G4 y hy qe with h | h
  ·obtain ⟨oy,_,Y6,_⟩:=hF y hy
   have:=iE mD (y.i+1) y.i (by omega) oy Y6 (fun e he hb=>mD y.i oy Y6 uy e he hb) _ h
   simp only [h0] at this
   cases this
  ·exact h
 have Jz:∀y∈L,Nat.blt y.i x0.i≠listed.getD y.i false→y.clear x0=true:=fun y hy dP=>by
  rcases Nat.lt_trichotomy y.i x0.i with h | h | h
  ·have hb:Nat.blt y.i x0.i=true:=by rw [Nat.blt_eq];exact h
   rw [hb] at dP
   exact (acK y hy h (by cases h':listed.getD y.i false<;>simp_all)).2
  ·exfalso
   have hb:Nat.blt y.i x0.i=false:=by
    cases hb:Nat.blt y.i x0.i with
    | false=>rfl
    | true=>rw [Nat.blt_eq] at hb;omega
   rw [hb,h,h0] at dP
   exact dP rfl
  ·have hb:Nat.blt y.i x0.i=false:=by
    cases hb:Nat.blt y.i x0.i with
    | false=>rfl
    | true=>rw [Nat.blt_eq] at hb;omega
   rw [hb] at dP
   exact (Jy y hy h (by cases h':listed.getD y.i false<;>simp_all)).2
 have A:XU (eu ops s1 o1) s1 σ:=by
  rw [← hu]
  rw [hu]
  refine ⟨fun m hm=> ?_,fun m hm=> ?_,fun m hm=> ?_,fun m hm=> ?_⟩
  ·refine Option.some.inj ?_
   rw [TF.m m,hσ.m m];rw [← hu] at hm
   exact (dH fun y hy dP=>Rec.zy (Jz y hy dP) (.inl hm)).symm
  ·rw [TF.s m,hσ.s m];rw [← hu] at hm
   exact (dH fun y hy dP=>Rec.EY (Jz y hy dP) (.inl hm)).symm
  ·rw [TF.b m,hσ.b m];rw [← hu] at hm
   exact (dH fun y hy dP=>Rec.EZ (Jz y hy dP) (.inl hm)).symm
  ·rw [TF.r m,hσ.r m];rw [← hu] at hm
   exact (dH fun y hy dP=>Rec.E0 (Jz y hy dP) (.inl hm)).symm
 have xI:x0.i<listed.size:=by omega
 have sW:=ew xI
 refine ⟨s1,A,qe,hD.move hN A,?_⟩
 have Tm:(fun x:Rec=>listed.getD x.i false) x0=false:=h0
 have PX:(fun x:Rec=>(listed.setIfInBounds x0.i true).getD x.i false) x0=true:=by simp only [sW,if_true]
 have EH:∀x∈L,x.i≠x0.i→(fun x:Rec=>(listed.setIfInBounds x0.i true).getD x.i false) x=(fun x:Rec=>listed.getD x.i false) x:=fun x _ dP=>by simp only [sW,if_neg dP]
 have hσm:Dh σ x0.ms x0.d:=fun m hm=>by
  obtain ⟨y,h1,h2⟩:=Qg m hm
  refine ⟨y,h1,h2.trans (Option.some.inj ?_)⟩
  rw [TF.m m,hσ.m m]
  refine dH fun z hz dP=>Rec.zy (Jz z hz dP) (.inr ?_)
  exact Classical.byContradiction fun tR=>by rw [xX tR] at h1;cases h1
 refine ⟨fun m=> ?_,fun m=> ?_,fun m=> ?_,fun m=> ?_⟩
 rotate_left 3
 ·rw [Bb hσm,hσ.m m]
  exact (nK Tm PX G4 XW EH fun y hy qe uy=>by
   by_cases hm:m∈x0.d.lA
   ·exact .inr (Rec.zy (Jy y hy qe uy).2 (.inr hm))
   ·exact .inl (Y5 hm)).symm
 ·rw [EW,hσ.s m]
  exact (nK (f:=rS m) Tm PX G4 XW EH fun y hy qe uy=>uw (t:=Dl.nH) Js fun hm=>Rec.EY (Jy y hy qe uy).2 (.inr hm)).symm
 ·rw [EX,hσ.b m]
  exact (nK (f:=rB m) Tm PX G4 XW EH fun y hy qe uy=>uw (t:=Dl.uh) TE fun hm=>Rec.EZ (Jy y hy qe uy).2 (.inr hm)).symm
 ·rw [zx,hσ.r m]
  exact (nK (f:=rR m) Tm PX G4 XW EH fun y hy qe uy=>uw (t:=Dl.lA) xX fun hm=>Rec.E0 (Jy y hy qe uy).2 (.inr hm)).symm
theorem G5 (hE:E.Ok P) (hN:E.lC) {J:Array Value→Prop} (EV:∀o∈ops.toList,qp J o) {n:Fx} (hW:tH P n.wl) (hd:∀o∈ops.toList,∀d,o.dst=some d→d<n.sz) {L:List Rec} {Jv:St} (CJ:L.map (·.i)=List.range ops.toList.length)
 (hF:∀x∈L,Fact E ops st0 L x) (XX:Lk st0 (fun _=>true) L Jv) (rz:qk 0 ops.toList=true) (xk:nI ops L.reverse=true)
 (hK:∀g' a' w',g'.n=n→Inv w0 Mf g' Jv a' w'→J a'.tmps→Q .normal a' w'):
    ∀(fuel:Nat) (listed:Array Bool) {g:Gh} {a:Act} {w:World},listed.size=ops.size→uv ops (fun j=>listed.getD j false)→XV ops listed≤fuel→g.n=n→J a.tmps→
 (∃ σ,Lk st0 (fun x=>listed.getD x.i false) L σ∧Inv w0 Mf g σ a w)→wpAny P .any ops Q fuel listed a w:=by
 have ct:∀x∈L,x.i<ops.size:=fun x hx=>by
  have:x.i∈L.map (·.i):=List.mem_map.2 ⟨x,hx,rfl⟩
  rw [CJ] at this;simpa using this
 have final:∀ {listed:Array Bool} {g:Gh} {a:Act} {w:World},(∀ j,j<ops.size→listed.getD j false=true)→g.n=n→J a.tmps→(∃ σ,Lk st0 (fun x=>listed.getD x.i false) L σ∧Inv w0 Mf g σ a w)→Q .normal a w:=by
  intro listed g a w eO hg CK ⟨σ,hL,I⟩
  exact hK g a w hg (((hL.congr fun x hx=>eO x.i (ct x hx)).eq XX).inv I) CK
 intro fuel
 induction fuel with
 | zero=>
  intro listed g a w hs mD hc hg CK hJ
  have eO:∀j,j<ops.size→listed.getD j false=true:=by
   intro j hj
   cases hl:listed.getD j false with
   | true=>rfl
   | false=>
    have:0<XV ops listed:=List.countP_pos_iff.2 ⟨j,by simpa using hj,by simp only [hl];rfl⟩
    omega
  refine ⟨?_,final eO hg CK hJ⟩
  cases hr:Region.ready .any ops listed with
  | nil=>rfl
  | cons j rest=>
   have:j∈Region.ready .any ops listed:=by rw [hr];simp
   obtain ⟨h0,o,ho,_⟩:=mem_ready.1 this
   have hj:j<ops.size:=(Array.getElem?_eq_some_iff.1 ho).1
   rw [mc (by omega),eO j hj] at h0
   cases h0
 | succ fuel ih=>
  intro listed g a w hs mD hc hg CK hJ
  refine ⟨fun hr=>final (fun j hj=>pN rz hs hr (j+1) j (by omega) hj) hg CK hJ,fun i hi=> ?_⟩
  obtain ⟨h0,o,ho,eO⟩:=mem_ready.1 hi
  have Vn:i<ops.size:=(Array.getElem?_eq_some_iff.1 ho).1
  rw [mc (by omega)] at h0
  have me:∀e∈o.after,Region.binds .any e=true→listed.getD e.on false=true:=eO
  obtain ⟨x0,G4,rfl⟩:∃x∈L,x.i=i:=by
   have:i∈L.map (·.i):=by rw [CJ];simpa using Vn
   simpa using this
  obtain ⟨σ,hσ,I⟩:=hJ
  obtain ⟨s1,A,_,hD,TG⟩:=qt hN CJ hF xk hs mD G4 h0 ho me hσ
  have xI:x0.i<listed.size:=by omega
  exact ry hE (by rw [hg];exact hW) (EV o (by simpa using Array.mem_of_getElem? ho)) CK I (fun d Jr=>by rw [hg];exact hd o (by simpa using Array.mem_of_getElem? ho) d Jr) ho hD fun g' a' w' p7 I' G6=>
   ih _ (by simp [hs]) (nL xI mD ho me) (by have:=E1 xI Vn h0;omega) (p7.trans hg) G6 ⟨_,TG,I'⟩
theorem Inv.drawn (I:Inv w0 Mf g st a w) (n:Nat):Inv w0 Mf g st a { w with drawn:=n }:=
 ⟨I.aA,I.boxes,I.roots,⟨I.apart.rr,I.apart.rb,I.apart.bb,I.apart.dZ,I.apart.fL,I.apart.ck,I.apart.dA,I.apart.eb,I.apart.c7,I.apart.bU⟩,
 ⟨I.kept.os,I.kept.tape,I.kept.output,I.kept.same⟩,I.defers,I.size,I.base⟩
theorem Bg (w:World) {b b':Nat} (us us':Array Value) (h:b≠b'):(w.setRow b us).setRow b' us'=(w.setRow b' us').setRow b us:=by
 unfold World.setRow
 congr 1
 apply Array.ext_getElem?
 intro k
 simp only [Array.getElem?_modify]
 by_cases h1:b=k<;>by_cases h2:b'=k
 ·exact absurd (h1.trans h2.symm) h
 ·simp [h1,h2]
 ·simp [h1,h2]
 ·simp [h1,h2]
theorem xY {x:Operand} (k:Sv→Option R):dk st x k=(dk st x some).bind k:=by
 cases x with
 | tmp t=>simp only [dk];cases ax st.aA t<;>rfl
 | const v=>simp only [dk];cases oz v<;>rfl
 | func f=>rfl
 | global _=>rfl
structure Y7 (st:St) (o:Oper):Prop where
 x:∃T tx i id ver iv p,o.op = .indexAddr T (.tmp tx) i∧ax st.aA tx=some (.c (.one (.h id ver iv p)))
structure Bh (E:Env) (st:St) (o:Oper) (id:Nat):Prop where
 x:∃T tx y t ver iv p i off r s sv cs,o.op = .store T (.tmp tx) y∧o.dst=none∧E.code T=some t∧ax st.aA tx=some (.c (.one (.pe id ver iv p i off)))∧Vd st id ver iv p r∧EN r.md p=true∧
  sub r.t r.xs p=some s∧Nat.ble (off+aD t) (aD s.t)=true∧dk st y some=some sv∧eV t sv=some cs∧Nat.beq cs.length (aD t)=true
theorem ja {q:Bool×Nat} (h:fA E st o=some q):o.guard.isNone=true∧((q=(false,0)∧Y7 st o)∨∃id,q=(true,id)∧Bh E st o id):=by
 unfold fA at h
 replace h:=a8 h;obtain ⟨hg,h⟩:=h
 refine ⟨hg,?_⟩
 split at h
 ·rename_i T x i cc
  split at h
  ·rename_i id ver iv p hc
   obtain ⟨tx,rfl,hx⟩:=e7 hc
   cases h
   exact .inl ⟨rfl,⟨T,tx,i,id,ver,iv,p,cc,hx⟩⟩
  ·cases h
 ·rename_i T x y cc
  replace h:=a8 h;obtain ⟨hd,h⟩:=h
  replace h:=Option.bind_eq_some_iff.1 h;obtain ⟨t,hT,h⟩:=h
  split at h
  ·rename_i id ver iv p i off hc
   obtain ⟨tx,rfl,hx⟩:=e7 hc
   replace h:=da h;obtain ⟨r,hv,h⟩:=h
   replace h:=a8 h;obtain ⟨hn,h⟩:=h
   replace h:=Option.bind_eq_some_iff.1 h;obtain ⟨s,hs,h⟩:=h
   replace h:=a8 h;obtain ⟨hle,h⟩:=h
   rw [xY] at h
   replace h:=Option.bind_eq_some_iff.1 h;obtain ⟨sv,Vf,h⟩:=h
   replace h:=Option.bind_eq_some_iff.1 h;obtain ⟨cs,fe,h⟩:=h
   replace h:=a8 h;obtain ⟨hlen,h⟩:=h
   cases h
   exact .inr ⟨id,rfl,⟨T,tx,y,t,ver,iv,p,i,off,r,s,sv,cs,cc,Option.isNone_iff_eq_none.1 hd,hT,hx,hv,hn,hs,hle,Vf,fe,hlen⟩⟩
  ·cases h
 ·cases h
theorem sg (hs:∀t,Operand.tmp t∈o.op.operands.toList→ax bt.aA t=ax st.aA t) (hr:∀id,Bh E st o id→ax bt.roots id=ax st.roots id) {q:Bool×Nat}
 (h:fA E st o=some q):fA E bt o=some q:=by
 replace h:=ja h;obtain ⟨hg,h⟩:=h
 unfold fA
 rw [hg]
 rcases h with ⟨rfl,⟨T,tx,i,id,ver,iv,p,cc,hx⟩⟩ | ⟨id,rfl,hL⟩
 ·have:=hs tx (by simp [cc,Op.operands])
  rw [hx] at this
  simp only [cond_true,cc,kN,this]
 ·have hr:=hr id hL
  obtain ⟨T,tx,y,t,ver,iv,p,i,off,r,s,sv,cs,cc,hd,hT,hx,hv,hn,o8,hle,Vf,fe,hlen⟩:=hL
  have h1:=hs tx (by simp [cc,Op.operands])
  rw [hx] at h1
  have h2:dk bt y some=some sv:=by
   rw [← Vf]
   cases y with
   | tmp t=>simp only [dk,hs t (by simp [cc,Op.operands])]
   | _=>rfl
  have h3:Nat.beq r.ver ver=true:=by rw [hv.2.1];exact Nat.beq_refl ver
  have h4:∀k:Sv→Option (Bool×Nat),dk bt y k=k sv:=fun k=>by rw [xY,h2];rfl
  simp only [cond_true,cc,hd,Option.isNone_none,hT,Option.bind_some,kN,h1,j9,jH,hr,hv.1,h3,hv.2.2,hn,o8,hle,h4,fe,hlen]
theorem uz (A:XU (eu ops st o) st bt) {q:Bool×Nat} (h:fA E st o=some q):fA E bt o=some q:=by
 have hu:eu ops st o=bF ops st o:=by
  unfold eu Jg ug
  rcases (ja h).2 with ⟨_,⟨T,tx,i,id,ver,iv,p,cc,hx⟩⟩ | ⟨id,_,⟨T,tx,y,t,ver,iv,p,i,off,r,s,sv,cs,cc,_,_,hx,_⟩⟩
  ·simp only [cc,cond_false]
  ·simp only [cc,cond_false,kN,hx]
 rw [hu] at A
 have hs:∀t,Operand.tmp t∈o.op.operands.toList→ax bt.aA t=ax st.aA t:=fun t ht=>A.s t (cd.2 (by
  simp only [bF,List.mem_append,tmpsOf,List.mem_filterMap]
  exact .inl ⟨_,ht,rfl⟩))
 refine sg hs (fun id hid=>A.r id ?_) h
 obtain ⟨T,tx,y,t,ver,iv,p,i,off,r,s,sv,cs,cc,hd,hT,hx,_⟩:=hid
 unfold mw.nu
 have:cE id (bF ops st o).r=true:=cd.2 (by
  simp only [bF]
  refine List.mem_append.2 (.inl (List.mem_flatten.2 ⟨[id],List.mem_map.2 ⟨([],[id]),List.mem_flatten.2 ⟨[([],[id])],List.mem_map.2 ⟨tx,List.mem_append.2 (.inl ?_),?_⟩,by simp⟩,rfl⟩,by simp⟩))
  ·simp [cc,Op.operands,tmpsOf]
  ·simp [hx,Sv.cells,Cm.cells,Sc.names])
 rw [this];rfl
def acL (P:Program) (g:Gh) (id:Nat) (o:Oper) (a:Act) (w:World):Prop:=
  ∃b off us el vs,g.rf id b∧w.heap[b]? =some (.cells us el (0,0))∧∀w':World,w'.heap[b]? =some (.cells us el (0,0))→(execOp a.eval o).run P w' = .ok .skip (w'.setRow b (putAt us off vs))
theorem mI (hE:E.Ok P) (I:Inv w0 Mf g st a w) {id:Nat} (h:fA E st o=some (true,id)):
    o.guard=none∧o.dst=none∧(∃ T x y,o.op = .store T x y)∧aP st id∧acL P g id o a w:=by
 replace h:=ja h;obtain ⟨hg,h⟩:=h
 refine ⟨Option.isNone_iff_eq_none.1 hg,?_⟩
 rcases h with ⟨h,_⟩ | ⟨aH,h,⟨T,tx,y,t,ver,iv,p,i,off,r,s,sv,cs,cc,hd,hT,hx,hv,hn,hs,hle,Vf,fe,hlen⟩⟩
 ·cases h
 cases h
 refine ⟨hd,⟨T,_,y,cc⟩,?_⟩
 obtain ⟨ux,hux,hrx⟩:=I.aA tx _ hx
 obtain ⟨sv',h',Y8⟩:=I.dk Vf
 cases h'
 obtain ⟨vs,eA,sT⟩:=dm fe Y8
 have Ps:vs.size=aD t:=by rw [sT.1];exact gX hlen
 obtain ⟨_,acO⟩:=hrx
 obtain ⟨s',b,oo,n,cap,h1,h2,h3,h4⟩:=acO.2 r hv.x
 have:=cX h1;rw [hs] at this;cases this
 have hle:=gw hle
 have hU:bB w (g.rf id) s.t s.xs (g.rv id p) (fun i j=>g.rv id (p++[(i,j)]))∧r.md.cr=false:=by
  have hr:=I.roots id r hv.1
  unfold aS at hr
  cases hm:r.md with
  | deep=>rw [hm] at hr;exact ⟨hr.1 p s h1,rfl⟩
  | part k=>
   rw [hm] at hr hn
   cases k with
   | cur a b=>cases hn
   | hole p0=>
    have ct:p.length<p0.length:=by have:Nat.blt p.length p0.length=true:=hn;rwa [Nat.blt_eq] at this
    exact ⟨hr.1 p s ((iy (by intro e;rw [e] at ct;simp at ct)).2 fun hp=>by have:=hp.length_le;omega) h1,rfl⟩
  | nq=>rw [hm] at hn;cases hn
  | Er=>rw [hm] at hn;cases hn
 obtain ⟨hU,w3⟩:=hU
 refine ⟨⟨r,hv.1,w3⟩,?_⟩
 rcases hU with ⟨h5,_⟩ | ⟨b',o',rh,us,el,h5,h6,h7,h8,h9,_⟩
 ·rw [h5] at h2;simp at h2
 ·rw [h3] at h5
  cases h5
  have hmul:i*aD s.t+aD s.t≤cap*aD s.t:=by
   have:(i+1)*aD s.t≤cap*aD s.t:=Nat.mul_le_mul_right _ (by omega)
   rw [Nat.add_mul] at this;omega
  refine ⟨b,oo+i*aD s.t+off,us,el,vs,h6,h7,fun w' hb=> ?_⟩
  have ea:a.eval (.tmp tx) = .pointer (some ⟨b,oo+i*aD s.t+off,none⟩):=by
   rw [← h4];simp [Act.eval,hux]
  have:=qh hE hT (off:=oo+i*aD s.t+off) hb eA Ps (by omega) sT.flat
  rw [oF (by omega)] at this
  simp [execOp,cc,Instr.storeAt,ea,Instr.sureAddr,this]
theorem Di (hE:E.Ok P) (I:Inv w0 Mf g st a w) {n:Nat} (h:fA E st o=some (false,n)) {d:Dl} (hd:eE E o st some=some d):
    o.guard=none∧∃v,∀w':World,(execOp a.eval o).run P w' = .ok (.value v) w':=by
 replace h:=ja h;obtain ⟨hg,h⟩:=h
 refine ⟨Option.isNone_iff_eq_none.1 hg,?_⟩
 rcases h with ⟨h,⟨T,tx,i,id,ver,iv,p,cc,hx⟩⟩ | ⟨aH,h,_⟩
 rotate_left
 ·cases h
 obtain ⟨ux,hux,hrx⟩:=I.aA tx _ hx
 simp only [eE,cc,fr,dk,hx,Option.bind_some,Sc.soft] at hd
 obtain ⟨m,hd,hn⟩:=I.getInt hd
 replace hd:=Option.bind_eq_some_iff.1 hd;obtain ⟨e,he,hd⟩:=hd
 have hT:=fN he
 obtain ⟨el,hu,q7⟩:=hE.slice hT
 replace hd:=da hd;obtain ⟨ro,cZ,hd⟩:=hd
 replace hd:=a8 hd;obtain ⟨AO,hd⟩:=hd
 replace hd:=Option.bind_eq_some_iff.1 hd;obtain ⟨s,hs,hd⟩:=hd
 replace hd:=a8 hd;obtain ⟨_,hd⟩:=hd
 replace hd:=a8 hd;obtain ⟨hb,hd⟩:=hd
 simp only [Bool.and_eq_true,decide_eq_true_eq] at hb
 obtain ⟨o6,ke⟩:=hrx.2.2 ro cZ.x
 obtain ⟨s',fv⟩:=Option.isSome_iff_exists.1 ke
 have:=cX fv;rw [hs] at this;cases this
 obtain ⟨ad,cap,e1,_,hh⟩:=I.nC cZ.1 AO fv
 obtain ⟨b,oo,cs,p3,fz,rfl,hP,hbk,eP⟩:=hh (fun ri=>by rw [ri] at hb;simp at hb;omega)
 have ea:a.eval (.tmp tx) = .slice (some ⟨b,oo,none⟩) s.xs.length cap:=by
  rw [← e1,←o6];simp [Act.eval,hux]
 refine ⟨.pointer (some ⟨b,oo+m.toNat*aD e,none⟩),fun w'=> ?_⟩
 simp [execOp,cc,ea,hn,Instr.indexAt,asIntOf,run_underlying hu,hb.1,hb.2,hE.size q7,jk]
theorem zz (j:Nat) (W:List Nat):(cV ops j W).size=ops.size:=by simp [cV]
theorem fP (j:Nat) (W:List Nat) (i:Nat):(cV ops j W)[i]? =(ops[i]?).map fun o=>if i=j then iY W o else o:=by
 simp only [cV,Array.getElem?_modify]
 by_cases e:j=i
 ·subst e;simp
 ·simp only [e,if_false]
  cases ops[i]? <;>simp [Ne.symm e]
theorem qu {W:List Nat} {e:Edge}:e∈(iY W o).after↔e∈o.after∨∃v∈W,e={ on:=v,ground:= .data }:=by
 simp [iY,eq_comm]
theorem Dj (j:Nat) (W:List Nat) (t:Array Value):yielded (cV ops j W) t=yielded ops t:=by
 funext i
 unfold yielded
 rw [fP]
 cases ops[i]? with
 | none=>rfl
 | some o=>by_cases e:i=j<;>simp [e,iY]
theorem Qi {j:Nat} {W:List Nat} {i:Nat} (h:wpOp P (cV ops j W) Q i K a w):wpOp P ops Q i K a w:=by
 unfold wpOp at *
 rw [fP,Dj] at h
 cases ho:ops[i]? with
 | none=>rw [ho] at h;exact h
 | some o=>
  rw [ho] at h
  by_cases e:i=j
  ·simp only [Option.map_some,e,if_true] at h;exact h
  ·simp only [Option.map_some,e,if_false] at h;exact h
theorem JA:∀ {L:List Rec},(L.map (·.i)).Pairwise (· < ·)→∀x∈L,∀y∈L,x.i=y.i→x=y
 | [],_,_,h,_,_,_=>by cases h
 | z::L,hp,x,hx,y,hy,e=>by
  have Pp:(∀ y∈L,z.i<y.i)∧(L.map (·.i)).Pairwise (· < ·):=by simpa using hp
  rcases List.mem_cons.1 hx with h1 | h1<;>rcases List.mem_cons.1 hy with h2 | h2
  ·rw [h1,h2]
  ·have:=Pp.1 y h2;rw [h1] at e;omega
  ·have:=Pp.1 x h1;rw [h2] at e;omega
  ·exact JA Pp.2 x h1 y h2 e
theorem JB (rz:qk 0 ops.toList=true) {j:Nat} (ho:ops[j]? =some o) {x:Nat} (h:Nat.testBit ((eh ops).getD j 0) x=true):x<j:=by
 have ct:∀(i:Nat) o,ops[i]? =some o→∀e∈o.after,Region.binds .any e=true→e.on<i:=fun i o h e he hb=>by
  have:=mH rz i o (by simpa using h) e he hb
  omega
 have:=iE (ops:=ops) (t:=fun i=>decide (i<j)) (fun i o h1 h2 e he hb=>by
  have:=ct i o h1 e he hb
  simp only [decide_eq_true_eq] at h2 ⊢;omega) (j+1) j (by omega) o ho (fun e he hb=>by have:=ct j o ho e he hb;simpa using this) x h
 simpa using this
theorem Bh.uniq {id aH:Nat} (h:Bh E st o id) (h':Bh E st o aH):id=aH:=by
 obtain ⟨T,tx,y,t,ver,iv,p,i,off,r,s,sv,cs,cc,hd,hT,hx,_⟩:=h
 obtain ⟨T',tx',y',t',IM,iv',p',i',agz,r',s',sv',Gz,Y9,Jr,Ih,o6,_⟩:=h'
 rw [cc] at Y9;cases Y9
 rw [hx] at o6;cases o6
 rfl
theorem uW (j:Nat) (W:List Nat) (o:Oper):fk (cV ops j W) o=fk ops o:=by
 unfold fk
 split
 ·rfl
 ·rename_i i _ _
  rw [fP]
  cases ops[i]? with
  | none=>rfl
  | some o=>by_cases e:i=j<;>simp [e,iY]
theorem xZ (j:Nat) (W:List Nat) (st:St) (o:Oper):eu (cV ops j W) st o=eu ops st o:=by
 unfold eu bF
 rw [uW]
theorem Fact.late {L:List Rec} {x:Rec} {j:Nat} {W:List Nat} (h:Fact E ops st0 L x):Fact E (cV ops j W) st0 L x:=by
 obtain ⟨o,s1,ho,hD,hu,hm,hL,hl⟩:=h
 have hD':CH E (cV ops j W) o s1 x.d:=by
  unfold CH at hD ⊢
  split at hD
  ·exact hD
  ·rw [uW];exact hD
 by_cases e:x.i=j
 ·exact ⟨iY W o,s1,by rw [fP,ho];simp [e],hD',by rw [hu];exact (xZ j W s1 o).symm,hm,hL,hl⟩
 ·exact ⟨o,s1,by rw [fP,ho];simp [e],hD',by rw [hu,xZ],hm,hL,hl⟩
structure JC (ops:Array Oper) (L:List Rec) (j:Nat) (W:List Nat) (oj:Oper) (id:Nat):Prop where
 get:ops[j]? =some oj
 lt:∀y∈L,y.i=j→y.lt=some (true,id)
 x:∀x∈L,x.i∈W→A7 (tmpsOf oj.op.operands.toList) id x=true
 d:∀v∈W,∀o d,ops[v]? =some o→o.dst=some d→d ∉ tmpsOf oj.op.operands.toList
 rest:∀i,i<ops.size→i ∉ W→i≠j→Nat.testBit ((eh ops).getD j 0) i=true∨∀v∈W,Nat.testBit ((eh ops).getD i 0) v=true
theorem G7 {L:List Rec} {j:Nat} {W:List Nat} (XW:(L.map (·.i)).Pairwise (· < ·)) (h:Dc ops L.reverse j W=true) (hj:∃y∈L,y.i=j):∃oj id,JC ops L j W oj id:=by
 unfold Dc at h
 split at h
 ·cases h
 ·rename_i oj Vm
  simp only [Bool.and_eq_true,List.all_eq_true,List.mem_reverse,Bool.or_eq_true,Bool.not_eq_true'] at h
  obtain ⟨⟨h1,h2⟩,h3⟩:=h
  obtain ⟨y0,hy0,Y'⟩:=hj
  have key:∀y∈L,y.i=j→∃id,y.lt=some (true,id)∧∀x∈L,x.i∈W→A7 (tmpsOf oj.op.operands.toList) id x=true:=by
   intro y hy hyj
   have:=(h1 y hy).resolve_left (by rw [hyj,Nat.beq_refl];simp)
   split at this
   ·rename_i id ct
    refine ⟨id,ct,fun x hx hxW=> ?_⟩
    simp only [List.all_eq_true,List.mem_reverse,Bool.or_eq_true,Bool.not_eq_true'] at this
    exact (this x hx).resolve_left (by rw [cd.2 hxW];simp)
   ·cases this
  obtain ⟨id,hid,hX⟩:=key y0 hy0 Y'
  refine ⟨oj,id,Vm,fun y hy hyj=> ?_,hX,fun v hv o d ho hd=> ?_,fun i hi Vo Im=> ?_⟩
  ·rw [JA XW y hy y0 hy0 (hyj.trans Y'.symm)];exact hid
  ·have:=h2 v hv
   rw [ho] at this
   simp only [hd] at this
   intro hm
   rw [cd.2 hm] at this
   cases this
  ·rcases h3 i (by simpa using hi) with h | h | h | h
   ·exact absurd (cd.1 h) Vo
   ·exact absurd (gX h) Im
   ·exact .inl h
   ·exact .inr (by simpa using h)
def Norm (w0:World) (Mf:Nat→Prop) (n:Fx) (J:Array Value→Prop) (Dk:Array Oper) (st0:St) (L:List Rec) (listed:Array Bool) (a:Act) (w:World):Prop:=
  ∃g σ,uv Dk (fun i=>listed.getD i false)∧g.n=n∧J a.tmps∧Lk st0 (fun x=>listed.getD x.i false) L σ∧Inv w0 Mf g σ a w
def Vp (P:Program) (w0:World) (Mf:Nat→Prop) (n:Fx) (J:Array Value→Prop) (Dk:Array Oper) (st0:St) (L:List Rec) (j:Nat) (W:List Nat) (oj:Oper) (listed:Array Bool) (a:Act) (w:World):Prop:=
  ∃(lm:Array Bool) (g:Gh) (σ:St) (w1:World),lm.size=Dk.size∧uv Dk (fun i=>lm.getD i false)∧lm.getD j false=false∧listed.getD j false=true∧(∀ i,i≠j→lm.getD i false=listed.getD i false)∧g.n=n∧J a.tmps∧
    Lk st0 (fun x=>lm.getD x.i false) L σ∧Inv w0 Mf g σ a w1∧(execOp a.eval oj).run P w1 = .ok .skip w
theorem Dm (hE:E.Ok P) (hN:E.lC) {J:Array Value→Prop} (EV:∀o∈ops.toList,qp J o) {n:Fx} (hW:tH P n.wl) (hd:∀o∈ops.toList,∀d,o.dst=some d→d<n.sz)
    {j:Nat} {W:List Nat} (Za:∀v∈W,v<j) (hWa:∀i,i<j→i ∉ W→Nat.testBit ((eh ops).getD j 0) i=true)
    {L:List Rec} {Jv:St} (CJ:L.map (·.i)=List.range ops.toList.length)
 (hF:∀x∈L,Fact E (cV ops j W) st0 L x) (XX:Lk st0 (fun _=>true) L Jv) (rz:qk 0 ops.toList=true) (xk:nI (cV ops j W) L.reverse=true)
    {oj:Oper} {id:Nat} (hO:JC ops L j W oj id)
 (hK:∀g' a' w',g'.n=n→Inv w0 Mf g' Jv a' w'→J a'.tmps→Q .normal a' w'):
    ∀(fuel:Nat) (listed:Array Bool) {a:Act} {w:World},listed.size=ops.size→uv ops (fun j=>listed.getD j false)→XV ops listed≤fuel→
 (Norm w0 Mf n J (cV ops j W) st0 L listed a w∨((∃ v∈W,listed.getD v false=false)∧Vp P w0 Mf n J (cV ops j W) st0 L j W oj listed a w))→wpAny P .any ops Q fuel listed a w:=by
 have ff:=zz (ops:=ops) j W
 have Vq:L.map (·.i)=List.range (cV ops j W).toList.length:=by rw [CJ];simp [ff]
 have ct:∀x∈L,x.i<ops.size:=fun x hx=>by
  have:x.i∈L.map (·.i):=List.mem_map.2 ⟨x,hx,rfl⟩
  rw [CJ] at this;simpa using this
 have hjs:j<ops.size:=(Array.getElem?_eq_some_iff.1 hO.get).1
 have JD:∀i,i<ops.size→∃x∈L,x.i=i:=fun i hi=>by
  have:i∈L.map (·.i):=by rw [CJ];simpa using hi
  simpa using this
 obtain ⟨xj,hxj,Qj⟩:=JD j hjs
 have tT:∀i o,ops[i]? =some o→i≠j→(cV ops j W)[i]? =some o:=fun i o ho hi=>by rw [fP,ho];simp [hi]
 have E2:(cV ops j W)[j]? =some (iY W oj):=by rw [fP,hO.get];simp
 have hJj:qp J oj:=EV oj (by simpa using Array.mem_of_getElem? hO.get)
 have final:∀ {listed:Array Bool} {a:Act} {w:World},(∀ i,i<ops.size→listed.getD i false=true)→
   (Norm w0 Mf n J (cV ops j W) st0 L listed a w∨((∃ v∈W,listed.getD v false=false)∧Vp P w0 Mf n J (cV ops j W) st0 L j W oj listed a w))→Q .normal a w:=by
  intro listed a w eO h
  rcases h with ⟨g,σ,_,hg,CK,hL,I⟩ | ⟨⟨v,hv,tR⟩,_⟩
  ·exact hK g a w hg (((hL.congr fun x hx=>eO x.i (ct x hx)).eq XX).inv I) CK
  ·rw [eO v (by have:=Za v hv;omega)] at tR;cases tR
 -- the late store, where all is done that it should come behind
 have close:∀ {lm:Array Bool} {g:Gh} {σ:St} {a:Act} {w1 w:World},lm.size=ops.size→uv (cV ops j W) (fun i=>lm.getD i false)→lm.getD j false=false→(∀ e∈oj.after,Region.binds .any e=true→lm.getD e.on false=true)→(∀ v∈W,lm.getD v false=true)→
   g.n=n→J a.tmps→Lk st0 (fun x=>lm.getD x.i false) L σ→Inv w0 Mf g σ a w1→(execOp a.eval oj).run P w1 = .ok .skip w→Norm w0 Mf n J (cV ops j W) st0 L (lm.setIfInBounds j true) a w:=by
  intro lm g σ a w1 w hs mD h0 eO Zb hg CK hL I er
  have me:∀e∈(iY W oj).after,Region.binds .any e=true→lm.getD e.on false=true:=fun e he hb=>by
   rcases qu.1 he with he | ⟨v,hv,rfl⟩
   ·exact eO e he hb
   ·exact Zb v hv
  subst Qj
  obtain ⟨s1,A,hl,hD,TG⟩:=qt hN Vq hF xk (by rw [hs,ff]) mD hxj h0 E2 me hL
  have acR:fA E s1 (iY W oj)=some (true,id):=hl.symm.trans (hO.lt xj hxj rfl)
  obtain ⟨hgd,kf,_,_,_⟩:=mI (o:=iY W oj) hE I (uz A acR)
  unfold CH at hD
  rw [hgd] at hD
  simp only at hD
  have:=lZ (Q:=Q) (K:=fun a' w'=>a'=a→∃g',g'.n=n∧Inv w0 Mf g' (σ.apply xj.d) a w') hE (by rw [hg];exact hW) I (fun d Jr=>by rw [kf] at Jr;cases Jr) (fun δ g' a' w' h1 h2 h3=>by
   cases h1
   intro e
   subst e
   exact ⟨g',h2.trans hg,h3⟩) hD
  unfold Oper.wp at this
  have E3:(execOp a.eval (iY W oj)).run P w1 = .ok .skip w:=er
  rw [E3,Oper.upon_skip,kf] at this
  obtain ⟨g',p7,I'⟩:=this rfl
  exact ⟨g',_,nL (by rw [hs];exact hjs) mD E2 me,p7,CK,TG,I'⟩
 have after:∀ {listed:Array Bool},uv ops (fun i=>listed.getD i false)→∀ {v:Nat},v∈W→listed.getD v false=false→∀y,j<y→y<ops.size→listed.getD y false=false:=by
  intro listed mD v hv Pv y hy IP
  cases uy:listed.getD y false with
  | false=>rfl
  | true=>
   obtain ⟨oy,Y6⟩:∃oy,ops[y]? =some oy:=⟨_,Array.getElem?_eq_getElem IP⟩
   rcases hO.rest y IP (fun Qk=>by have:=Za y Qk;omega) (by omega) with gB | gB
   ·have:=JB rz hO.get gB;omega
   ·have:=iE mD (y+1) y (by omega) oy Y6 (fun e he hb=>mD y oy Y6 uy e he hb) v (gB v hv)
    simp only [Pv] at this
    cases this
 have atJ:∀ {lm:Array Bool} {σ:St},(∀ y,y<j→y ∉ W→lm.getD y false=true)→lm.getD j false=false→(∀ y,j<y→y<ops.size→lm.getD y false=false)→Lk st0 (fun x=>lm.getD x.i false) L σ→fA E σ oj=some (true,id):=by
  intro lm σ h1 h2 h3 hL
  obtain ⟨o1,s1,XY,_,_,_,TF,si⟩:=hF xj hxj
  rw [Qj,E2] at XY;cases XY
  have si:fA E s1 oj=some (true,id):=si.symm.trans (hO.lt xj hxj Qj)
  have hX:∀y∈L,Nat.blt y.i xj.i≠lm.getD y.i false→(∀ n∈y.d.nH,cE n (tmpsOf oj.op.operands.toList)=false)∧∀n∈y.d.lA,Nat.beq n id=false:=by
   intro y hy dP
   have Qk:y.i∈W:=by
    rw [Qj] at dP
    rcases Nat.lt_trichotomy y.i j with h | h | h
    ·have hb:Nat.blt y.i j=true:=by rw [Nat.blt_eq];exact h
     rw [hb] at dP
     exact Classical.byContradiction fun Qk=>dP (h1 y.i h Qk).symm
    ·exfalso
     have hb:Nat.blt y.i j=false:=by
      cases hb:Nat.blt y.i j with
      | false=>rfl
      | true=>rw [Nat.blt_eq] at hb;omega
     rw [hb,h,h2] at dP
     exact dP rfl
    ·exfalso
     have hb:Nat.blt y.i j=false:=by
      cases hb:Nat.blt y.i j with
      | false=>rfl
      | true=>rw [Nat.blt_eq] at hb;omega
     rw [hb,h3 y.i h (ct y hy)] at dP
     exact dP rfl
   have:=hO.x y hy Qk
   unfold A7 at this
   simp only [Bool.and_eq_true,List.all_eq_true,Bool.not_eq_true'] at this
   exact this.2
  refine sg (st:=s1) (fun t ht=> ?_) (fun aH It=> ?_) si
  ·rw [hL.s t,TF.s t]
   refine (dH fun y hy dP=>Js fun hm=> ?_).symm
   have:=(hX y hy dP).1 t hm
   rw [cd.2 (by simp only [tmpsOf,List.mem_filterMap];exact ⟨_,ht,rfl⟩)] at this
   cases this
  ·have:aH=id:=by
    rcases (ja si).2 with ⟨h,_⟩ | ⟨i2,h,h'⟩
    ·cases h
    ·cases h;exact It.uniq h'
   subst this
   rw [hL.r aH,TF.r aH]
   refine (dH fun y hy dP=>xX fun hm=> ?_).symm
   have:=(hX y hy dP).2 aH hm
   rw [Nat.beq_refl] at this
   cases this
 intro fuel
 induction fuel with
 | zero=>
  intro listed a w hs mD hc h
  have eO:∀i,i<ops.size→listed.getD i false=true:=by
   intro i hi
   cases hl:listed.getD i false with
   | true=>rfl
   | false=>
    have:0<XV ops listed:=List.countP_pos_iff.2 ⟨i,by simpa using hi,by simp only [hl];rfl⟩
    omega
  refine ⟨?_,final eO h⟩
  cases hr:Region.ready .any ops listed with
  | nil=>rfl
  | cons i rest=>
   have:i∈Region.ready .any ops listed:=by rw [hr];simp
   obtain ⟨h0,o,ho,_⟩:=mem_ready.1 this
   have hi:i<ops.size:=(Array.getElem?_eq_some_iff.1 ho).1
   rw [mc (by omega),eO i hi] at h0
   cases h0
 | succ fuel ih=>
  intro listed a w hs mD hc h
  refine ⟨fun hr=>final (fun i hi=>pN rz hs hr (i+1) i (by omega) hi) h,fun i hi=> ?_⟩
  obtain ⟨h0,o,ho,eO⟩:=mem_ready.1 hi
  have Vn:i<ops.size:=(Array.getElem?_eq_some_iff.1 ho).1
  rw [mc (by omega)] at h0
  have eO:∀e∈o.after,Region.binds .any e=true→listed.getD e.on false=true:=eO
  have xI:i<listed.size:=by omega
  have hJi:qp J o:=EV o (by simpa using Array.mem_of_getElem? ho)
  have hdi:∀d,o.dst=some d→d<n.sz:=hd o (by simpa using Array.mem_of_getElem? ho)
  have ih':∀ {a:Act} {w:World},(Norm w0 Mf n J (cV ops j W) st0 L (listed.setIfInBounds i true) a w∨((∃ v∈W,(listed.setIfInBounds i true).getD v false=false)∧Vp P w0 Mf n J (cV ops j W) st0 L j W oj (listed.setIfInBounds i true) a w))→
    wpAny P .any ops Q fuel (listed.setIfInBounds i true) a w:=fun h=>ih _ (by simp [hs]) (nL xI mD ho eO) (by have:=E1 xI Vn h0;omega) h
  obtain ⟨xi,XZ,rfl⟩:=JD i Vn
  rcases h with ⟨g,σ,Vr,hg,CK,hL,I⟩ | ⟨⟨v0,hv0,tR⟩,lm,g,σ,w1,Qg,Zc,hmj,X0,TH,hg,CK,hL,I,er⟩
  ·-- in order so far
   by_cases TI:xi.i=j∧∃v∈W,listed.getD v false=false
   ·obtain ⟨rfl,acV⟩:=TI
    have yQ:=ho
    rw [hO.get] at yQ;cases yQ
    obtain ⟨v,hv,Pv⟩:=acV
    have hlσ:=atJ (lm:=listed) (fun y hy Qk=>iE mD (xi.i+1) xi.i (by omega) oj ho eO y (hWa y hy Qk)) h0 (fun y hy IP=>after mD hv Pv y hy IP) hL
    obtain ⟨hgd,kf,_,_,b,off,us,el,vs,hF1,Tz,Bi⟩:=mI hE I hlσ
    unfold wpOp
    rw [ho]
    simp only [Region.wanted,hgd,if_true]
    refine .inl (mG kf (Bi w Tz) (ih' (.inr ⟨?_,listed,g,σ,w,by rw [hs,ff],Vr,h0,?_,fun i hi=> ?_,hg,CK,hL,I,Bi w Tz⟩)))
    ·exact ⟨v,hv,by rw [ew xI,if_neg (by have:=Za v hv;omega)];exact Pv⟩
    ·rw [ew xI];simp
    ·rw [ew xI,if_neg hi]
   ·have hgo:∃o',(cV ops j W)[xi.i]? =some o'∧(∀ e∈o'.after,Region.binds .any e=true→listed.getD e.on false=true)∧qp J o'∧∀d,o'.dst=some d→d<n.sz:=by
     by_cases e:xi.i=j
     ·have E4:∀v∈W,listed.getD v false=true:=fun v hv=>by
       cases Tr:listed.getD v false with
       | true=>rfl
       | false=>exact absurd ⟨e,v,hv,Tr⟩ TI
      have ho2:=ho
      rw [e,hO.get] at ho2;cases ho2
      refine ⟨iY W oj,by rw [e];exact E2,fun e he hb=> ?_,hJi,hdi⟩
      rcases qu.1 he with he | ⟨v,hv,rfl⟩
      ·exact eO e he hb
      ·exact E4 v hv
     ·exact ⟨o,tT xi.i o ho e,eO,hJi,hdi⟩
    obtain ⟨o',yQ,me,tj,Jr⟩:=hgo
    obtain ⟨s1,A,_,hD,TG⟩:=qt hN Vq hF xk (by rw [hs,ff]) Vr XZ h0 yQ me hL
    refine Qi (j:=j) (W:=W) (ry hE (by rw [hg];exact hW) tj CK I (fun d h=>by rw [hg];exact Jr d h) yQ hD fun g' a' w' p7 I' G6=>ih' (.inl ⟨g',_,nL xI Vr yQ me,p7.trans hg,G6,TG,I'⟩))
  ·-- the store is done already
   have Im:xi.i≠j:=fun e=>by rw [e,X0] at h0;cases h0
   have Vo:xi.i∈W:=by
    refine Classical.byContradiction fun Vo=> ?_
    rcases hO.rest xi.i Vn Vo Im with hb | hb
    ·have:=iE mD (j+1) j (by omega) oj hO.get (fun e he hb=>mD j oj hO.get X0 e he hb) xi.i hb
     simp only [h0] at this;cases this
    ·have:=iE mD (xi.i+1) xi.i (by omega) o ho eO v0 (hb v0 hv0)
     simp only [tR] at this;cases this
   have ae0:=Za _ Vo
   have yQ:=tT xi.i o ho Im
   have CI:∀i' o'',ops[i']? =some o''→i'≤j→∀e∈o''.after,Region.binds .any e=true→e.on<i':=fun i' o'' h1 h2 e he hb=>by
    have:=mH rz i' o'' (by simpa using h1) e he hb
    omega
   have h0':lm.getD xi.i false=false:=by rw [TH _ Im];exact h0
   have me:∀e∈o.after,Region.binds .any e=true→lm.getD e.on false=true:=fun e he hb=>by
    rw [TH _ (by have:=CI _ o ho (by omega) e he hb;omega)]
    exact eO e he hb
   have Zd:lm.size=ops.size:=by rw [Qg,ff]
   have Ze:xi.i<lm.size:=by omega
   obtain ⟨s1,A,hl,hD,TG⟩:=qt hN Vq hF xk Qg Zc XZ h0' yQ me hL
   have hX:=hO.x xi XZ Vo
   unfold A7 at hX
   simp only [Bool.and_eq_true] at hX
   -- the late store, at the state ahead of it
   have Zf:=nL Ze Zc yQ me
   have sW:=ew xI
   have Bj:=ew Ze
   have TJ:∀ {g':Gh} {a':Act} {w1' w':World},g'.n=n→J a'.tmps→Inv w0 Mf g' (σ.apply xi.d) a' w1'→(execOp a'.eval oj).run P w1' = .ok .skip w'→wpAny P .any ops Q fuel (listed.setIfInBounds xi.i true) a' w':=by
    intro g' a' w1' w' p7 G6 I' E3
    refine ih' ?_
    have Zg:(lm.setIfInBounds xi.i true).getD j false=false:=by rw [Bj,if_neg (Ne.symm Im)];exact hmj
    by_cases E4:∀v∈W,(lm.setIfInBounds xi.i true).getD v false=true
    ·left
     have hN':=close (lm:=lm.setIfInBounds xi.i true) (by simp [Zd]) Zf Zg (fun e he hb=>by
      have qe:=CI j oj hO.get (Nat.le_refl _) e he hb
      have h1:listed.getD e.on false=true:=mD j oj hO.get X0 e he hb
      rw [Bj]
      by_cases e':e.on=xi.i
      ·rw [if_pos e']
      ·rw [if_neg e',TH _ (by omega)];exact h1) E4 p7 G6 TG I' E3
     obtain ⟨g3,σ3,k1,k2,k3,k4,k5⟩:=hN'
     have heq:∀i,((lm.setIfInBounds xi.i true).setIfInBounds j true).getD i false=(listed.setIfInBounds xi.i true).getD i false:=fun i=>by
      rw [ew (by simp [Zd];exact hjs),Bj,sW]
      by_cases e:i=j
      ·subst e;rw [if_pos rfl,if_neg (Ne.symm Im),X0]
      ·rw [if_neg e]
       by_cases e':i=xi.i
       ·rw [if_pos e',if_pos e']
       ·rw [if_neg e',if_neg e',TH _ e]
     refine ⟨g3,σ3,fun i o h1 h2 e he hb=> ?_,k2,k3,k4.congr fun x _=>heq x.i,k5⟩
     have:=k1 i o h1 (by simp only at h2 ⊢;rw [heq];exact h2) e he hb
     simp only at this ⊢
     rw [← heq];exact this
    ·right
     have:∃v∈W,(lm.setIfInBounds xi.i true).getD v false=false:=Classical.byContradiction fun acY=>E4 fun v hv=>by
      cases Tr:(lm.setIfInBounds xi.i true).getD v false with
      | true=>rfl
      | false=>exact absurd ⟨v,hv,Tr⟩ acY
     obtain ⟨v,hv,Pv⟩:=this
     have hvj:v≠j:=by have:=Za v hv;omega
     refine ⟨⟨v,hv,?_⟩,lm.setIfInBounds xi.i true,g',_,w1',by simp [Qg],Zf,Zg,?_,fun i hi=> ?_,p7,G6,TG,I',E3⟩
     ·rw [sW];rw [Bj] at Pv
      by_cases e:v=xi.i
      ·rw [if_pos e] at Pv;cases Pv
      ·rw [if_neg e] at Pv ⊢;rw [← TH _ hvj];exact Pv
     ·rw [sW,if_neg (Ne.symm Im)];exact X0
     ·rw [Bj,sW,TH _ hi]
   have hlσ:=atJ (lm:=lm) (fun y hy Qk=>by
    rw [TH y (by omega)]
    exact iE mD (j+1) j (by omega) oj hO.get (fun e he hb=>mD j oj hO.get X0 e he hb) y (hWa y hy Qk)) hmj (fun y hy IP=>by rw [TH y (by omega)];exact after mD hv0 tR y hy IP) hL
   obtain ⟨agE,ae1,⟨T,x,y,Vs⟩,eG,b,off,us,el,vs,hF1,Tz,Bi⟩:=mI hE I hlσ
   have hw:w=w1.setRow b (putAt us off vs):=by
    rw [Bi w1 Tz] at er
    cases er;rfl
   unfold wpOp
   rw [ho]
   cases hq:xi.lt with
   | none=>rw [hq] at hX;exact absurd hX.1 (by simp)
   | some bq=>
    obtain ⟨b1,Vl⟩:=bq
    have X1:fA E σ o=some (b1,Vl):=uz A (hl.symm.trans hq)
    have hgi:=Option.isNone_iff_eq_none.1 (ja X1).1
    unfold CH at hD
    rw [hgi] at hD
    simp only at hD
    simp only [Region.wanted,hgi,if_true]
    left
    cases b1 with
    | false=>
     obtain ⟨_,v,hv⟩:=Di hE I X1 hD
     have:=lZ (Q:=Q) (K:=fun a' w'=>a'=a.put o.dst v→w'=w1→∃g',g'.n=n∧Inv w0 Mf g' (σ.apply xi.d) (a.put o.dst v) w1) hE (by rw [hg];exact hW) I (fun d h=>by rw [hg];exact hdi d h) (fun δ g' a' w' h1 h2 h3=>by
      cases h1
      intro e1 e2
      subst e1;subst e2
      exact ⟨g',h2.trans hg,h3⟩) hD
     unfold Oper.wp at this ⊢
     rw [hv,Oper.upon_value] at this ⊢
     obtain ⟨g',p7,I'⟩:=this rfl rfl
     refine TJ p7 (hJi a v CK) I' ?_
     have hev:∀z∈oj.op.operands.toList,(a.put o.dst v).eval z=a.eval z:=fun z hz=>Act.eval_put fun d Jr e=>by
      subst e
      exact hO.d _ Vo o d ho Jr (by simp only [tmpsOf,List.mem_filterMap];exact ⟨_,hz,rfl⟩)
     rw [← er]
     simp only [execOp,Vs,hev x (by simp [Vs,Op.operands]),hev y (by simp [Vs,Op.operands])]
    | true=>
     rw [hq] at hX
     have dP:Vl≠id:=fun e=>by
      subst e
      have:=hX.1
      simp only [Nat.beq_refl] at this
      cases this
     obtain ⟨_,Zh,_,Zi,b2,Zj,us2,UO,vs2,YF,q8,TL⟩:=mI hE I X1
     have P7:b≠b2:=fun e=>by
      subst e
      exact dP (I.apart.rr Vl id b Zi eG YF hF1)
     have:=lZ (Q:=Q) (K:=fun a' w'=>a'=a→w'=w1.setRow b2 (putAt us2 Zj vs2)→∃g',g'.n=n∧Inv w0 Mf g' (σ.apply xi.d) a (w1.setRow b2 (putAt us2 Zj vs2))) hE (by rw [hg];exact hW) I (fun d h=>by rw [hg];exact hdi d h) (fun δ g' a' w' h1 h2 h3=>by
      cases h1
      intro e1 e2
      subst e1;subst e2
      exact ⟨g',h2.trans hg,h3⟩) hD
     unfold Oper.wp at this
     rw [TL w1 q8,Oper.upon_skip,Zh] at this
     obtain ⟨g',p7,I'⟩:=this rfl rfl
     refine mG Zh (TL w (by rw [hw,setRow_other _ _ _ _ (Ne.symm P7)];exact q8)) (TJ p7 CK I' ?_)
     rw [Bi _ (by rw [setRow_other _ _ _ _ P7];exact Tz),hw,Bg _ _ _ P7]
theorem zA (hE:E.Ok P) (hN:E.lC) (hW:tH P g.n.wl) {J:Array Value→Prop} (EV:∀o∈ops.toList,qp J o) (hJ:J a.tmps) (I:Inv w0 Mf g st a w) {id:Nat} {draw:Bool} (hd:∀o∈ops.toList,∀d,o.dst=some d→d<g.n.sz) {k:St→Option R} {r:R} (h:ui E ops draw st k=some r)
 (hK:∀g' aE a' w',k aE=some r→g'.n=g.n→Inv w0 Mf g' aE a' w'→J a'.tmps→Q .normal a' w'):(Code.region id ops draw).wp P Q a w:=by
 cases draw with
 | false=>
  refine wp_region ?_
  have:=xW (ops:=ops) (Q:=Q) hE hN EV hW hd hK ops.toList 0 rfl h rfl I hJ
  rw [List.range_eq_range']
  simpa using this
 | true=>
  refine wp_region_any hE.ord ?_
  simp only [ui,cond_true] at h
  have sj:∀(L:List Rec),Lk st (fun x=>(Array.replicate ops.size false).getD x.i false) L st:=fun L=>by
   have hz:∀x:Rec,(Array.replicate ops.size false).getD x.i false=false:=fun x=>by
    simp only [Array.getD_eq_getD_getElem?,Array.getElem?_replicate];split<;>rfl
   exact ⟨fun m=>(mb fun x _ hx=>by simp only [hz] at hx;cases hx).symm,fun m=>(mb fun x _ hx=>by simp only [hz] at hx;cases hx).symm,fun m=>(mb fun x _ hx=>by simp only [hz] at hx;cases hx).symm,fun m=>(mb fun x _ hx=>by simp only [hz] at hx;cases hx).symm⟩
  have JE:∀ {Dk:Array Oper},uv Dk (fun i=>(Array.replicate ops.size false).getD i false):=fun {Dk} j o ho hj=>by
   have:(Array.replicate ops.size false).getD j false=false:=by simp only [Array.getD_eq_getD_getElem?,Array.getElem?_replicate];split<;>rfl
   simp only at hj;rw [this] at hj;cases hj
  obtain ⟨L,Jv,CJ,hF,XX,hk⟩:=Be (st0:=st) hN ops.toList 0 (k:=fun rs st=>cond (qk 0 ops.toList&&(nI ops rs||zr ops rs)) (k st) none) [] rfl (Nat.zero_le _) rfl ⟨fun _=>rfl,fun _=>rfl,fun _=>rfl,fun _=>rfl⟩ (fun x hx=>by cases hx) h
  obtain ⟨hc,hk⟩:=a8 hk
  simp only [Bool.and_eq_true,Bool.or_eq_true] at hc
  obtain ⟨rz,hc⟩:=hc
  rcases hc with hc | hc
  ·exact G5 hE hN EV hW hd CJ hF XX rz hc (fun g' a' w' hg I' tj=>hK g' Jv a' w' hk hg I' tj) ops.size _ (by simp) JE (Nat.le_trans List.countP_le_length (by simp)) rfl hJ ⟨st,sj L,I.drawn _⟩
  ·unfold zr at hc
   split at hc
   ·rename_i j hj
    generalize hWe:EP (eh ops) j=W at hc
    simp only [Bool.and_eq_true] at hc
    have GG:j<ops.size:=by
     unfold TC at hj
     obtain ⟨y,hy,rfl⟩:=Option.map_eq_some_iff.1 hj
     have hm:=List.mem_of_find?_eq_some hy
     simp only [List.reverse_reverse] at hm
     have:y.i∈L.map (·.i):=List.mem_map.2 ⟨y,hm,rfl⟩
     rw [CJ] at this;simpa using this
    obtain ⟨oj,id,hO⟩:=G7 (by rw [CJ];exact List.pairwise_lt_range) hc.2 (by
     have:j∈L.map (·.i):=by rw [CJ];simpa using GG
     simpa using this)
    have hWm:∀i,i∈W↔i<j∧Nat.testBit ((eh ops).getD j 0) i=false:=fun i=>by
     rw [← hWe];simp [EP]
    exact Dm hE hN EV hW hd (fun v hv=>((hWm v).1 hv).1) (fun i h1 h2=>by
     cases hb:Nat.testBit ((eh ops).getD j 0) i with
     | true=>rfl
     | false=>exact absurd ((hWm i).2 ⟨h1,hb⟩) h2) CJ (fun x hx=>(hF x hx).late) XX rz hc.1 hO (fun g' a' w' hg I' tj=>hK g' Jv a' w' hk hg I' tj) ops.size _ (by simp) JE (Nat.le_trans List.countP_le_length (by simp))
     (.inl ⟨g,st,JE,rfl,hJ,sj L,I.drawn _⟩)
   ·cases hc
end Go.Gm
namespace Go.Gm
open Go
variable {w0 w : World} {Mf : Nat → Prop} {g : Gh} {st cl : St} {a : Act}
section
variable {α β : Type}
theorem ia (p:Nat→Bool):∀(l:List (Nat×α)) (n:Nat),ax (l.filter fun x=>p x.1) n=cond (p n) (ax l n) none
  | [],n=>by simp [ax]
  | (m,v)::l,n=>by
    simp only [List.filter_cons]
    by_cases e:n=m
    · subst e
      cases hp:p n with
      | true=>simp [ax]
      | false=>simp only [Bool.false_eq_true,if_false,cond_false];rw [ia p l n,hp];rfl
    · have hb:Nat.beq n m=false:=PD e
      cases hp:p m with
      | true=>simp only [if_true,ax,hb,cond_false];exact ia p l n
      | false=>simp only [Bool.false_eq_true,if_false,ax,hb,cond_false];exact ia p l n
theorem nM (f:α→β):∀(l:List (Nat×α)) (n:Nat),ax (l.map fun x=>(x.1,f x.2)) n=(ax l n).map f
  | [],n=>rfl
  | (m,v)::l,n=>by
    simp only [List.map_cons,ax]
    cases Nat.beq n m with
    | true=>rfl
    | false=>simp only [cond_false];exact nM f l n
theorem eH:∀ {l:List (Nat×α)} {n:Nat} {v:α},ax l n=some v→(n,v)∈l
  | (m,u)::l,n,v,h=>by
    simp only [ax] at h
    cases hb:Nat.beq n m with
    | true=>rw [hb] at h;cases h;rw [gX hb];simp
    | false=>rw [hb] at h;exact List.mem_cons_of_mem _ (eH h)
theorem x3:∀ {l:List (Nat×α)} {n:Nat},n∈l.map (·.1)→(ax l n).isSome
  | (m,u)::l,n,h=>by
    simp only [ax]
    cases hb:Nat.beq n m with
    | true=>rfl
    | false=>
      have:n≠m:=fun e=>by subst e;simp at hb
      simp only [cond_false]
      exact x3 (by simpa [this] using h)
end
theorem cH.Dn {f:Sc→Sc} {cs:List Sc} {us:Array Value} (h:cH w g st cs us) (hf:∀c u,c∈cs→aZ w g st c u→aZ w g cl (f c) u):cH w g cl (cs.map f) us:=by
 refine ⟨by simp [h.1],fun j c hc=> ?_⟩
 obtain ⟨c0,h0,rfl⟩:∃c0,cs[j]? =some c0∧f c0=c:=by simpa using hc
 obtain ⟨z,hz,hr⟩:=h.2 j c0 h0
 exact ⟨z,hz,hf c0 z (List.mem_of_getElem? h0) hr⟩
theorem ix.Dn {f:Sc→Sc} {x:Cm} {u:Value} (h:ix w g st x u) (hf:∀c u,c∈x.cells→aZ w g st c u→aZ w g cl (f c) u):ix w g cl (x.map f) u:=by
 cases x with
 | one c=>exact hf c u (by simp [Cm.cells]) h
 | agg cs=>obtain ⟨us,e,h⟩:=h;exact ⟨us,e,h.Dn hf⟩
theorem dD.Dn {f:Sc→Sc} {x:Sv} {u:Value} (h:dD w g st x u) (hf:∀c u,c∈x.cells→aZ w g st c u→aZ w g cl (f c) u):dD w g cl (x.map f) u:=by
 cases x with
 | c x=>exact ix.Dn h hf
 | xx vs=>
  obtain ⟨us,e,hl,h⟩:=h
  refine ⟨us,e,by simp [hl],fun j x hx=> ?_⟩
  obtain ⟨x0,h0,rfl⟩:∃x0,vs[j]? =some x0∧Cm.map f x0=x:=by simpa using hx
  obtain ⟨z,hz,hr⟩:=h j x0 h0
  exact ⟨z,hz,hr.Dn fun c u hc=>hf c u (by simp only [Sv.cells,List.mem_flatten,List.mem_map];exact ⟨_,⟨x0,List.mem_of_getElem? h0,rfl⟩,hc⟩)⟩
theorem Cm.map_map (f h:Sc→Sc) (x:Cm):(x.map f).map h=x.map fun c=>h (f c):=by cases x<;>simp [Cm.map,Function.comp_def]
theorem Sv.map_map (f h:Sc→Sc) (x:Sv):(x.map f).map h=x.map fun c=>h (f c):=by
 cases x with
 | c x=>simp [Sv.map,Cm.map_map]
 | xx vs=>simp [Sv.map,Function.comp_def,Cm.map_map]
theorem Cm.oH (f:Sc→Sc) (x:Cm):(x.map f).cells=x.cells.map f:=by cases x<;>rfl
theorem Sv.oH (f:Sc→Sc) (x:Sv):(x.map f).cells=x.cells.map f:=by
 cases x with
 | c x=>exact Cm.oH f x
 | xx vs=>simp [Sv.map,Sv.cells,Function.comp_def,Cm.oH]
theorem JF (m:Md):m.norm.cr=m.cr:=by
 cases m with
 | part k=>
  cases k with
  | cur i j=>cases j<;>rfl
  | hole p=>rfl
 | _=>rfl
theorem aS.norm {id:Nat} {r:cB} (h:aS w g id r):aS w g id ⟨r.t,r.md.norm,0,[],r.xs⟩:=by
 obtain ⟨t,md,ver,log,xs⟩:=r
 cases md with
 | part k=>
  cases k with
  | hole p=>exact h
  | cur i j=>
   cases j with
   | zero=>exact h
   | succ j=>exact cY.on (gb.2 (.inl (Nat.lt_succ_self i))) h
 | _=>exact h
theorem Dp {bs rs:List Nat} (hb:∀b,cE b bs=true→(ax cl.boxes b).isSome) (hr:∀id,cE id rs=true→ax cl.roots id=(ax st.roots id).map Rt.Da) {c:Sc} {u:Value}
 (h:aZ w g st c u) (hn:∀id∈((c.fix st).boxed bs).names.2,cE id rs=true):aZ w g cl ((c.fix st).boxed bs) u:=by
 refine ⟨h.1,?_⟩
 have h:=h.2
 have root:∀ {id:Nat} {r:cB},ax st.roots id=some (.live r)→cE id rs=true→ax cl.roots id=some (.live ⟨r.t,r.md.norm,0,[],r.xs⟩):=fun h1 h2=>by rw [hr _ h2,h1];rfl
 cases c with
 | v x=>exact h
 | nl=>exact h
 | ro t xs=>exact h
 | rk t xs=>exact h
 | rp t x off=>exact h
 | oT fn ys=>exact h
 | dead=>exact h
 | pt b off=>
  simp only [Sc.fix,Sc.boxed] at hn ⊢
  cases hm:cE b bs with
  | true=>simp only [cond_true];exact ⟨h.1,hb b hm⟩
  | false=>simp only [cond_false];trivial
 | fH fn cs=>
  simp only [Sc.fix,Sc.boxed] at hn ⊢
  cases hm:cs.all fun b=>cE b bs with
  | true=>simp only [cond_true];exact ⟨h.1,fun b hbm=>hb b (List.all_eq_true.1 hm b hbm)⟩
  | false=>simp only [cond_false];trivial
 | h id ver iv p=>
  simp only [Sc.fix] at hn ⊢
  split at hn<;>rename_i e
  ·rename_i r
   cases hv:Nat.beq r.ver ver&&iu r iv p with
   | false=>simp only [cond_false];trivial
   | true=>
    simp only [hv,cond_true,Sc.boxed] at hn ⊢
    have nc:=root e (hn id (by simp [Sc.names]))
    obtain ⟨h1,h2⟩:=Bool.and_eq_true_iff.1 hv
    refine ⟨by unfold cJ;rw [nc];exact .inr ⟨rfl,Nat.le_refl _⟩,fun r' kF=> ?_⟩
    have:=kF.is nc
    subst this
    exact h.2 r ⟨.inl e,gX h1,h2⟩
  ·trivial
 | vw id ver lo hi=>
  simp only [Sc.fix] at hn ⊢
  split at hn<;>rename_i e
  ·rename_i r
   cases hv:Nat.beq r.ver ver with
   | false=>simp only [cond_false];trivial
   | true=>
    simp only [hv,cond_true,Sc.boxed] at hn ⊢
    have nc:=root e (hn id (by simp [Sc.names]))
    refine ⟨by unfold cJ;rw [nc];exact .inr ⟨rfl,Nat.le_refl _⟩,fun r' kF=> ?_⟩
    have:=kF.is nc
    subst this
    exact h.2 r ⟨.inl e,gX hv,by simp [iu]⟩
  ·trivial
 | pe id ver iv p i off=>
  simp only [Sc.fix] at hn ⊢
  split at hn<;>rename_i e
  ·rename_i r
   cases hv:Nat.beq r.ver ver&&iu r iv p with
   | false=>simp only [cond_false];trivial
   | true=>
    simp only [hv,cond_true,Sc.boxed] at hn ⊢
    have nc:=root e (hn id (by simp [Sc.names]))
    obtain ⟨h1,h2⟩:=Bool.and_eq_true_iff.1 hv
    refine ⟨by unfold cJ;rw [nc];exact .inr ⟨rfl,Nat.le_refl _⟩,fun r' kF=> ?_⟩
    have:=kF.is nc
    subst this
    exact h.2 r ⟨.inl e,gX h1,h2⟩
  ·trivial
theorem Inv.clean (I:Inv w0 Mf g st a w) (aJ:List Nat):Inv w0 Mf g (st.clean aJ) a w:=by
 generalize yR:st.clean aJ=cl
 have agH:=yR
 unfold St.clean at yR
 simp only at yR
 generalize o8:(List.map (fun s=>(s.fst,Sv.map (Sc.fix st) s.snd)) (List.filter (fun s=>cE s.fst aJ) st.aA))=uX at yR
 generalize yS:(List.filter (fun b=>cE b.fst (St.named uX).fst||cE b.fst (l9 (List.filter (fun b=>cE b.fst (St.named uX).fst) st.boxes)).fst) st.boxes)=mJ at yR
 generalize Tg:List.map (fun x=>x.fst) mJ=bs at yR
 generalize sR:List.map (fun s=>(s.fst,Sv.map (Sc.boxed bs) s.snd)) uX=Dq at yR
 generalize q8:List.map (fun b=>(b.fst,({ t:=b.snd.t,cs:=List.map (fun c=>(Sc.fix st c).boxed bs) b.snd.cs }:Bx))) mJ=Dr at yR
 generalize hrs:(St.named Dq).snd++(l9 Dr).snd=rs at yR
 have eS:cl.aA=Dq:=by rw [← yR]
 have eB:cl.boxes=Dr:=by rw [← yR]
 have eR:cl.roots=(st.roots.filter fun r=>cE r.1 rs).map fun r=>(r.1,r.2.Da):=by rw [← yR]
 have hS:∀n,ax cl.aA n=cond (cE n aJ) ((ax st.aA n).map fun v=>v.map fun c=>(c.fix st).boxed bs) none:=fun n=>by
  rw [eS,←sR,nM,←o8,nM,ia (fun m=>cE m aJ)]
  cases cE n aJ with
  | false=>rfl
  | true=>cases ax st.aA n with
   | none=>rfl
   | some v=>simp only [cond_true,Option.map_some,Sv.map_map]
 have hB1:∀n x,ax mJ n=some x→ax st.boxes n=some x:=fun n x h=>by
  rw [← yS,ia (fun m=>cE m (St.named uX).fst||cE m (l9 (List.filter (fun b=>cE b.fst (St.named uX).fst) st.boxes)).fst)] at h
  exact (a8 h).2
 have hB:∀n,ax cl.boxes n=(ax mJ n).map fun x=>⟨x.t,x.cs.map fun c=>(c.fix st).boxed bs⟩:=fun n=>by
  rw [eB,←q8]
  exact nM (fun x:Bx=>(⟨x.t,x.cs.map fun c=>(c.fix st).boxed bs⟩:Bx)) mJ n
 have hR:∀n,ax cl.roots n=cond (cE n rs) ((ax st.roots n).map Rt.Da) none:=fun n=>by
  rw [eR,nM,ia (fun m=>cE m rs)]
  cases cE n rs<;>rfl
 have acZ:∀b,cE b bs=true→(ax cl.boxes b).isSome:=fun b hb=>by
  have:(ax mJ b).isSome:=x3 (by rw [Tg];exact cd.1 hb)
  rw [hB]
  cases h:ax mJ b with
  | none=>rw [h] at this;cases this
  | some x=>rfl
 have ac0:∀id,cE id rs=true→ax cl.roots id=(ax st.roots id).map Rt.Da:=fun id h=>by rw [hR,h];rfl
 have cell:=fun (c:Sc) (u:Value) (h:aZ w g st c u)=>Dp (cl:=cl) (bs:=bs) (rs:=rs) acZ ac0 h
 have eG:∀id,aP cl id→aP st id:=fun id ⟨r,h,hf⟩=>by
  rw [hR] at h
  obtain ⟨_,h⟩:=a8 h
  cases lW:ax st.roots id with
  | none=>rw [lW] at h;cases h
  | some x=>
   rw [lW] at h
   cases x with
   | live r0=>simp only [Option.map_some,Rt.Da,Option.some.injEq,Rt.live.injEq] at h;subst h;exact ⟨r0,lW,by rw [← JF];exact hf⟩
   | dj r0=>cases h
   | gone v=>cases h
 have oX:∀b,bA cl b→bA st b:=fun b h=>by
  unfold bA at *
  rw [hB] at h
  cases h1:ax mJ b with
  | none=>rw [h1] at h;cases h
  | some x=>rw [hB1 b x h1];rfl
 refine { aA:= ?_,boxes:= ?_,roots:= ?_,apart:= ?_,kept:=I.kept,defers:=I.defers,size:=I.size,base:=⟨I.base.wl,I.base.ap,I.base.ro⟩ }
 ·intro s sv h
  have zl:(s,sv)∈Dq:=by rw [← eS];exact eH h
  rw [hS] at h
  obtain ⟨_,h⟩:=a8 h
  obtain ⟨v,hv,rfl⟩:∃v,ax st.aA s=some v∧(v.map fun c=>(c.fix st).boxed bs)=sv:=by simpa using h
  obtain ⟨u,hu,sT⟩:=I.aA s v hv
  refine ⟨u,hu,sT.Dn fun c u hc kE=>cell c u kE fun id hid=>cd.2 ?_⟩
  rw [← hrs]
  refine List.mem_append.2 (.inl (List.mem_flatten.2 ⟨_,List.mem_map.2 ⟨((c.fix st).boxed bs).names,List.mem_flatten.2 ⟨_,List.mem_map.2 ⟨_,zl,rfl⟩,?_⟩,rfl⟩,hid⟩))
  exact List.mem_map.2 ⟨_,by rw [Sv.oH];exact List.mem_map.2 ⟨c,hc,rfl⟩,rfl⟩
 ·intro b x h
  have zl:(b,x)∈Dr:=by rw [← eB];exact eH h
  rw [hB] at h
  obtain ⟨x0,G4,rfl⟩:∃x0,ax mJ b=some x0∧(⟨x0.t,x0.cs.map fun c=>(c.fix st).boxed bs⟩:Bx)=x:=by simpa using h
  obtain ⟨us,el,h1,h2⟩:=I.boxes b x0 (hB1 b x0 G4)
  refine ⟨us,el,h1,h2.Dn fun c u hc kE=>cell c u kE fun id hid=>cd.2 ?_⟩
  rw [← hrs]
  refine List.mem_append.2 (.inr (List.mem_flatten.2 ⟨_,List.mem_map.2 ⟨((c.fix st).boxed bs).names,List.mem_flatten.2 ⟨_,List.mem_map.2 ⟨_,zl,rfl⟩,?_⟩,rfl⟩,hid⟩))
  exact List.mem_map.2 ⟨_,List.mem_map.2 ⟨c,hc,rfl⟩,rfl⟩
 ·intro id r h
  rw [hR] at h
  obtain ⟨_,h⟩:=a8 h
  cases lW:ax st.roots id with
  | none=>rw [lW] at h;cases h
  | some x=>
   rw [lW] at h
   cases x with
   | live r0=>
    simp only [Option.map_some,Rt.Da,Option.some.injEq,Rt.live.injEq] at h
    subst h
    exact (I.roots id r0 lW).norm
   | dj r0=>cases h
   | gone v=>cases h
 ·exact {
   rr:=fun id aH k h h'=>I.apart.rr id aH k (eG id h) (eG aH h')
   rb:=fun id b h h'=>I.apart.rb id b (eG id h) (oX b h')
   bb:=fun b b' h h'=>I.apart.bb b b' (oX b h) (oX b' h')
   dZ:=fun id k h=>I.apart.dZ id k (eG id h)
   fL:=fun b h=>I.apart.fL b (oX b h)
   ck:=fun id k h=>I.apart.ck id k (eG id h)
   dA:=fun b h=>I.apart.dA b (oX b h)
   eb:=fun id k h=>I.apart.eb id k (eG id h)
   c7:=I.apart.c7
   bU:=I.apart.bU }
theorem Inv.note (I:Inv w0 Mf g st a w) {j:Nat} {u:Value} (hu:a.tmps[j]? =some u) {sv:Sv} (hs:dD w g st sv u):Inv w0 Mf g { st with aA:=aX st.aA j sv } a w:=by
 have hj:j<a.tmps.size:=by
  rcases Nat.lt_or_ge j a.tmps.size with h | h
  ·exact h
  ·simp [Array.getElem?_eq_none h] at hu
 have e:a.put (some j) u=a:=by
  cases a with
  | mk tmps defers=>
   simp only [Act.put,Act.mk.injEq,and_true]
   apply Array.ext_getElem?
   intro i
   by_cases h:j=i
   ·subst h;rw [hu];simp [hj]
   ·simp [Array.getElem?_setIfInBounds_ne h]
 have:=I.CR (dst:=some j) (s:=sv) (v:=u) (fun d hd=>by cases hd;rw [← I.size];exact hj) hs
 rw [e] at this
 exact this
theorem Inv.Ql (I:Inv w0 Mf g st a w) (m:Mk) (hf:m.free st=true):
    ∃g',g'.n=g.n∧Inv w0 Mf g' { st with roots:=m.roots st.roots } a w∧(∀ c u,aZ w g st c u→aZ w g' { st with roots:=m.roots st.roots } c u)∧
      aZ w g' { st with roots:=m.roots st.roots } m.cell (.slice none 0 0):=by
 unfold Mk.roots Mk.cell
 cases cZ:m.ro with
 | true=>
  simp only [cond_true]
  refine ⟨g,rfl,I,fun _ _ h=>h,rfl,?_⟩
  show fK w g.ro m.t [] (.slice none 0 0)
  obtain ⟨av,h0,h1⟩:=zc w g.ro m.t
  exact ⟨av,h0,h1.rd⟩
 | false=>
  simp only [cond_false]
  simp only [Mk.free,cZ,Bool.false_or] at hf
  have hn:ax st.roots m.id=none:=by
   cases h:ax st.roots m.id with
   | none=>rfl
   | some _=>rw [h] at hf;cases hf
  obtain ⟨g',I',G',hc⟩:=I.I5 (id:=m.id) (t:=m.t) (xs:=[]) (ver:=0) (by unfold dv;rw [hn];trivial) (fun ro=>by rw [hn];simp) (F:=fun _=>False) (zc w _ m.t) (fun k h=>h.elim)
  exact ⟨g',G'.n,I',G'.map,hc⟩
theorem x4 {o:Option Sc} (h:GX o=true):o=some .nl:=by
 unfold GX at h
 split at h
 ·rfl
 ·cases h
theorem cH.JG {w:World} {g g':Gh} {st aE:St} {cs:List Sc} {us:Array Value} {j:Nat} {c:Sc} (h:cH w g st cs us) (hm:∀c u,aZ w g st c u→aZ w g' aE c u) (hj:cs[j]? =some .nl) (hc:aZ w g' aE c (.slice none 0 0)):
    cH w g' aE (cs.set j c) us:=by
 refine ⟨by simp [h.1],fun i x hx=> ?_⟩
 by_cases e:j=i
 ·subst e
  have ct:j<cs.length:=by
   rcases Nat.lt_or_ge j cs.length with h' | h'
   ·exact h'
   ·simp [List.getElem?_eq_none h'] at hj
  simp only [List.getElem?_set_self ct,Option.some.injEq] at hx
  subst hx
  obtain ⟨z,hz,hr⟩:=h.2 j .nl hj
  have hz':z = .slice none 0 0:=hr.2
  subst hz'
  exact ⟨_,hz,hc⟩
 ·rw [List.getElem?_set_ne e] at hx
  obtain ⟨z,hz,hr⟩:=h.2 i x hx
  exact ⟨z,hz,hm x z hr⟩
theorem Inv.A6 (I:Inv w0 Mf g st a w) (m:Mk):∃g',g'.n=g.n∧Inv w0 Mf g' (st.A6 m) a w:=by
 unfold St.A6
 cases hf:m.free st with
 | false=>exact ⟨g,rfl,I⟩
 | true=>
  simp only [cond_true]
  obtain ⟨g',hn,I',hm,hc⟩:=I.Ql m hf
  cases hb:m.box with
  | true=>
   simp only [cond_true]
   split
   ·rename_i x hx
    cases Yw:GX x.cs[m.j]? with
    | false=>exact ⟨g,rfl,I⟩
    | true=>
     simp only [cond_true]
     have cU:bA { st with roots:=m.roots st.roots } m.s:=by unfold bA;simp only [hx];rfl
     obtain ⟨us,el,h1,h2⟩:=I.boxes m.s x hx
     obtain ⟨us',p3,Au,Ie⟩:=I'.boxes m.s x hx
     exact ⟨g',hn,I'.qf cU ⟨Nat.le_refl _,fun _ _ _=>rfl⟩ I'.kept Au (Ie.JG (fun _ _ h=>h) (x4 Yw) hc)⟩
   ·exact ⟨g,rfl,I⟩
  | false=>
   simp only [cond_false]
   split
   ·rename_i hx
    obtain ⟨u,hu,hr⟩:=I.aA m.s _ hx
    have wz:u = .slice none 0 0:=hr.2
    subst wz
    exact ⟨g',hn,I'.note hu (sv:= .c (.one m.cell)) hc⟩
   ·rename_i cs hx
    cases Yw:GX cs[m.j]? with
    | false=>exact ⟨g,rfl,I⟩
    | true=>
     simp only [cond_true]
     obtain ⟨u,hu,us,e,hr⟩:=I.aA m.s _ hx
     exact ⟨g',hn,I'.note hu (sv:= .c (.agg (cs.set m.j m.cell))) ⟨us,e,hr.JG hm (x4 Yw) hc⟩⟩
   ·exact ⟨g,rfl,I⟩
theorem Inv.rq:∀(ms:List Mk) {g:Gh} {st:St},Inv w0 Mf g st a w→∃g',g'.n=g.n∧Inv w0 Mf g' (st.rq ms) a w
 | [],g,st,I=>⟨g,rfl,I⟩
 | m::ms,g,st,I=>by
  obtain ⟨g1,h1,I1⟩:=I.A6 m
  obtain ⟨g2,h2,I2⟩:=Inv.rq ms I1
  exact ⟨g2,h2.trans h1,I2⟩
end Go.Gm
namespace Go.Gm
open Go
variable {P : Program} {E : Env} {w0 w : World} {Mf : Nat → Prop} {g : Gh} {st : St} {a : Act}
theorem Inv.Jd (I:Inv w0 Mf g st a w) (id:Nat):∃g',g'.n=g.n∧Inv w0 Mf g' (st.Jd id) a w:=by
 unfold St.Jd
 split
 ·rename_i r hr
  cases xe:r.md.cW
  ·obtain ⟨g',h1,_,_,_,_,_,h2,_⟩:=I.xP hr xe
   exact ⟨g',h1,h2⟩
  ·exact ⟨g,rfl,I⟩
 ·exact ⟨g,rfl,I⟩
theorem Inv.Y2 (I:Inv w0 Mf g st a w) (id:Nat):∃g',g'.n=g.n∧Inv w0 Mf g' (st.Y2 id) a w:=by
 unfold St.Y2
 split
 ·rename_i t ver log xs hr
  have hT:bo w (g.rf id) t xs (g.rv id):=I.roots id _ hr
  obtain ⟨I1,_⟩:=I.yY hr rfl (md:= .part (.cur 0 0)) rfl (F:=g.rf id) (fun k hk=>hk) (by unfold aS;simpa using hT.part (.cur 0 0))
  exact ⟨g.sU fun i k=>if i=id then g.rf id k else g.rf i k,rfl,I1⟩
 ·exact ⟨g,rfl,I⟩
theorem Inv.Y1 (I:Inv w0 Mf g st a w) (id:Nat):∃g',g'.n=g.n∧Inv w0 Mf g' (st.Y1 id) a w:=by
 unfold St.Y1
 split
 ·rename_i t ver log hr
  have cU:aP st id:=⟨_,hr,rfl⟩
  have fw:∀q,(∀ D∈([]:List Nat),q.length≤D)→g.rv id q=g.rv id q∧∀s,aR t ([]:List (El t)) q=some s→∃s',aR t ([]:List (El t)) q=some s'∧s'.t=s.t∧s'.xs.length=s.xs.length:=
   fun q _=>⟨rfl,fun s hs=>⟨s,hs,rfl,rfl⟩⟩
  have hT:bo w (g.rf id) t ([]:List (El t)) (g.rv id):=I.roots id _ hr
  refine ⟨(({ g with ro:=g.ro }:Gh).b8 id (g.rv id) (g.rf id)),rfl,?_⟩
  refine I.jI (ro:=⟨t,.deep,ver,log,[]⟩) (ro':=⟨t,.nq,ver,log,[]⟩) (G:=g.ro) (.inl hr) (bH.refl w) I.kept (fun k h=>h.elim) (fun k h=>h) (fun aH k h1 _ h3=>I.apart.dZ aH k h1 h3) I.apart.fL I.apart.c7 I.apart.bU rfl rfl (l:=[]) (by simp) fw ?_ (fun k hk=> ?_)
  ·unfold aS
   simp only [Gh.b8,if_true]
   refine ⟨hT.1 [] ⟨t,[]⟩ rfl,fun p s hp hs=> ?_⟩
   cases p with
   | nil=>exact (hp rfl).elim
   | cons ij p=>simp [aR] at hs
  ·exact ⟨fun aH h1 h2 h3=>h2 (I.apart.rr aH id k h1 cU h3 hk),I.apart.dZ id k cU hk,fun b hb e=>I.apart.rb id b cU hb (e▸hk),I.apart.ck id k cU hk,I.apart.eb id k cU hk⟩
 ·exact ⟨g,rfl,I⟩
theorem Inv.Je (I:Inv w0 Mf g st a w) (id:Nat):∃g',g'.n=g.n∧Inv w0 Mf g' (st.Je id) a w:=by
 unfold St.Je
 cases Nat.ble 1000000000 id
 ·exact I.Jd id
 ·cases Nat.ble 2000000000 id
  ·exact I.Y1 _
  ·exact I.Y2 _
theorem Inv.frozen:∀(is:List Nat) {g:Gh} {st:St},Inv w0 Mf g st a w→∃g',g'.n=g.n∧Inv w0 Mf g' (st.frozen is) a w
 | [],g,st,I=>⟨g,rfl,I⟩
 | i::is,g,st,I=>by
  obtain ⟨g1,h1,I1⟩:=I.Je i
  obtain ⟨g2,h2,I2⟩:=Inv.frozen is I1
  exact ⟨g2,h2.trans h1,I2⟩
theorem oI {α β:Type} (f:α→β):∀(l:List (Nat×α)) (n:Nat),ax (l.map fun x=>(x.1,f x.2)) n=(ax l n).map f
  | [],_=>rfl
  | (k,v)::r,n=>by
    simp only [List.map_cons,ax]
    cases Nat.beq n k
    · simp only [cond_false];exact oI f r n
    · rfl
theorem x5 {α:Type} (q:Nat):∀(l:List (Nat×α)) (n:Nat),ax (l.filter fun x=> !(Nat.beq x.1 q)) n=if n=q then none else ax l n
  | [],n=>by simp [ax]
  | (k,v)::r,n=>by
    have ih:=x5 q r n
    rw [List.filter_cons]
    cases hk:Nat.beq k q with
    | true=>
      have:k=q:=gX hk
      subst this
      simp only [Bool.not_true,Bool.false_eq_true,if_false,ih,ax]
      by_cases e:n=k
      · simp [e]
      · have:Nat.beq n k=false:=by cases h:Nat.beq n k with | true=>exact (e (gX h)).elim | false=>rfl
        simp [e,this]
    | false=>
      simp only [Bool.not_false,if_true,ax,ih]
      cases hn:Nat.beq n k with
      | true=>
        have:n=k:=gX hn
        subst this
        have dP:n≠q:=fun e=>by subst e;rw [Nat.beq_refl] at hk;cases hk
        simp [dP]
      | false=>rfl
theorem JH (x y n:Nat):rn x y n=if n=x then y else n:=by
 unfold rn
 by_cases h:n=x
 ·subst h;rw [Nat.beq_refl];simp
 ·have:Nat.beq n x=false:=by cases hb:Nat.beq n x with | true=>exact (h (gX hb)).elim | false=>rfl
  rw [this];simp [h]
def Gh.zn (g:Gh) (x y:Nat):Gh:={ g with rv:=fun n=>if n=y then g.rv x else g.rv n,rf:=fun n=>if n=y then g.rf x else g.rf n }
theorem dD.Ds {g':Gh} {aE:St} {f:Sc→Sc} (h:∀c u,aZ w g st c u→aZ w g' aE (f c) u) {sv:Sv} {u:Value} (hs:dD w g st sv u):dD w g' aE (sv.map f) u:=by
 have hc:∀ {cs:List Sc} {us:Array Value},cH w g st cs us→cH w g' aE (cs.map f) us:=fun fe=>⟨by rw [fe.1,List.length_map],fun j c hj=>by
  rw [List.getElem?_map] at hj
  obtain ⟨c0,h0,rfl⟩:=Option.map_eq_some_iff.1 hj
  obtain ⟨z,h1,h2⟩:=fe.2 j c0 h0
  exact ⟨z,h1,h _ _ h2⟩⟩
 have hm:∀ {x:Cm} {u:Value},ix w g st x u→ix w g' aE (x.map f) u:=by
  intro x u hx
  cases x with
  | one c=>exact h _ _ hx
  | agg cs=>obtain ⟨us,e,h1⟩:=hx;exact ⟨us,e,hc h1⟩
 cases sv with
 | c x=>exact hm hs
 | xx vs=>
  obtain ⟨us,e,h1,h2⟩:=hs
  refine ⟨us,e,by rw [h1,List.length_map],fun j x hj=> ?_⟩
  rw [List.getElem?_map] at hj
  obtain ⟨x0,h0,rfl⟩:=Option.map_eq_some_iff.1 hj
  obtain ⟨z,h3,h4⟩:=h2 j x0 h0
  exact ⟨z,h3,hm h4⟩
theorem cH.Ds {g':Gh} {aE:St} {f:Sc→Sc} (h:∀c u,aZ w g st c u→aZ w g' aE (f c) u) {cs:List Sc} {us:Array Value} (fe:cH w g st cs us):cH w g' aE (cs.map f) us:=
 ⟨by rw [fe.1,List.length_map],fun j c hj=>by
    rw [List.getElem?_map] at hj
    obtain ⟨c0,h0,rfl⟩:=Option.map_eq_some_iff.1 hj
    obtain ⟨z,h1,h2⟩:=fe.2 j c0 h0
    exact ⟨z,h1,h _ _ h2⟩⟩
theorem Inv.Jf (I:Inv w0 Mf g st a w) (x y:Nat):∃g',g'.n=g.n∧Inv w0 Mf g' (st.Jf x y) a w:=by
 unfold St.Jf
 split
 case h_2=>exact ⟨g,rfl,I⟩
 rename_i r hx
 split
 case h_2=>exact ⟨g,rfl,I⟩
 rename_i hy
 have hxy:x≠y:=fun e=>by subst e;rw [hx] at hy;cases hy
 generalize Vt:({ aA:=st.aA.map fun s=>(s.1,s.2.map (Sc.zn x y)),boxes:=st.boxes.map fun b=>(b.1,b.2.map (Sc.zn x y)),roots:=aX (st.roots.filter fun b=> !(Nat.beq b.1 x)) y (.live r) }:St)=aE
 have zk:aE.aA=st.aA.map fun s=>(s.1,s.2.map (Sc.zn x y)):=by rw [← Vt]
 have JI:aE.boxes=st.boxes.map fun b=>(b.1,b.2.map (Sc.zn x y)):=by rw [← Vt]
 have rA:∀n,ax aE.roots n=if n=y then some (.live r) else if n=x then none else ax st.roots n:=by
  intro n
  rw [← Vt]
  simp only [aF,x5]
 have hg:∀n,n≠y→(g.zn x y).rv n=g.rv n∧(g.zn x y).rf n=g.rf n:=fun n hn=>by simp [Gh.zn,hn]
 have X2:(g.zn x y).rv y=g.rv x∧(g.zn x y).rf y=g.rf x:=by simp [Gh.zn]
 have oX:∀b,(ax aE.boxes b).isSome=(ax st.boxes b).isSome:=fun b=>by rw [JI,oI];cases ax st.boxes b<;>rfl
 have fM:∀id ver iv,cJ st id ver iv→id≠y:=fun id ver iv h e=>by subst e;unfold cJ at h;rw [hy] at h;exact h
 have JJ:∀id ver iv,cJ st id ver iv→cJ aE (rn x y id) ver iv:=by
  intro id ver iv h
  have dP:=fM id ver iv h
  rw [JH]
  unfold cJ at h ⊢
  by_cases e:id=x
  ·subst e
   rw [hx] at h
   rw [if_pos rfl,rA,if_pos rfl]
   exact h
  ·rw [if_neg e,rA,if_neg dP,if_neg e];exact h
 have w4:∀id ver iv p r',id≠y→Vx aE (rn x y id) ver iv p r'→Vx st id ver iv p r':=by
  intro id ver iv p r' dP ⟨h1,h2,h3⟩
  refine ⟨?_,h2,h3⟩
  rw [JH] at h1
  by_cases e:id=x
  ·subst e
   rw [if_pos rfl,rA,if_pos rfl] at h1
   rw [hx];exact h1
  ·rw [if_neg e,rA,if_neg dP,if_neg e] at h1;exact h1
 have To:∀id,id≠y→(g.zn x y).rv (rn x y id)=g.rv id:=by
  intro id dP
  rw [JH]
  by_cases e:id=x
  ·subst e;rw [if_pos rfl];exact X2.1
  ·rw [if_neg e];exact (hg id dP).1
 have EL:∀c u,aZ w g st c u→aZ w (g.zn x y) aE (Sc.zn x y c) u:=by
  intro c u ⟨h1,h2⟩
  refine ⟨h1,?_⟩
  cases c with
  | h id ver iv p=>
   have dP:=fM _ _ _ h2.1
   exact ⟨JJ _ _ _ h2.1,fun r' kF=>by rw [To id dP];exact h2.2 r' (w4 _ _ _ _ _ dP kF)⟩
  | vw id ver lo hi=>
   have dP:=fM _ _ _ h2.1
   exact ⟨JJ _ _ _ h2.1,fun r' kF=>by rw [To id dP];exact h2.2 r' (w4 _ _ _ _ _ dP kF)⟩
  | pe id ver iv p i off=>
   have dP:=fM _ _ _ h2.1
   exact ⟨JJ _ _ _ h2.1,fun r' kF=>by rw [To id dP];exact h2.2 r' (w4 _ _ _ _ _ dP kF)⟩
  | pt b off=>exact ⟨h2.1,by rw [oX];exact h2.2⟩
  | fH f bs=>exact ⟨h2.1,fun b hb=>by rw [oX];exact h2.2 b hb⟩
  | _=>exact h2
 have eG:∀id,aP aE id→(id=y∧aP st x)∨(id≠y∧id≠x∧aP st id):=by
  intro id ⟨r',h1,h2⟩
  rw [rA] at h1
  by_cases e:id=y
  ·rw [if_pos e] at h1;cases h1
   exact .inl ⟨e,r,hx,h2⟩
  ·rw [if_neg e] at h1
   by_cases e2:id=x
   ·rw [if_pos e2] at h1;cases h1
   ·rw [if_neg e2] at h1;exact .inr ⟨e,e2,r',h1,h2⟩
 have Qm:∀id,aP aE id→∃id0,aP st id0∧(g.zn x y).rf id=g.rf id0∧∀aH,aP aE aH→(g.zn x y).rf aH=g.rf id0→True:=fun id h=>by
  rcases eG id h with ⟨rfl,h1⟩ | ⟨h1,_,h2⟩
  ·exact ⟨x,h1,X2.2,fun _ _ _=>trivial⟩
  ·exact ⟨id,h2,(hg id h1).2,fun _ _ _=>trivial⟩
 have qg:∀b,bA aE b→bA st b:=fun b h=>by unfold bA at h ⊢;rwa [oX] at h
 refine ⟨g.zn x y,rfl,?_⟩
 exact {
  aA:=fun s sv h=>by
   rw [zk,oI] at h
   obtain ⟨sv0,h0,rfl⟩:=Option.map_eq_some_iff.1 h
   obtain ⟨u,hu,hr⟩:=I.aA s sv0 h0
   exact ⟨u,hu,hr.Ds EL⟩
  boxes:=fun b z h=>by
   rw [JI,oI] at h
   obtain ⟨z0,h0,rfl⟩:=Option.map_eq_some_iff.1 h
   obtain ⟨us,el,h1,h2⟩:=I.boxes b z0 h0
   exact ⟨us,el,h1,h2.Ds EL⟩
  roots:=fun id r' h=>by
   rw [rA] at h
   by_cases e:id=y
   ·rw [if_pos e] at h;cases h
    subst e
    have:=I.roots x r hx
    unfold aS at this ⊢
    rw [X2.1,X2.2];exact this
   ·rw [if_neg e] at h
    by_cases e2:id=x
    ·rw [if_pos e2] at h;cases h
    ·rw [if_neg e2] at h
     have:=I.roots id r' h
     unfold aS at this ⊢
     rw [(hg id e).1,(hg id e).2];exact this
  apart:={
   rr:=fun id aH k h h' h1 h2=>by
    rcases eG id h with ⟨rfl,h3⟩ | ⟨h3,h4,h5⟩<;>rcases eG aH h' with ⟨rfl,h6⟩ | ⟨h6,h7,h8⟩
    ·rfl
    ·rw [X2.2] at h1;rw [(hg aH h6).2] at h2
     exact (h7 (I.apart.rr aH x k h8 h3 h2 h1)).elim
    ·rw [X2.2] at h2;rw [(hg id h3).2] at h1
     exact (h4 (I.apart.rr id x k h5 h6 h1 h2)).elim
    ·rw [(hg id h3).2] at h1;rw [(hg aH h6).2] at h2
     exact I.apart.rr id aH k h5 h8 h1 h2
   rb:=fun id b h h'=>by obtain ⟨i0,h1,h2,_⟩:=Qm id h;rw [h2];exact I.apart.rb i0 b h1 (qg b h')
   bb:=fun b b' h h'=>I.apart.bb b b' (qg b h) (qg b' h')
   dZ:=fun id k h hk=>by obtain ⟨i0,h1,h2,_⟩:=Qm id h;rw [h2] at hk;exact I.apart.dZ i0 k h1 hk
   fL:=fun b h=>I.apart.fL b (qg b h)
   ck:=fun id k h hk=>by obtain ⟨i0,h1,h2,_⟩:=Qm id h;rw [h2] at hk;exact I.apart.ck i0 k h1 hk
   dA:=fun b h=>I.apart.dA b (qg b h)
   eb:=fun id k h hk=>by obtain ⟨i0,h1,h2,_⟩:=Qm id h;rw [h2] at hk;exact I.apart.eb i0 k h1 hk
   c7:=I.apart.c7
   bU:=I.apart.bU }
  kept:=I.kept
  defers:=I.defers
  size:=I.size
  base:=⟨I.base.wl,I.base.ap,I.base.ro⟩ }
theorem Inv.renamed:∀(xs:List (Nat×Nat)) {g:Gh} {st:St},Inv w0 Mf g st a w→∃g',g'.n=g.n∧Inv w0 Mf g' (st.renamed xs) a w
 | [],g,st,I=>⟨g,rfl,I⟩
 | x::xs,g,st,I=>by
  obtain ⟨g1,h1,I1⟩:=I.Jf x.1 x.2
  obtain ⟨g2,h2,I2⟩:=Inv.renamed xs I1
  exact ⟨g2,h2.trans h1,I2⟩
theorem Inv.tidy (k:Kp) (I:Inv w0 Mf g st a w):∃g',g'.n=g.n∧Inv w0 Mf g' (k.tidy st) a w:=by
 unfold Kp.tidy
 obtain ⟨g1,h1,I1⟩:=Inv.rq k.lists (I.clean k.aA)
 obtain ⟨g2,h2,I2⟩:=Inv.frozen k.YZ I1
 obtain ⟨g3,h3,I3⟩:=Inv.renamed k.Y0 I2
 exact ⟨g3,h3.trans (h2.trans h1),I3⟩
end Go.Gm
namespace Go.Gm
open Go
variable {R : Type} {P : Program} {E : Env} {w0 : World} {Mf : Nat → Prop}
def x6 (N:Nat) (ps:List Nat) (l:List Oper):Bool:=l.all fun o=>match o.dst with | some d=>Nat.blt d N&& !cE d ps | none=>true
def codeOk (N:Nat) (ps:List Nat):Code→Bool
 | .region _ ops _=>x6 N ps ops.toList
 | .seq a b=>codeOk N ps a&&codeOk N ps b
 | .cond _ x y=>codeOk N ps x&&codeOk N ps y
 | .block _ c=>codeOk N ps c
 | .loop c=>codeOk N ps c
 | _=>true
def Ex.out:Ex→Exit | .normal=> .normal | .exit id=> .exit id | .ret=> .ret
theorem least {p:Nat→Prop}:∀ {m:Nat},p m→∃m,p m∧∀k,p k→m≤k:=by
 intro m
 induction m using Nat.strongRecOn with
 | _ m ih=>
  intro h
  by_cases hk:∃k,k<m∧p k
  ·obtain ⟨k,ct,hp⟩:=hk;exact ih k ct hp
  ·exact ⟨m,h,fun k hp=>Nat.le_of_not_lt fun ct=>hk ⟨k,ct,hp⟩⟩
open Classical in
noncomputable def leastOf (p:Nat→Prop):Nat:=if h:∃m,p m then Classical.choose (least h.choose_spec) else 0
theorem leastOf_spec {p:Nat→Prop} {m:Nat} (h:p m):p (leastOf p)∧leastOf p≤m:=by
 have h':∃m,p m:=⟨m,h⟩
 unfold leastOf
 rw [dif_pos h']
 have:=Classical.choose_spec (least h'.choose_spec)
 exact ⟨this.1,this.2 m h⟩
def JK (ps:List Nat) (us:Nat→Option Value) (tmps:Array Value):Prop:=∀j∈ps,tmps[j]? =us j
theorem Bl {N:Nat} {ps:List Nat} {us:Nat→Option Value} {l:List Oper} (h:x6 N ps l=true):(∀ o∈l,qp (JK ps us) o)∧∀o∈l,∀d,o.dst=some d→d<N:=by
 simp only [x6,List.all_eq_true] at h
 refine ⟨fun o ho a v hJ j hj=> ?_,fun o ho d hd=> ?_⟩
 ·have:=h o ho
  cases hd:o.dst with
  | none=>simp only [Act.put];exact hJ j hj
  | some d=>
   rw [hd] at this
   simp only [Bool.and_eq_true,Bool.not_eq_true'] at this
   have dP:d≠j:=fun e=>by subst e;rw [cd.2 hj] at this;cases this.2
   simp only [Act.put,Array.getElem?_setIfInBounds_ne dP]
   exact hJ j hj
 ·have:=h o ho
  rw [hd] at this
  simp only [Bool.and_eq_true] at this
  have:=this.1
  rw [Nat.blt_eq] at this
  exact this
theorem JL (hE:E.Ok P) (hN:E.lC) {aJ:Nat→Kp} {rounds:Nat} {F:Fx} {ps:List Nat} {us:Nat→Option Value}:
    ∀(_:tH P F.wl) (c:Code) {R:Type} {k:Kx R} {r:R} {g:Gh} {st:St} {a:Act} {w:World} {Q:Exit→Act→World→Prop},codeOk F.sz ps c=true→ev E aJ rounds c st k=some r→g.n=F→Inv w0 Mf g st a w→JK ps us a.tmps→
 (∀ e g' aE a' w',k e aE=some r→g'.n=F→Inv w0 Mf g' aE a' w'→JK ps us a'.tmps→Q e.out a' w')→c.wp P Q a w:=by
 intro hW c
 induction c with
 | skip=>
  intro R k r g st a w Q _ h hg I hJ hK
  exact wp_skip (hK .normal g st a w h hg I hJ)
 | region id ops draw=>
  intro R k r g st a w Q hc h hg I hJ hK
  simp only [codeOk] at hc
  obtain ⟨h1,h2⟩:=Bl (us:=us) hc
  exact zA hE hN (by rw [hg];exact hW) h1 hJ I (fun o ho d hd=>by rw [hg];exact h2 o ho d hd) h fun g' aE a' w' hk p7 I' tj=>by
   obtain ⟨g2,h2,I2⟩:=I'.tidy (aJ id)
   exact hK .normal g2 _ a' w' hk (h2.trans (p7.trans hg)) I2 tj
 | seq x y ihx ihy=>
  intro R k r g st a w Q hc h hg I hJ hK
  simp only [codeOk,Bool.and_eq_true] at hc
  refine wp_seq (ihx hc.1 h hg I hJ fun e g' aE a' w' hk p7 I' tj=> ?_)
  cases e with
  | normal=>exact ihy hc.2 hk p7 I' tj hK
  | exit id=>exact hK (.exit id) g' aE a' w' hk p7 I' tj
  | ret=>exact hK .ret g' aE a' w' hk p7 I' tj
 | cond x t e iht ihe=>
  intro R k r g st a w Q hc h hg I hJ hK
  simp only [codeOk,Bool.and_eq_true] at hc
  simp only [ev] at h
  obtain ⟨b,h,hb⟩:=I.getBool h
  refine wp_cond hb ?_
  cases b with
  | true=>exact iht hc.1 h hg I hJ hK
  | false=>exact ihe hc.2 h hg I hJ hK
 | block id c ih=>
  intro R k r g st a w Q hc h hg I hJ hK
  simp only [codeOk] at hc
  refine wp_block (ih hc h hg I hJ fun e g' aE a' w' hk p7 I' tj=> ?_)
  cases e with
  | normal=>exact hK .normal g' aE a' w' hk p7 I' tj
  | ret=>exact hK .ret g' aE a' w' hk p7 I' tj
  | exit aH=>
   simp only at hk
   show if aH=id then Q .normal a' w' else Q (.exit aH) a' w'
   cases hb:Nat.beq aH id with
   | true=>
    rw [hb] at hk
    rw [if_pos (gX hb)]
    exact hK .normal g' aE a' w' hk p7 I' tj
   | false=>
    rw [hb] at hk
    have dP:aH≠id:=fun e=>by subst e;simp at hb
    rw [if_neg dP]
    exact hK (.exit aH) g' aE a' w' hk p7 I' tj
 | loop c ih=>
  intro R k r g st a w Q hc h hg I hJ hK
  simp only [codeOk] at hc
  simp only [ev] at h
  let p:Act→World→Nat→Prop:=fun a w m=>∃g st,iter (fun st k=>ev E aJ rounds c st k) m st k=some r∧g.n=F∧Inv w0 Mf g st a w∧JK ps us a.tmps
  refine wp_loop (fun a w=>∃m,p a w m) (fun a w=>leastOf (p a w)) ⟨rounds,g,st,h,hg,I,hJ⟩ fun a w ⟨m,hm⟩=> ?_
  obtain ⟨⟨g,st,h,hg,I,hJ⟩,_⟩:=leastOf_spec (p:=p a w) hm
  generalize hmm:leastOf (p a w)=mm at h
  cases mm with
  | zero=>simp only [iter] at h;cases h
  | succ mm=>
   simp only [iter] at h
   refine ih hc h hg I hJ fun e g' aE a' w' hk p7 I' tj=> ?_
   cases e with
   | normal=>
    have hp:p a' w' mm:=⟨g',aE,hk,p7,I',tj⟩
    exact ⟨⟨mm,hp⟩,Nat.lt_of_le_of_lt (leastOf_spec hp).2 (by show mm<_;omega)⟩
   | exit id=>exact hK (.exit id) g' aE a' w' hk p7 I' tj
   | ret=>exact hK .ret g' aE a' w' hk p7 I' tj
 | exit id=>
  intro R k r g st a w Q _ h hg I hJ hK
  exact wp_exit (hK (.exit id) g st a w h hg I hJ)
 | ret=>
  intro R k r g st a w Q _ h hg I hJ hK
  exact wp_ret (hK .ret g st a w h hg I hJ)
 | _=>intro R k r g st a w Q _ h;simp only [ev] at h;cases h
end Go.Gm
namespace Go.Gm
open Go
section ev
variable {R : Type}
def nN (j:Nat) (m:Am) (d:Dt) (st:St) (k:St→Option R):Option R:=
  match m,d with
 | .ro,.d t x=>eo false st j (64*j) [false] [.d t x] fun cs st _=>match cs with | [c]=>k { st with aA:=aX st.aA j (.c c) } | _=>none
 | .CO,.d t x=>eo true st j (64*j) [false] [.d t x] fun cs st _=>match cs with | [c]=>k { st with aA:=aX st.aA j (.c c) } | _=>none
 | .mut,.d (.sl t) x=>eo true st j (64*j) [false] [.d (.sl t) x] fun cs st _=>match cs with | [c]=>k { st with aA:=aX st.aA j (.c c) } | _=>none
 | .bj,.d t x=>eo true st j (64*j) [true] [.d t x] fun cs st _=>match cs with | [c]=>k { st with aA:=aX st.aA j (.c c) } | _=>none
 | .CA,.d t x=>k { st with aA:=aX st.aA j (.c (.one (.rp t x 0))) }
 | .kp,.d t x=>(AA t (Gw (enc t x))).bind fun c=>k { st with aA:=aX st.aA j (.c c) }
 | .fn,.fH f ys=>k { st with aA:=aX st.aA j (.c (.one (.oT f ys))) }
 | _,_=>none
def entry:Nat→List Am→List Dt→St→(St→Option R)→Option R
 | _,[],[],st,k=>k st
 | j,m::ms,d::ds,st,k=>nN j m d st fun st=>entry (j+1) ms ds st k
 | _,_,_,_,_=>none
end ev
variable {R : Type} {P : Program} {E : Env} {w0 w : World} {Mf : Nat → Prop} {g : Gh} {st : St} {a : Act}
structure JM (g:Gh) (st:St) (g':Gh) (aE:St) (F:Nat→Prop):Prop where
 n:g'.n=g.n
 ro:g'.ro=g.ro
 own:∀id,aP aE id→(aP st id∧g'.rf id=g.rf id)∨∀k,g'.rf id k→F k
 box:∀b,bA aE b→(bA st b∧g'.bx b=g.bx b)∨F (g'.bx b)
theorem JM.free {g':Gh} {aE:St} {F:Nat→Prop} (h:JM g st g' aE F) {k:Nat} (hf:fx w0 Mf g st k) (hk : ¬F k):fx w0 Mf g' aE k:={
 r:=fun id hi hr=>by
  rcases h.own id hi with ⟨h1,h2⟩ | h1
  ·rw [h2] at hr;exact hf.r id h1 hr
  ·exact hk (h1 k hr)
 ro:=by rw [h.ro];exact hf.ro
 b:=fun b hb e=>by
  rcases h.box b hb with ⟨h1,h2⟩ | h1
  ·rw [h2] at e;exact hf.b b h1 e
  ·rw [e] at h1;exact hk h1
 gy:=hf.gy }
theorem Inv.E5 (I:Inv w0 Mf g st a w) {d id:Nat} {t:Ty} {x:El t} {u:Value} {F:Nat→Prop} (hv:mA w F t x u) (hf:∀k,F k→fx w0 Mf g st k∧k<w.heap.size) {k:List Cm→St→Dl→Option R} {r:R}
 (h:eo true st d id [false] [.d t x] k=some r):∃c g' aE δ,k [c] aE δ=some r∧Inv w0 Mf g' aE a w∧JM g st g' aE F∧ix w g' aE c u:=by
 obtain ⟨vs,eA,fy⟩:=hv
 obtain ⟨Fs,hO,P9,dy⟩:=fy.list
 simp only [Gm.eo] at h
 obtain ⟨ss,m,g1,bt,u1,h,I1,G1,hc⟩:=Inv.ua I hO (fun y hy=>hZ hy) P9 (fun F' hF n hn=>hf n (dy F' hF n hn)) h
 obtain ⟨c,yT,h⟩:=aQ h
 obtain ⟨u',et,yV⟩:=Form.of yT (lV.arr hc)
 have:=eA.uniq et
 subst this
 refine ⟨c,g1,bt,_,h,I1,⟨G1.n,G1.ro,fun id hi=> ?_,fun b hb=> ?_⟩,yV⟩
 ·exact (G1.own id hi).imp (fun h=>h) fun h k hk=>let ⟨F',hF,pH⟩:=h k hk;dy F' hF k pH
 ·refine .inl ⟨?_,by rw [G1.bx]⟩
  rw [G1.eq] at hb;exact hb
theorem Inv.Qn (I:Inv w0 Mf g st a w) {d id:Nat} {t:Ty} {x:El t} {u:Value} {F:Nat→Prop} (hv:tE g.n.wl w F t x u) (hf:∀k,F k→fx w0 Mf g st k∧k<w.heap.size) {k:List Cm→St→Dl→Option R} {r:R}
 (h:eo true st d id [true] [.d t x] k=some r):∃c g' aE δ,k [c] aE δ=some r∧Inv w0 Mf g' aE a w∧JM g st g' aE F∧ix w g' aE c u:=by
 obtain ⟨b,vs,el,rfl,U0,hb,fy⟩:=hv
 simp only [Gm.eo] at h
 split at h
 case h_2=>cases h
 rename_i AZ
 obtain ⟨ss,m,g1,bt,u1,h,I1,G1,hc⟩:=Inv.tC I fy (fun y hy=>hZ hy) (fun n hn=>hf n hn.1) h
 have zj:ax bt.boxes d=none:=by rw [G1.eq];exact AZ
 obtain ⟨EA,_⟩:=hf b U0
 have I2:=I1.CW (d:=d) (nb:=b) (t:=t) zj hb (lV.arr hc) (fun aH hi h5=>by
   rcases G1.own aH hi with ⟨h6,h7⟩ | h6
   ·rw [h7] at h5;exact EA.r aH h6 h5
   ·exact (h6 b h5).2 rfl) (by rw [G1.ro];exact EA.ro) (fun b' gB=>by rw [G1.bx];rw [G1.eq] at gB;exact EA.b b' gB) EA.gy
 refine ⟨_,_,_,_,h,I2,⟨G1.n,G1.ro,fun id hi=> ?_,fun b' gB=> ?_⟩,?_⟩
 ·exact (G1.own id hi).imp (fun h=>h) fun h k hk=>(h k hk).1
 ·by_cases e:b'=d
  ·subst e
   refine .inr ?_
   simp only [Gh.dB,if_true];exact U0
  ·refine .inl ⟨?_,?_⟩
   ·simp only [bA,bX _ _ e,G1.eq] at gB;exact gB
   ·simp only [Gh.dB,e,if_false];rw [G1.bx]
 ·exact ⟨rfl,by simp [Gh.dB],by simp [bd]⟩
inductive nO:List Am→List (Nat→Prop)→Nat→Prop where
 | here {m ms F Fs k} (hm:m.reads=false) (h:F k):nO (m::ms) (F::Fs) k
 | there {m ms F Fs k} (h:nO ms Fs k):nO (m::ms) (F::Fs) k
theorem nO.any {ms:List Am} {Fs:List (Nat→Prop)} {k:Nat} (h:nO ms Fs k):∃F∈Fs,F k:=by
 induction h with
 | here _ h=>exact ⟨_,by simp,h⟩
 | there _ ih=>obtain ⟨F,hF,h⟩:=ih;exact ⟨F,by simp [hF],h⟩
theorem nO.none {ms:List Am} (h:ms.all Am.reads=true) {Fs:List (Nat→Prop)} {k:Nat} : ¬nO ms Fs k:=by
 intro hg
 induction hg with
 | here hm _=>simp only [List.all_cons,Bool.and_eq_true] at h;rw [hm] at h;cases h.1
 | there _ ih=>simp only [List.all_cons,Bool.and_eq_true] at h;exact ih h.2
theorem nP {ROa:Nat→Prop}:∀ {ms:List Am} {ds:List Dt} {us:List Value} {Fs:List (Nat→Prop)} {j:Nat} {g:Gh} {st:St} {k:St→Option R} {r:R},Inv w0 Mf g st a w→(∀ (i:Nat) u,us[i]? =some u→a.tmps[j+i]? =some u)→
    cS g.n.wl w ROa ms ds us Fs→bR Fs→(∀ n,nO ms Fs n→fx w0 Mf g st n∧n<w.heap.size)→g.ro=ROa→entry j ms ds st k=some r→∃g' aE,k aE=some r∧g'.n=g.n∧Inv w0 Mf g' aE a w
 | [],ds,us,Fs,j,g,st,k,r,I,r8,hA,hp,hf,cZ,h=>by
  cases hA
  exact ⟨g,st,h,rfl,I⟩
 | m::ms,pG,C',Fs0,j,g,st,k,r,I,r8,hA,hp,hf,cZ,h=>by
  cases hA with
  | cons uc Pu=>
  rename_i d ds u us F Fs
  obtain ⟨AU,w5⟩:=List.pairwise_cons.1 hp
  simp only [entry] at h
  have hu:a.tmps[j]? =some u:=r8 0 u rfl
  have Zk:∀(i:Nat) v,us[i]? =some v→a.tmps[j+1+i]? =some v:=fun i v hv=>by
   have:=r8 (i+1) v (by simpa using hv)
   rw [Nat.add_assoc,Nat.add_comm 1 i];exact this
  -- what is read
  have rd:∀ {sv:Sv} {k':St→Option R},k'=(fun st=>entry (j+1) ms ds st k)→dD w g st sv u→k' { st with aA:=aX st.aA j sv }=some r→∃g' aE,k aE=some r∧g'.n=g.n∧Inv w0 Mf g' aE a w:=by
   intro sv k' e hs h
   subst e
   exact nP (I.note hu hs) Zk Pu w5 (fun n hn=>let ⟨h1,h2⟩:=hf n (.there hn);⟨⟨h1.r,h1.ro,h1.b,h1.gy⟩,h2⟩) cZ h
  -- what is handed over or lent
  have mv:m.reads=false→∀ {c:Cm} {g1:Gh} {bt:St} {k':St→Option R},k'=(fun st=>entry (j+1) ms ds st k)→Inv w0 Mf g1 bt a w→JM g st g1 bt F→ix w g1 bt c u→k' { bt with aA:=aX bt.aA j (.c c) }=some r→
    ∃g' aE,k aE=some r∧g'.n=g.n∧Inv w0 Mf g' aE a w:=by
   intro hm c g1 bt k' e I1 C1 hc h
   subst e
   obtain ⟨g',aE,h1,h2,h3⟩:=nP (g:=g1) (I1.note hu (sv:= .c c) hc) Zk (by rw [C1.n];exact Pu) w5 (fun n hn=>by
    obtain ⟨EC,ct⟩:=hf n (.there hn)
    have:=C1.free EC (fun hk=>by
     obtain ⟨G,hG,hg⟩:=hn.any
     exact AU G hG n hk hg)
    exact ⟨⟨this.r,this.ro,this.b,this.gy⟩,ct⟩) (by rw [C1.ro];exact cZ) h
   exact ⟨g',aE,h1,h2.trans C1.n,h3⟩
  cases m with
  | ro=>
   cases d with
   | fH _ _=>cases uc
   | d t x=>
    simp only [nN] at h
    have hv:qd w ROa t x u:=uc
    have hR:iU g.n.wl w false [false] [.d t x] [u] [ROa]:= .val (by simpa using hv) .nil
    obtain ⟨q9,δ,h,_,_,hc⟩:=ub (g:=g) (st:=st) hR (fun G hG n hn=>by
     have:G=ROa:=by simpa using hG
     subst this;rw [cZ];exact hn) h
    cases q9 with
    | nil=>exact hc.elim
    | cons c cs=>
     cases cs with
     | nil=>exact rd rfl (sv:= .c c) hc.1 h
     | cons _ _=>exact hc.2.elim
  | CO=>
   cases d with
   | fH _ _=>cases uc
   | d t x=>
    simp only [nN] at h
    obtain ⟨c,g1,bt,δ,h,I1,C1,hc⟩:=I.E5 uc (fun n hn=>hf n (.here rfl hn)) h
    exact mv rfl rfl I1 C1 hc h
  | «mut» =>
   cases d with
   | fH _ _=>cases uc
   | d t x=>
    obtain ⟨e,xs,heq,hO⟩:=uc
    cases heq
    simp only [nN] at h
    have Zl:cR u=true:=by
     obtain ⟨av,h0,fw⟩:=hO
     rcases fw.1 [] _ rfl with ⟨_,h⟩ | ⟨_,_,_,_,_,h,_⟩<;>rw [h0] at h<;>subst h<;>rfl
    have hv:mA w F (.sl e) xs u:=by
     refine ⟨#[u],by simp [Form,ik,Zl],fun j=>if j=0 then F else fun _=>False,fun j k hk=> ?_,fun j j' k hk pH=> ?_,by simp [enc],fun j c hc=> ?_⟩
     ·dsimp only at hk
      split at hk
      ·exact hk
      ·exact hk.elim
     ·dsimp only at hk pH
      by_cases e1:j=0
      ·by_cases e2:j'=0
       ·omega
       ·simp [e2] at pH
      ·simp [e1] at hk
     ·cases j with
      | zero=>
       simp only [enc,List.getElem?_cons_zero,Option.some.injEq] at hc
       subst hc
       exact ⟨u,rfl,by simpa [iO] using hO⟩
      | succ j=>simp [enc] at hc
    obtain ⟨c,g1,bt,δ,h,I1,C1,hc⟩:=I.E5 hv (fun n hn=>hf n (.here rfl hn)) h
    exact mv rfl rfl I1 C1 hc h
  | CA=>
   cases d with
   | fH _ _=>cases uc
   | d t x=>
    simp only [nN] at h
    refine rd rfl (sv:= .c (.one (.rp t x 0))) ?_ h
    have Zm:iQ w ROa t x 0 u:=uc
    refine ⟨?_,?_⟩
    ·obtain ⟨b,o,cs,el,fz,e,_⟩:=Zm;rw [e];rfl
    ·show iQ w g.ro t x 0 u
     rw [cZ];exact Zm
  | bj=>
   cases d with
   | fH _ _=>cases uc
   | d t x=>
    simp only [nN] at h
    obtain ⟨c,g1,bt,δ,h,I1,C1,hc⟩:=I.Qn uc (fun n hn=>hf n (.here rfl hn)) h
    exact mv rfl rfl I1 C1 hc h
  | PB=>cases h
  | kp=>
   cases d with
   | fH _ _=>cases uc
   | d t x=>
    simp only [nN] at h
    obtain ⟨vs,eA,fy⟩:=(uc:Td g.n.wl t x u)
    obtain ⟨c,yT,h⟩:=aQ h
    obtain ⟨u',et,yV⟩:=Form.of yT (tZ (w:=w) (g:=g) (st:=st) fy fun y hy=>hZ hy)
    have:=eA.uniq et
    subst this
    exact rd rfl (sv:= .c c) yV h
  | fn=>
   cases d with
   | d t x=>cases uc
   | fH f ys=>
    simp only [nN] at h
    obtain ⟨ps,e,hl,hq⟩:=uc
    refine rd rfl (sv:= .c (.one (.oT f ys))) ⟨by rw [e];rfl,ps,e,hl,fun i y q hy YE=> ?_⟩ h
    rw [cZ];exact hq i y q hy YE
end Go.Gm
namespace Go.Gm
open Go
section ev
variable {R : Type}
def gg (E:Env) (st:St) (own:Bool):List ResultVar→List Bool→List Nat→(List (Am×Nat×Sv)→Option R)→Option R
 | [],[],[],k=>k []
 | .tmp t::rs,p::ps,T::Ts,k=>(ax st.aA t).bind fun s=>gg E st own rs ps Ts fun l=>k ((cond p .bj (cond own .CO .ro),T,s)::l)
 | .cell x T'::rs,false::ps,_::Ts,k=>match ax st.aA x with
  | some (.c (.one (.pt b 0)))=>(ax st.boxes b).bind fun y=>(E.code T').bind fun t=>cond (Nat.beq (aD t) y.cs.length)
    ((AA t y.cs).bind fun c=>gg E st own rs ps Ts fun l=>k ((cond own .CO .ro,T',.c c)::l)) none
  | _=>none
 | _,_,_,_=>none
def mK (st:St):Nat→List Am→(List (Am×Nat×Sv)→Option R)→Option R
 | _,[],k=>k []
 | j,.mut::ms,k=>(ax st.aA j).bind fun s=>mK st (j+1) ms fun l=>k ((.mut,0,s)::l)
 | j,.bj::ms,k=>(ax st.aA j).bind fun s=>mK st (j+1) ms fun l=>k ((.bj,0,s)::l)
 | j,_::ms,k=>mK st (j+1) ms k
def cz:List Am→List Dt→List Dt→Bool
 | [],[],[]=>true
 | .bj::ms,.d t0 _::pG,.d t _::ds=>Nat.beq (aD t) (aD t0)&&cz ms pG ds
 | .mut::ms,_::pG,.d (.sl _) _::ds=>cz ms pG ds
 | .mut::_,_,_=>false
 | .bj::_,_,_=>false
 | _::ms,_::pG,ds=>cz ms pG ds
 | _,_,_=>false
def stays:Nat→List Am→List Nat
 | _,[]=>[]
 | j,.mut::ms=>j::stays (j+1) ms
 | j,.bj::ms=>j::stays (j+1) ms
 | j,_::ms=>stays (j+1) ms
def uY (E:Env) (bO:List Am) (res:List Bool) (own:Bool) (Pw:List ResultVar) (Ts:List Nat) (ds:List Dt) (st:St) (k:Kt R):Option R:=
  gg E st own Pw res Ts fun l1=>mK st 0 bO fun l2=>
    cond (own||(bO.all Am.reads&&((res.all fun p=> !p)&&l1.all fun a=>a.2.2.cells.all fun c=>c.names.1.isEmpty)))
 (dx E (l1++l2) st fun outs _ _ _=>cond (cz bO ds (outs.drop l1.length)) (k outs) none) none
def aM (E:Env) (aJ:Nat→Kp) (rounds:Nat) (body:Code) (bO:List Am) (res:List Bool) (own:Bool) (Pw:List ResultVar) (Ts:List Nat) (ds:List Dt) (k:Kt R):Option R:=
  entry 0 bO ds ⟨[],[],[]⟩ fun st=>ev E aJ rounds body st fun e st=>match e with
  | .exit _=>none
  | _=>uY E bO res own Pw Ts ds st k
end ev
end Go.Gm
