/- The G-machine, part 3: an evaluator of translated code on typed values, and that it is sound. No conditions. -/
import Derived.Test.YtnbehmbjoanfoaaGm2
import Derived.Orders
namespace Go.Gm
open Go
variable {wl : World} {R : Type} {P : Program} {E : Env} {w0 w w' : World} {Mf : Nat → Prop} {g : Gh} {st aI : St} {a : Act}
theorem Form.uniq{t:Ty}{u v:Value}{us:Array Value}(h:Form t u us)(h':Form t v us):u=v:=by
 unfold Form at h h'
 split at h
 ·rename_i ix;simp only[ix,if_true] at h';rw[h,h']
 ·rename_i ix;simp only[ix] at h';have:=h.1.symm.trans h'.1;simpa using this
structure Res (w:World) (g:Gh) (st:St) (g':Gh) (br:St) (d:Dl):Prop where
 n:g'.n=g.n
 az:br.az=st.az
 roots:br.roots=ck st.roots d.roots
 boxes:br.boxes=ck st.boxes d.boxes
 map:∀c v,bf w g st c v→bf w g' br c v
def Gv(w:World)(g:Gh)(st:St):List Cm→List Value→Prop
 | [],[]=>True
 |c::cs,u::us=>gH w g st c u∧Gv w g st cs us
 |_,_=>False
theorem Gv.map{g':Gh}{aI:St}(hm:∀c u,bf w g st c u→bf w g' aI c u):∀{cs:List Cm}{us:List Value},Gv w g st cs us→Gv w g' aI cs us
 | [],[],_=>trivial
 | [],_::_,h=>h.elim
 |_::_,[],h=>h.elim
 |_::_,_::_,h=>⟨h.1.map hm,Gv.map hm h.2⟩
theorem gv{t:Ty}{x:El t}{y:Value}(h : .v y∈enc t x):cO y=true:=by
 have:=qk t x
 rw[List.all_eq_true] at this
 exact this _ h
theorem Inv.oz:∀{ps:List Bool}{ds:List Dt}{us:List Value}{Gs:List (Nat→Prop)}{g:Gh}{st:St}{d id:Nat}{k:List Cm→St→Dl→Option R}{r:R},Inv w0 Mf g st a w→gl g.n.wl w true ps ds us Gs→bH Gs→
 (∀ G∈Gs,∀n,G n→fx w0 Mf g st n∧n<w.heap.size)→eG true st d id ps ds k=some r→
    ∃n3 g' br δ,k n3 br δ=some r∧Inv w0 Mf g' br a w∧Res w g st g' br δ∧Gv w g' br n3 us
 | [],ds,us,Gs,g,st,d,id,k,r,I,hr,hp,hf,h=>by
  cases hr
  exact⟨[],g,st,{},h,I,⟨rfl,rfl,rfl,rfl,fun _ _ h=>h⟩,trivial⟩
 |false::ps,ds,us,Gs,g,st,d,id,k,r,I,hr,hp,hf,h=>by
  cases hr with
  |val hv hs=>
  rename_i t x ds u us G Gs
  simp only[if_true] at hv
  obtain⟨xJ,tI⟩:=List.pairwise_cons.1 hp
  obtain⟨vs,eM,fy⟩:=hv
  obtain⟨Fs,hO,M7,dp⟩:=fy.list
  simp only[Gm.eG] at h
  obtain⟨ss,m,g1,br,u1,h,I1,G1,hc⟩:=Inv.qR I hO (fun y hy=>gv hy) M7 (fun F hF n hn=>hf G (by simp) n (dp F hF n hn)) h
  obtain⟨c,u7,h⟩:=aR h
  obtain⟨u',eI,u9⟩:=Form.of u7 (ka.arr hc)
  have:=eM.uniq eI
  subst this
  obtain⟨n3,g',mH,δ,h1,I2,R2,xG⟩:=Inv.oz I1 (by rw[G1.n];exact hs) tI (fun G' mf n hn=>by
   obtain⟨B2,cc⟩:=hf G' (by simp[mf]) n hn
   refine⟨⟨fun aK hi h5=> ?_,by rw[G1.ro];exact B2.ro,fun b hb=>by rw[G1.bx];rw[G1.eq] at hb;exact B2.b b hb,B2.fV⟩,cc⟩
   rcases G1.own aK hi with ⟨h6,h7⟩ | h6
   ·rw[h7] at h5;exact B2.r aK h6 h5
   ·obtain⟨F,hF,hk⟩:=h6 n h5
    exact xJ G' mf n (dp F hF n hk) hn) h
  refine⟨_,g',mH,_,h1,I2,⟨R2.n.trans G1.n,by rw[R2.az,G1.eq],by rw[R2.roots,G1.eq,bh],by rw[R2.boxes,G1.eq],fun c v m8=>R2.map c v (G1.map c v m8)⟩,u9.map R2.map,xG⟩
 |true::ps,ds,us,Gs,g,st,d,id,k,r,I,hr,hp,hf,h=>by
  cases hr with
  |ptr hv hs=>
  rename_i t x ds u us G Gs
  obtain⟨xJ,tI⟩:=List.pairwise_cons.1 hp
  obtain⟨b,vs,el,rfl,MT,hb,fy⟩:=hv.2
  simp only[Gm.eG] at h
  split at h
  case h_2=>cases h
  rename_i xO
  obtain⟨ss,m,g1,br,u1,h,I1,G1,hc⟩:=Inv.qo I fy (fun y hy=>gv hy) (fun n hn=>hf G (by simp) n hn.1) h
  have vn:ak br.boxes d=none:=by rw[G1.eq];exact xO
  obtain⟨B0,_⟩:=hf G (by simp) b MT
  have I2:=I1.zE (d:=d) (nb:=b) (t:=t) vn hb (ka.arr hc) (fun aK hi h5=>by
    rcases G1.own aK hi with ⟨h6,h7⟩ | h6
    ·rw[h7] at h5;exact B0.r aK h6 h5
    ·exact (h6 b h5).2 rfl) (by rw[G1.ro];exact B0.ro) (fun b' fl=>by rw[G1.bx];rw[G1.eq] at fl;exact B0.b b' fl) B0.fV
  have PY:∀c v,bf w g1 br c v→bf w (g1.dR d b) { br with boxes:=bc br.boxes d ⟨t,ss⟩ } c v:=fun c v hc=>⟨hc.1,hc.2.dR vn⟩
  obtain⟨n3,g',mH,δ,h1,I3,R3,Y'⟩:=Inv.oz I2 (by show gl g1.n.wl w true ps ds us Gs;rw[G1.n];exact hs) tI (fun G' mf n hn=>by
   obtain⟨B2,cc⟩:=hf G' (by simp[mf]) n hn
   refine⟨⟨fun aK hi h5=> ?_,by show ¬g1.ro n;rw[G1.ro];exact B2.ro,fun b' fl e=> ?_,B2.fV⟩,cc⟩
   ·rcases G1.own aK hi with ⟨h6,h7⟩ | h6
    ·have h5':g1.rf aK n:=h5
     rw[h7] at h5';exact B2.r aK h6 h5'
    ·exact xJ G' mf n (h6 n h5).1 hn
   ·by_cases e':b'=d
    ·subst e'
     simp only[Gh.dR,if_true] at e
     subst e
     exact xJ G' mf b MT hn
    ·simp only[Gh.dR,e',if_false] at e
     rw[G1.bx] at e
     refine B2.b b' ?_ e
     simp only[bz,bQ _ _ e',G1.eq] at fl
     exact fl) h
  refine⟨_,g',mH,_,h1,I3,⟨R3.n.trans G1.n,by rw[R3.az,G1.eq],by rw[R3.roots,G1.eq,bh],by rw[R3.boxes,G1.eq];rfl,fun c v m8=>R3.map c v (PY c v (G1.map c v m8))⟩,?_,Y'⟩
  exact gH.map R3.map (x:= .one (.pt d 0)) ⟨rfl,by simp[Gh.dR],by simp[bj]⟩
theorem Gw{Pr:Nat→Prop}(Za:∀k,Pr k→g.ro k):∀{cs:List Cv}{us:List Value}{id:Nat}{k:List Sc→Nat→St→List (Nat×Rt)→Option R}{r:R},gK w Pr cs us→(∀ x,.v x∈cs→cO x=true)→qn false st id cs k=some r→
    ∃ss m,k ss m st []=some r∧ka w g st ss us
 | [],us,id,k,r,hr,hf,h=>by
  cases us with
  |nil=>exact⟨[],id,h,trivial⟩
  |cons u us=>exact hr.elim
 | .v x::cs,us,id,k,r,hr,hf,h=>by
  cases us with
  |nil=>exact hr.elim
  |cons u us=>
   obtain⟨ss,m,h1,h2⟩:=Gw Za hr.2 (fun x hx=>hf x (by simp[hx])) h
   have hu:u=x:=hr.1
   subst hu
   exact⟨_,m,h1,⟨hf u (by simp),rfl⟩,h2⟩
 | .l t xs::cs,us,id,k,r,hr,hf,h=>by
  cases us with
  |nil=>exact hr.elim
  |cons u us=>
   simp only[qn] at h
   replace h:=(PE h).2
   simp only[cond_false] at h
   obtain⟨ss,m,h1,h2⟩:=Gw Za hr.2 (fun x hx=>hf x (by simp[hx])) h
   have dh:fk w g.ro t xs u:=fk.mono Za hr.1
   refine⟨_,m,h1,⟨?_,dh⟩,h2⟩
   obtain⟨av,h0,fw⟩:=dh
   obtain⟨ad,cap,e,_⟩:=fw [] _ rfl
   rw[h0] at e;subst e;rfl
theorem xw.l{Pr:Nat→Prop}{cs:List Cv}{us:Array Value}(h:xw w Pr cs us):gK w Pr cs us.toList:=by
 have key:∀{cs:List Cv}{us:List Value},us.length=cs.length→(∀(j:Nat) c,cs[j]? =some c→∃z,us[j]? =some z∧lQ w Pr c z)→gK w Pr cs us:=by
  intro cs
  induction cs with
  |nil=>intro us hl _;cases us with | nil=>trivial | cons _ _=>simp at hl
  |cons c cs ih=>
   intro us hl hr
   cases us with
   |nil=>simp at hl
   |cons u us=>
    refine⟨?_,ih (by simpa using hl) fun j c' hj=>by simpa using hr (j+1) c' (by simpa using hj)⟩
    obtain⟨z,hz,hc⟩:=hr 0 c rfl
    simp only[List.getElem?_cons_zero,Option.some.injEq] at hz;subst hz;exact hc
 exact key (by simpa using h.1) fun j c hj=>by simpa using h.2 j c hj
theorem qS:∀{ps:List Bool}{ds:List Dt}{us:List Value}{Gs:List (Nat→Prop)}{d id:Nat}{k:List Cm→St→Dl→Option R}{r:R},gl wl w false ps ds us Gs→(∀ G∈Gs,∀n,G n→g.ro n)→eG false st d id ps ds k=some r→
    ∃n3 δ,k n3 st δ=some r∧δ.roots=[]∧δ.boxes=[]∧Gv w g st n3 us
 | [],ds,us,Gs,d,id,k,r,hr,hf,h=>by
  cases hr
  exact⟨[],{},h,rfl,rfl,trivial⟩
 |false::ps,ds,us,Gs,d,id,k,r,hr,hf,h=>by
  cases hr with
  |val hv hs=>
  rename_i t x ds u us G Gs
  simp only[Bool.false_eq_true,if_false] at hv
  obtain⟨vs,eM,fy⟩:=hv
  simp only[Gm.eG] at h
  obtain⟨ss,m,h,hc⟩:=Gw (hf G (by simp)) fy.l (fun y hy=>gv hy) h
  obtain⟨c,u7,h⟩:=aR h
  obtain⟨u',eI,u9⟩:=Form.of u7 (ka.arr hc)
  have:=eM.uniq eI
  subst this
  obtain⟨n3,δ,h1,h2,h3,h4⟩:=qS hs (fun G' mf=>hf G' (by simp[mf])) h
  exact⟨_,_,h1,by simp[h2],by simp[h3],u9,h4⟩
 |true::ps,ds,us,Gs,d,id,k,r,hr,hf,h=>by
  cases hr with
  |ptr hv hs=>cases hv.1
end Go.Gm
namespace Go.Gm
open Go
variable {R : Type} {P : Program} {E : Env} {w0 w w' : World} {Mf : Nat → Prop} {g : Gh} {st aI : St} {a : Act} {Q : Exit → Act → World → Prop}
  {o:Oper} {k:Dl→Option R} {r:R} {K:Act→World→Prop}
theorem Inv.Gx(I:Inv w0 Mf g st a w){b:Nat}(h:bz st b):g.bx b<w.heap.size:=by
 obtain⟨x,hx⟩:=Option.isSome_iff_exists.1 h
 obtain⟨us,el,h1,_⟩:=I.boxes b x hx
 exact (Array.getElem?_eq_some_iff.1 h1).1
theorem Inv.fL(I:Inv w0 Mf g st a w){br:St}{bs:List Bk}{d:Dl}{H:Nat→Prop}(L:vk g w st br bs d H){n:Nat}(hn:H n):xP w0 Mf g br bs n∧n<w.heap.size:=by
 refine⟨⟨fun id hi=>L.off n hn id hi,fun dh=> ?_,fun b hb e=> ?_,?_⟩,?_⟩
 ·rcases L.src n hn with ⟨id,h1,h2⟩ | ⟨b,h1,_,_,h4⟩
  ·exact I.apart.ew id n h1 h2 dh
  ·exact I.apart.fI b h1.at (h4▸dh)
 ·rcases L.src n hn with ⟨id,h1,h2⟩ | ⟨b',h1,_,h3,h4⟩
  ·exact (I.apart.rb id b h1 ((L.box b).1 hb) (e▸h2)).elim
  ·have:=I.apart.bb b b' ((L.box b).1 hb) h1.at (by rw[e,h4])
   subst this;exact h3
 ·rcases L.src n hn with ⟨id,h1,h2⟩ | ⟨b,h1,_,_,h4⟩
  ·exact I.apart.cj id n h1 h2
  ·rw[← h4];exact I.apart.dN b h1.at
 ·rcases L.src n hn with ⟨id,h1,h2⟩ | ⟨b,h1,_,_,h4⟩
  ·exact I.apart.er id n h1 h2
  ·rw[← h4];exact I.Gx h1.at
theorem jS.sub{br:St}{ms:List Am}{us:List Value}{Fs:List (Nat→Prop)}{bs:List Bk}{Hs:List (Nat→Prop)}(h:jS w g br ms us Fs bs Hs)(hp:bH Hs):bH Fs∧(∀ n,Any Fs n→Any Hs n)∧jj (Any Fs) Fs Hs:=by
 have key:bH Fs∧(∀ n,Any Fs n→Any Hs n):=by
  induction h with
  |nil=>exact⟨List.Pairwise.nil,fun n h=>h⟩
  |cons h hs ih=>
   obtain⟨xJ,tI⟩:=List.pairwise_cons.1 hp
   obtain⟨h1,h2⟩:=ih tI
   refine⟨List.pairwise_cons.2 ⟨fun G hG n hn hg=> ?_,h1⟩,fun n ⟨G,hG,hn⟩=> ?_⟩
   ·obtain⟨H',hH,hh⟩:=h2 n ⟨G,hG,hg⟩
    exact xJ H' hH n (h.sub n hn) hh
   ·rcases List.mem_cons.1 hG with rfl | hG
    ·exact⟨_,by simp,h.sub n hn⟩
    ·obtain⟨H',hH,hh⟩:=h2 n ⟨G,hG,hn⟩
     exact⟨H',by simp[hH],hh⟩
 refine⟨key.1,key.2,?_⟩
 have gen:∀(X:Nat→Prop),(∀ n,X n→Any Fs n∨ ¬Any Hs n)→jj X Fs Hs:=by
  clear key
  induction h with
  |nil=>intro X _;trivial
  |cons h hs ih=>
   rename_i m ms u us F Fs bk bs H Hs
   obtain⟨xJ,tI⟩:=List.pairwise_cons.1 hp
   intro X hX
   refine⟨fun n hx hh=> ?_,ih tI X fun n hx=> ?_⟩
   ·rcases hX n hx with ⟨G,hG,hg⟩ | hn
    ·rcases List.mem_cons.1 hG with rfl | hG
     ·exact hg
     ·have dp:∀ {ms us Fs bs Hs},jS w g br ms us Fs bs Hs→∀n,Any Fs n→Any Hs n:=by
       intro ms us Fs bs Hs hh
       induction hh with
       |nil=>exact fun n h=>h
       |cons h hs ih=>
        rintro n ⟨G,hG,hn⟩
        rcases List.mem_cons.1 hG with rfl | hG
        ·exact⟨_,by simp,h.sub n hn⟩
        ·obtain⟨H',hH,hh⟩:=ih n ⟨G,hG,hn⟩
         exact⟨H',by simp[hH],hh⟩
      obtain⟨H',hH,hh'⟩:=dp hs n ⟨G,hG,hg⟩
      exact (xJ H' hH n hh hh').elim
    ·exact (hn ⟨H,by simp,hh⟩).elim
   ·rcases hX n hx with ⟨G,hG,hg⟩ | hn
    ·rcases List.mem_cons.1 hG with rfl | hG
     ·refine .inr fun ⟨H',hH,hh⟩=>xJ H' hH n (h.sub n hg) hh
     ·exact .inl ⟨G,hG,hg⟩
    ·exact .inr fun ⟨H',hH,hh⟩=>hn ⟨H',by simp[hH],hh⟩
 exact gen (Any Fs) fun n h=> .inl h
def iX(w:World)(g:Gh)(st:St):List (Nat×Sv)→List Value→Prop
 | [],[]=>True
 |x::l,u::us=>dX w g st x.2 u∧iX w g st l us
 |_,_=>False
theorem iX.zip:∀{ms:List Am}{l:List (Nat×Sv)}{us:List Value},ms.length=l.length→iX w g st l us→ArgRel w g st (ms.zip l) us∧(ms.zip l).map (·.1)=ms∧∀x∈ms.zip l,x.2∈l
 | [],[],us,_,h=>by cases us<;>first | exact⟨trivial,rfl,fun x h=>by simp at h⟩ | exact h.elim
 | [],_::_,_,h,_=>by simp at h
 |_::_,[],_,h,_=>by simp at h
 |m::ms,(T,s)::l,us,hl,h=>by
  cases us with
  |nil=>exact h.elim
  |cons u us=>
   obtain⟨h1,h2,h3⟩:=iX.zip (ms:=ms) (l:=l) (by simpa using hl) h.2
   refine⟨⟨h.1,h1⟩,by simp[h2],fun x hx=> ?_⟩
   simp only[List.zip_cons_cons,List.mem_cons] at hx
   rcases hx with rfl | hx
   ·simp
   ·exact List.mem_cons_of_mem _ (h3 x hx)
def tO(args:List (Nat×Sv)):List Nat:=(args.map fun a=>(a.2.cells.map fun c=>c.names.2).flatten).flatten
theorem DY{args:List (Nat×Sv)}{x:Nat×Sv}(hx:x∈args){c:Sc}(hc:c∈x.2.cells){id:Nat}(hi:id∈c.names.2):id∈tO args:=by
 unfold tO
 simp only[List.mem_flatten,List.mem_map]
 exact⟨_,⟨x,hx,rfl⟩,List.mem_flatten.2 ⟨_,List.mem_map.2 ⟨c,hc,rfl⟩,hi⟩⟩
def Reach(g:Gh)(br:St)(own:Bool)(ids:List Nat)(n:Nat):Prop:=
  g.ro n∨(own=false∧∃id∈ids,aT br id∧g.rf id n)∨(own=true∧((∃ id,aT br id∧g.rf id n)∨∃b,nd br b∧g.bx b=n))
theorem xQ{own:Bool}{args:List (Nat×Sv)}(mg:own=true∨∀x∈args,∀c∈x.2.cells,c.names.1=[]){x:Nat×Sv}(hx:x∈args):Y6 g st (Reach g st own (tO args)) x.2:={
 ro:=fun k=> .inl
 r:=fun c hc id hi cH k hk=>by
  cases own
  ·exact .inr (.inl ⟨rfl,id,DY hx hc hi,cH,hk⟩)
  ·exact .inr (.inr ⟨rfl,.inl ⟨id,cH,hk⟩⟩)
 b:=by
  cases own
  ·exact .inl fun c hc=>(mg.resolve_left (by simp)) x hx c hc
  ·exact .inr ⟨fun b x hx ⟨c,hc,hd⟩=> .inr (.inr ⟨rfl,.inr ⟨b,⟨x,hx,c,hc,hd⟩,rfl⟩⟩),fun id cH k hk=> .inr (.inr ⟨rfl,.inl ⟨id,cH,hk⟩⟩)⟩ }
theorem Inv.reach(I:Inv w0 Mf g st a w){br:St}(I1:Inv w0 Mf g br a w){bs:List Bk}{d:Dl}{H:Nat→Prop}(L:vk g w st br bs d H){own:Bool}{ids:List Nat}{n:Nat}(h:Reach g br own ids n): ¬H n∧n<w.heap.size:=by
 have root:∀id,aT br id→g.rf id n→ ¬H n∧n<w.heap.size:=fun id h1 h2=>⟨fun hn=>L.off n hn id h1 h2,I1.apart.er id n h1 h2⟩
 rcases h with h | ⟨_,id,_,h1,h2⟩ | ⟨_,⟨id,h1,h2⟩ | ⟨b,h1,h2⟩⟩
 ·exact⟨fun hn=>(I.fL L hn).1.ro h,I1.apart.da n h⟩
 ·exact root id h1 h2
 ·exact root id h1 h2
 ·refine⟨fun hn=> ?_,by rw[← h2];exact I1.Gx h1.at⟩
  have:=(I.fL L hn).1.b b h1.at h2
  exact (L.pH b this).2 h1
end Go.Gm
namespace Go.Gm
open Go
variable {wl : World} {R : Type} {P : Program} {E : Env} {w0 w w' : World} {Mf : Nat → Prop} {g : Gh} {st aI : St} {a : Act} {Q : Exit → Act → World → Prop}
  {o:Oper} {k:Dl→Option R} {r:R} {K:Act→World→Prop}
theorem fP.flat{F:Nat→Prop}{t:Ty}{x:El t}{j:Nat}{c:Cv}(hc:(enc t x)[j]? =some c){u:Value}(h:fP w F c u):cO u=true:=by
 cases c with
 |v y=>
  have hu:u=y:=h
  subst hu;exact gv (List.mem_of_getElem? hc)
 |l t' ys=>exact gX.flat h
theorem qu.size{sh:Bool}{F:Nat→Prop}{cs:List Cv}{us:Array Value}(h:qu wl sh w F cs us):us.size=cs.length:=by
 cases sh
 ·obtain⟨_,_,_,h,_⟩:=h;exact h
 ·exact h.1
theorem qu.flat{sh:Bool}{F:Nat→Prop}{t:Ty}{x:El t}{us:Array Value}(h:qu wl sh w F (enc t x) us){j:Nat}{v:Value}(hj:us[j]? =some v)(hl:j<(enc t x).length):cO v=true:=by
 cases sh
 ·obtain⟨_,_,_,_,hr⟩:=h
  obtain⟨z,hz,hc⟩:=hr j _ (List.getElem?_eq_getElem hl)
  rw[hj] at hz;cases hz
  exact hc.flat (List.getElem?_eq_getElem hl)
 ·obtain⟨z,hz,hc⟩:=h.2 j _ (List.getElem?_eq_getElem hl)
  rw[hj] at hz;cases hz
  revert hc
  generalize j0:(enc t x)[j]=c
  intro hc
  cases c with
  |v y=>
   have hu:v=y:=hc
   subst hu;exact gv (List.mem_of_getElem? (show (enc t x)[j]? =some (.v v) by rw[← j0];exact List.getElem?_eq_getElem hl))
  |l t' ys=>exact Kl.flat hc
theorem jS.row{br:St}{ROa:Nat→Prop}{ms:List Am}{us:List Value}{Fs:List (Nat→Prop)}{bs:List Bk}{Hs:List (Nat→Prop)}(h:jS w g br ms us Fs bs Hs){ins outs:List Dt}{Bs:List (Nat→Prop)}(hA:cE wl w ROa ms ins us Fs)
 (hb:ey wl w' ms ins us outs Bs) {b:Nat} (hm : .box b∈bs):∃(zQ M8:Array Value)(Vf Vh:Nat),w.heap[g.bx b]? =some (.cells zQ Vf (0,0))∧w'.heap[g.bx b]? =some (.cells M8 Vh (0,0))∧M8.size=zQ.size∧
      ∀(j:Nat) v,M8[j]? =some v→cO v=true:=by
 induction h generalizing ins outs Bs with
 |nil=>simp at hm
 |cons h hs ih=>
  rename_i m ms u us F Fs bk bs H Hs
  cases hA with
  |cons qT Ms=>
  cases m with
  | «mut» =>
   obtain⟨id,r,p,s,rfl,_⟩:=h
   cases hb with
   |skip h1 h2=>exact h1.elim
   | «mut» h1 h2=>exact ih Ms h2 (by simpa using hm)
  |bX=>
   obtain⟨b',rfl,_,_,hu,rfl,hF⟩:=h
   cases hb with
   |skip h1 h2=>exact h1.elim
   |bX h1 ht h2=>
    rcases List.mem_append.1 hm with hm | hm
    ·simp only[List.mem_singleton,Bk.box.injEq] at hm
     subst hm
     subst hu
     obtain⟨b0,zQ,Vf,e0,_,hb0,Yi⟩:=qT
     obtain⟨b1,M8,Vh,e1,_,xR,hr1⟩:=h1
     simp only[Value.pointer.injEq,Option.some.injEq,Addr.mk.injEq,and_true] at e0 e1
     rw[← e0] at hb0
     rw[← e1] at xR
     have RA:=Yi.size
     have mo:=hr1.size
     refine⟨zQ,M8,Vf,Vh,hb0,xR,by rw[mo,RA,aS,aS,ht],fun j v hj=> ?_⟩
     have cc:j<M8.size:=by
      rcases Nat.lt_or_ge j M8.size with h' | h'
      ·exact h'
      ·simp[Array.getElem?_eq_none h'] at hj
     exact hr1.flat hj (by omega)
    ·exact ih Ms h2 hm
  |_=>
   obtain⟨rfl,_⟩:=h
   cases hb with
   |skip h1 h2=>exact ih Ms h2 (by simpa using hm)
end Go.Gm
namespace Go.Gm
open Go
variable {R : Type} {P : Program} {E : Env} {w0 w w' : World} {Mf : Nat → Prop} {g : Gh} {st aI : St} {a : Act} {Q : Exit → Act → World → Prop}
  {o:Oper} {k:Dl→Option R} {r:R} {K:Act→World→Prop}
theorem Inv.DZ(I:Inv w0 Mf g st a w){br:St}(I1:Inv w0 Mf g br a w){ms:List Am}{us:List Value}{Fs:List (Nat→Prop)}{bs:List Bk}{Hs:List (Nat→Prop)}{d:Dl}(L:vk g w st br bs d (Any Hs))
 (hH:jS w g br ms us Fs bs Hs) (FL:bH Hs) {ROa:Nat→Prop} {ins outs:List Dt} {Bs:List (Nat→Prop)} (hA:cE g.n.wl w ROa ms ins us Fs) (hb:ey g.n.wl w' ms ins us outs Bs) (gY:Kept w w' (Any Fs)):
    Inv w0 Mf g br a w':=by
 obtain⟨M7,dp,Yj⟩:=hH.sub FL
 have cK:∀n,Any Fs n→xP w0 Mf g br bs n∧n<w.heap.size:=fun n hn=>I.fL L (dp n hn)
 refine I1.called gY.same (fun n h1 h2=>(cK n h2).1.ro h1) (fun id n h1 h2 h3=>(cK n h3).1.r id h1 h2) (fun b x hx=> ?_) (I1.kept.step gY.os gY.tape gY.output gY.same fun n hn=>(cK n hn).1.fV)
 by_cases hX:Any Fs (g.bx b)
 ·have hm:=(cK _ hX).1.b b (by simp[bz,hx]) rfl
  obtain⟨zQ,M8,Vf,Vh,h0,h1,h2,h3⟩:=hH.row hA hb hm
  obtain⟨Zb,MJ,h4,h5⟩:=I1.boxes b x hx
  rw[h0] at h4
  simp only[Option.some.injEq,Obj.cells.injEq] at h4
  exact .inr ⟨(L.pH b hm).2,M8,Vh,h1,by rw[h2,h4.1];exact h5.1,h3⟩
 ·exact .inl hX
theorem Inv.xS(I:Inv w0 Mf g st a w){n:Nat}(h:w.heap.size≤n)(bs:List Bk):xP w0 Mf g st bs n:={
 r:=fun id h1 h2=>by have:=I.apart.er id n h1 h2;omega
 ro:=fun h1=>by have:=I.apart.da n h1;omega
 b:=fun b h1 e=>by have:=I.Gx h1;omega
 fV:= .inl (Nat.le_trans I.kept.same.1 h) }
theorem Inv.D0(I:Inv w0 Mf g st a w){br:St}(I1:Inv w0 Mf g br a w){ms:List Am}{us:List Value}{Fs:List (Nat→Prop)}{bs:List Bk}{Hs:List (Nat→Prop)}{d:Dl}(L:vk g w st br bs d (Any Hs))
 (hH:jS w g br ms us Fs bs Hs) (FL:bH Hs) (pI:bs.Pairwise fun b c=>b.key≠c.key) {ROa:Nat→Prop} {ins outs:List Dt} {Bs:List (Nat→Prop)} (hA:cE g.n.wl w ROa ms ins us Fs) (hb:ey g.n.wl w' ms ins us outs Bs) (gY:Kept w w' (Any Fs))
 (RG:bH Bs) (hB:∀B∈Bs,∀k,B k→Any Fs k∨w.heap.size≤k) (Gy:∀B∈Bs,∀k,B k→k<w'.heap.size) {kk:St→Dl→Option R} {r:R} (h:Gm.fH br bs outs kk=some r):
    ∃g' mH d1,kk mH d1=some r∧Inv w0 Mf g' mH a w'∧np w' g br g' mH bs d1 (fun n=>Any Bs n∨DV Fs Hs n):=by
 obtain⟨M7,dp,Yj⟩:=hH.sub FL
 refine Inv.fH (X:=Any Fs) gY.same (I.DZ I1 L hH FL hA hb gY) hH hb pI RG FL Yj (fun B hm k hk=>⟨hB B hm k hk,Gy B hm k hk⟩) (fun H hm k hk=>(I.fL L (H:=Any Hs) ⟨H,hm,hk⟩).2) (fun n hn=> ?_) h
 rcases hn with ⟨B,hm,hk⟩ | hn
 ·rcases hB B hm n hk with h1 | h1
  ·exact (I.fL L (dp n h1)).1
  ·exact I1.xS h1 bs
 ·exact (I.fL L hn.any).1
theorem jB{α:Type}{l l':List (Nat×α)}(h:ak l=ak l')(L:List (Nat×α)):ak (ck l L)=ak (ck l' L):=by
 funext n;rw[ef,ef L l',h]
theorem qU{w':World}{g':Gh}{br mH:St}{bs:List Bk}{d d1:Dl}{H F:Nat→Prop}(L:vk g w st br bs d H)(G:np w' g br g' mH bs d1 F):ak mH.roots=ak (ck st.roots (d.roots++d1.roots)):=by
 funext id
 rw[G.roots,bh,ef,ef d1.roots (ck st.roots d.roots)]
 by_cases hk:∃r p,Bk.root id r p∈bs
 ·obtain⟨r,p,hm⟩:=hk
  obtain⟨x,hx⟩:=Option.isSome_iff_exists.1 (G.key id r p hm)
  rw[hx];rfl
 ·rw[L.roots id fun r p hm=>hk ⟨r,p,hm⟩]
theorem qV{w':World}{g':Gh}{br mH:St}{bs:List Bk}{d d1:Dl}{H F:Nat→Prop}(L:vk g w st br bs d H)(G:np w' g br g' mH bs d1 F):ak mH.boxes=ak (ck st.boxes (d.boxes++d1.boxes)):=by
 rw[G.boxes,bh]
 exact jB (funext L.boxes) _
def RK:List Cm→Sv | [r]=> .c r | rs=> .tu rs
theorem Gv.pack{br:St}{n3:List Cm}{us:List Value}(h:Gv w g br n3 us):dX w g br (RK n3) (qx us):=by
 have len:∀{n3:List Cm}{us:List Value},Gv w g br n3 us→us.length=n3.length:=by
  intro n3
  induction n3 with
  |nil=>intro us h;cases us with | nil=>rfl | cons _ _=>exact h.elim
  |cons c n3 ih=>intro us h;cases us with | nil=>exact h.elim | cons u us=>simp[ih h.2]
 have get:∀{n3:List Cm}{us:List Value},Gv w g br n3 us→∀(j:Nat) x,n3[j]? =some x→∃z,us[j]? =some z∧gH w g br x z:=by
  intro n3
  induction n3 with
  |nil=>intro us h j x hj;simp at hj
  |cons c n3 ih=>
   intro us h j x hj
   cases us with
   |nil=>exact h.elim
   |cons u us=>
    cases j with
    |zero=>simp only[List.getElem?_cons_zero,Option.some.injEq] at hj;subst hj;exact⟨u,rfl,h.1⟩
    |succ j=>simpa using ih h.2 j x (by simpa using hj)
 have hl:=len h
 match n3,us,h,hl with
 | [c],[u],h,_=>exact h.1
 | [],[],h,_=>exact⟨#[],rfl,rfl,fun j x hj=>by simp at hj⟩
 |c1::c2::cs,u1::u2::us,h,hl=>exact⟨(u1::u2::us).toArray,rfl,by simpa using hl,fun j x hj=>by simpa using get h j x hj⟩
theorem Inv.finish(hK:Then w0 Mf g st k r K){g3:Gh}{PZ:St}(I:Inv w0 Mf g3 PZ a w')(hn:g3.n=g.n)(hd:∀d,o.dst=some d→d<g.n.sz)(vp:PZ.az=st.az){rs:List (Nat×Rt)}{bx:List (Nat×Bx)}
    (hr:ak PZ.roots=ak (ck st.roots rs)) (hb:ak PZ.boxes=ak (ck st.boxes bx)) {sv:Sv} {v:Value} (hs:dX w' g3 PZ sv v) (h:k { slot:=o.dst.map fun q=>(q,sv),boxes:=bx,roots:=rs }=some r):K (a.put o.dst v) w':=by
 have I1:=I.zz (dst:=o.dst) (fun d h=>by rw[hn];exact hd d h) hs
 refine hK _ g3 _ _ h hn (I1.congr ?_ ?_ ?_)
 ·cases jg:o.dst with
  |none=>simp only[St.apply,Option.map_none,vp]
  |some d=>simp only[St.apply,Option.map_some,vp]
 ·simp only[St.apply,ck];exact hb
 ·simp only[St.apply,ck];exact hr
theorem mI:∀{sh:List Nat}{args jC:List (Nat×Sv)}{us:List Value},iX w g st args us→u4 sh args=some jC→∃vs,iX w g st jC vs∧tD sh vs=us
  | [],args,jC,us,h,he=>by cases he;exact⟨us,h,rfl⟩
  |0::sh,[],_,_,_,he=>by cases he
  |0::sh,a::l,jC,us,h,he=>by
    cases us with
    |nil=>exact h.elim
    |cons u us=>
      simp only[u4] at he
      obtain⟨r,hr,he⟩:=Option.bind_eq_some_iff.1 he
      cases he
      obtain⟨vs,h1,h2⟩:=mI h.2 hr
      exact⟨u::vs,⟨h.1,h1⟩,by simp only[tD,h2]⟩
  | (n+1)::sh,[],_,_,_,he=>by cases he
  | (n+1)::sh,(T,s)::l,jC,us,h,he=>by
    cases us with
    |nil=>exact h.elim
    |cons u us=>
      cases s with
      |tu _=>cases he
      |c x=>
      cases x with
      |one _=>cases he
      |agg cs=>
      simp only[u4] at he
      obtain⟨hlen,he⟩:=bg he
      have hlen:=gB hlen
      obtain⟨r,hr,he⟩:=Option.bind_eq_some_iff.1 he
      cases he
      obtain⟨vs,h1,h2⟩:=mI h.2 hr
      obtain⟨zs,hu,fc⟩:=h.1
      have PV:zs.toList.length=n+1:=by rw[← hlen];simpa using fc.1
      have cells:∀(cs:List Sc)(zs:List Value),ka w g st cs zs→∀{l:List (Nat×Sv)}{us:List Value},iX w g st l us→iX w g st (cs.map (fun c=>(0,.c (.one c)))++l) (zs++us):=by
        intro cs
        induction cs with
        |nil=>intro zs hz l us hl;cases zs with | nil=>exact hl | cons _ _=>exact hz.elim
        |cons c cs ih=>intro zs hz l us hl;cases zs with | nil=>exact hz.elim | cons z zs=>exact⟨hz.1,ih zs hz.2 hl⟩
      refine⟨zs.toList++vs,cells cs zs.toList fc.l h1,?_⟩
      simp only[tD]
      rw[List.take_left' PV,List.drop_left' PV,h2,hu]
theorem Inv.jc(hE:E.Ok P)(hW:sP P g.n.wl)(I:Inv w0 Mf g st a w)(hd:∀d,o.dst=some d→d<g.n.sz){fn:Nat}{args:List (Nat×Sv)}{us:List Value}(fZ:iX w g st args us)(h:jc E o fn args st k=some r)(hK:Then w0 Mf g st k r K):
    Calls P fn us.toArray w fun e w'=>∃v,e = .returned v∧K (a.put o.dst v) w':=by
 unfold Gm.jc at h
 obtain⟨sp,FZ,h⟩:=Option.bind_eq_some_iff.1 h
 obtain⟨jC,hex,h⟩:=Option.bind_eq_some_iff.1 h
 obtain⟨us',hI,Vi⟩:=mI fZ hex
 subst Vi
 clear hex fZ
 revert hI h
 generalize jC=P0
 intro h fZ
 obtain⟨hc,h⟩:=bg h
 simp only[Bool.and_eq_true,Bool.or_eq_true,List.all_eq_true,List.isEmpty_iff] at hc
 obtain⟨hlen,mg⟩:=hc
 have hlen:=gB hlen
 obtain⟨hAR,qI,s8⟩:=iX.zip hlen fZ
 obtain⟨br,I1,hh⟩:=I.dL hAR h
 obtain⟨ds,bs,d,Fs,Hs,h,hA,hH,L,FL,pI⟩:=hh (Reach g br sp.own (tO P0)) (fun x hx _=>xQ mg (s8 x hx))
 rw[qI] at hA hH
 obtain⟨M7,dp,Yj⟩:=hH.sub FL
 refine Calls.mono ((hE.spec fn sp FZ).1 ds _ r h g.n.wl w us' (Any Fs) (Reach g br sp.own (tO P0)) Fs hW (fun b o hb=>let ⟨h2,h3⟩:=I.base.wl b o hb;⟨.inl (I.base.ro b h2),I.kept.same.get h3 (I.base.ap b h2)⟩) hA M7 (fun F hF k hk=>⟨F,hF,hk⟩)
  (fun n hn hx=>(I.reach I1 L hn).1 (dp n hx)) (fun n hn=>(I.reach I1 L hn).2) (fun n hn=>(I.fL L (dp n hn)).2)) ?_
 rintro e w' ⟨outs,h,Vj⟩
 obtain⟨rs,Gs,Bs,he,ta,hBk,RG,Vk,Vl,Zc,Yk,DL,Gy⟩:=Vj.out
 obtain⟨g2,mH,d1,h,I2,G2⟩:=I.D0 I1 L hH FL pI hA hBk Vj.kept RG Vk Gy h
 have cK:∀G∈Gs,∀n,G n→(Any Fs n∨w.heap.size≤n)→fx w0 Mf g2 mH n:=by
  intro G hG n hn gW
  have hf:xP w0 Mf g br bs n:=gW.elim (fun h=>(I.fL L (dp n h)).1) fun h=>I1.xS h bs
  refine⟨fun id hi k7=> ?_,by rw[G2.ro];exact hf.ro,fun b hb e=> ?_,hf.fV⟩
  ·rcases G2.own id hi with ⟨h1,h2⟩ | h1
   ·rw[h2] at k7;exact hf.r id h1 k7
   ·rcases h1 n k7 with ⟨B,hB,hk⟩ | Vm
    ·exact Yk G hG B hB n hn hk
    ·rcases gW with hx | hx
     ·exact Yj.rem Vm hx
     ·have:=(I.fL L Vm.any).2;omega
  ·rw[G2.bx] at e
   have hm:=hf.b b ((G2.box b).1 hb) e
   obtain⟨⟨B,hB,hk⟩,_⟩:=hH.box hBk hm
   rw[e] at hk
   exact Yk G hG B hB n hn hk
 cases dO:sp.own
 ·simp only[dO,cond_false] at h ta
  obtain⟨g3,PZ,u0,h,I3,Z⟩:=Inv.freeze I2 h
  -- all that the results lead to is read alone from now on
  let RO:Nat→Prop:=fun n=>g3.ro n∨Any Gs n
  have gV:∀G∈Gs,∀n,G n→g3.ro n∨w.heap.size≤n:=by
   intro G hG n hn
   rcases Zc dO G hG n hn with h1 | h1
   ·rcases h1 with h1 | ⟨_,id,h2,h3,h4⟩ | ⟨h2,_⟩
    ·exact .inl (Z.ro n (by rw[G2.ro];exact h1))
    ·obtain⟨r',h5,h6⟩:=h3
     obtain⟨h7,h8,_⟩:=G2.live id r' h5
     exact .inl (Z.all id h2 ⟨r',h7,h6⟩ n (by rw[h8];exact h4))
    ·rw[dO] at h2;cases h2
   ·exact .inr h1
  have hf3:∀G∈Gs,∀n,G n→w.heap.size≤n→fx w0 Mf g2 mH n:=fun G hG n hn h1=>cK G hG n hn (.inr h1)
  have I4:Inv w0 Mf { g3 with ro:=RO } PZ a w':=I3.FT (G:=RO) (fun k=> .inl)
   (fun id n h1 h2 h3=>by
    rcases h3 with h3 | ⟨G,hG,hk⟩
    ·exact I3.apart.ew id n h1 h2 h3
    ·rcases gV G hG n hk with h4 | h4
     ·exact I3.apart.ew id n h1 h2 h4
     ·obtain⟨h5,h6⟩:=Z.own id h1
      rw[h6] at h2
      exact (hf3 G hG n hk h4).r id h5 h2)
   (fun b hb h3=>by
    rcases h3 with h3 | ⟨G,hG,hk⟩
    ·exact I3.apart.fI b hb h3
    ·rcases gV G hG _ hk with h4 | h4
     ·exact I3.apart.fI b hb h4
     ·refine (hf3 G hG _ hk h4).b b ?_ (by rw[Z.bx])
      rw[Z.eq] at hb;exact hb)
   (fun n h3=>by
    rcases h3 with h3 | ⟨G,hG,hk⟩
    ·exact I3.apart.da n h3
    ·exact DL G hG n hk)
   (fun n h3=>by
    rcases h3 with h3 | ⟨G,hG,hk⟩
    ·exact I3.apart.bM n h3
    ·rcases gV G hG n hk with h4 | h4
     ·exact I3.apart.bM n h4
     ·exact .inr (.inl (Nat.le_trans I.kept.same.1 h4)))
  obtain⟨n3,δ,h,e1,e2,u7⟩:=qS (w:=w') (g:={ g3 with ro:=RO }) ta (fun G hG n hn=> .inr ⟨G,hG,hn⟩) h
  refine⟨_,he,Inv.finish hK I4 (Z.n.trans G2.n) hd (by rw[Z.eq];simp only;rw[G2.az,L.az]) ?_ ?_ u7.pack h⟩
  ·rw[Z.eq,e1]
   simp only[List.append_nil,bh]
   exact jB (by rw[qU L G2,bh]) _
  ·rw[Z.eq,e2]
   simp only[List.append_nil]
   exact qV L G2
 ·simp only[dO,cond_true] at h ta
  obtain⟨hpG,Vn⟩:=Vl dO
  obtain⟨n3,g3,PZ,δ,h,I3,R3,u7⟩:=Inv.oz I2 (by rw[G2.n];exact ta) hpG (fun G hG n hn=>⟨cK G hG n hn (Vn G hG n hn),DL G hG n hn⟩) h
  refine⟨_,he,Inv.finish hK I3 (R3.n.trans G2.n) hd (by rw[R3.az,G2.az,L.az]) ?_ ?_ u7.pack h⟩
  ·rw[R3.roots]
   simp only[List.nil_append,bh]
   exact jB (by rw[qU L G2,bh]) _
  ·rw[R3.boxes]
   simp only[bh]
   exact jB (by rw[qV L G2,bh]) _
theorem Gz{fn:Nat}{args:Array Value}(dM:(execOp a.eval o).run P w = .ok (.enter fn args) w)(h:Calls P fn args w fun e w'=>∃v,e = .returned v∧K (a.put o.dst v) w'):o.wp P a w K Q:=by
 unfold Oper.wp
 rw[dM,Oper.upon_enter]
 refine Calls.mono h fun e w' ⟨v,he,hk⟩=> ?_
 subst he;exact hk
theorem vq{fn : Nat}{args : Array Value}{f : Func}(hf : P.funcs[fn]? = some f)(hb : f.body.isSome) (hn : f.name ≠ "runtime.NumGoroutine") : (callFunc fn args).run P w = .ok (.enter fn args) w := by
 have fl:f.body.isNone=false:=by cases h:f.body<;>simp_all
 have Mj : (f.name == "runtime.NumGoroutine") = false := by simpa using hn
 have mh:f.body≠none:=by intro e;simp[e] at hb
 simp[callFunc,hf,mh,hn]
theorem iX.of:∀{xs:List Operand}{Ts:List Nat}{ss:List Sv},Ts.length=ss.length→ss.length=xs.length→(∀(j:Nat) s,ss[j]? =some s→∃x,xs[j]? =some x∧dX w g st s (a.eval x))→iX w g st (Ts.zip ss) (xs.map a.eval)
 | [],Ts,ss,h1,h2,_=>by
  cases ss with
  |nil=>cases Ts with | nil=>trivial | cons _ _=>simp at h1
  |cons _ _=>simp at h2
 |x::xs,Ts,ss,h1,h2,h=>by
  cases ss with
  |nil=>simp at h2
  |cons s ss=>
   cases Ts with
   |nil=>simp at h1
   |cons T Ts=>
    refine⟨?_,iX.of (by simpa using h1) (by simpa using h2) fun j s' hj=>by simpa using h (j+1) s' (by simpa using hj)⟩
    obtain⟨x',kF,hr⟩:=h 0 s rfl
    simp only[List.getElem?_cons_zero,Option.some.injEq] at kF
    subst kF;exact hr
theorem iX.append:∀{l m:List (Nat×Sv)}{us vs:List Value},iX w g st l us→iX w g st m vs→iX w g st (l++m) (us++vs)
 | [],m,us,vs,h,hm=>by cases us with | nil=>exact hm | cons _ _=>exact h.elim
 |x::l,m,us,vs,h,hm=>by
  cases us with
  |nil=>exact h.elim
  |cons u us=>exact⟨h.1,iX.append h.2 hm⟩
theorem iX.boxes:∀{bs:List Nat},(∀ b∈bs,(ak st.boxes b).isSome)→iX w g st (bs.map fun b=>(0,.c (.one (.pt b 0)))) (bs.map fun b=>Value.pointer (some ⟨g.bx b,0,none⟩))
 | [],_=>trivial
 |b::bs,h=>⟨⟨rfl,rfl,h b (by simp)⟩,iX.boxes fun b hb=>h b (by simp[hb])⟩
theorem iX.rps:∀{ys:List (Σ t:Ty,El t)}{ps:List Value},ps.length=ys.length→(∀(i:Nat)(y:Σ t:Ty,El t)(q:Value),ys[i]? =some y→ps[i]? =some q→gG w g.ro y.1 y.2 0 q)→
    iX w g st (ys.map fun y=>(0,.c (.one (.rp y.1 y.2 0)))) ps
 | [],[],_,_=>trivial
 | [],_::_,h,_=>by simp at h
 |_::_,[],h,_=>by simp at h
 |y::ys,p::ps,h,hr=>by
  have h0:=hr 0 y p rfl rfl
  refine⟨⟨?_,h0⟩,iX.rps (by simpa using h) fun i y' q hy hq=>hr (i+1) y' q (by simpa using hy) (by simpa using hq)⟩
  obtain⟨b,o,cs,el,fz,e,_⟩:=h0
  subst e;rfl
theorem xT(hE:E.Ok P)(hW:sP P g.n.wl)(I:Inv w0 Mf g st a w)(hd:∀d,o.dst=some d→d<g.n.sz)(hK:Then w0 Mf g st k r K){c:Call}{f:Operand}(bZ:o.op = .call c)(Gb:c.callee = .value f)
 (h:eQ E o st k=some r):o.wp P a w K Q:=by
 simp only[eQ,bZ,Gb] at h
 replace h:=I.fu h;obtain⟨cf,h,Yl⟩:=h
 have go:∀(fn:Nat)(lg:List Value)(extra:List (Nat×Sv)),a.eval f = .func (.func fn) #[] lg.toArray→iX w g st extra lg→
   (j7 st c.args.toList fun ss=>cond (Nat.beq c.argTypes.toList.length ss.length) (Gm.jc E o fn (c.argTypes.toList.zip ss++extra) st k) none)=some r→o.wp P a w K Q:=by
  intro fn lg extra hf hx h
  obtain⟨ss,h,hl,hs⟩:=I.j7 h
  obtain⟨hlen,h⟩:=bg h
  have RL:=(iX.of (a:=a) (gB hlen) hl hs).append hx
  have GA:=I.jc hE hW hd RL h hK
  have Vo:∃sp,E.spec fn=some sp:=by
   unfold Gm.jc at h
   obtain⟨sp,FZ,_⟩:=Option.bind_eq_some_iff.1 h
   exact⟨sp,FZ⟩
  obtain⟨sp,FZ⟩:=Vo
  obtain⟨_,fd,h1,h2,h3⟩:=hE.spec fn sp FZ
  refine Gz (fn:=fn) (args:=(c.args.toList.map a.eval++lg).toArray) ?_ GA
  have:=vq (P:=P) (w:=w) (args:=(c.args.toList.map a.eval++lg).toArray) h1 h2 h3
  have e:c.args.map a.eval++lg.toArray=(c.args.toList.map a.eval++lg).toArray:=by apply Array.ext';simp
  simp only[execOp,bZ,resolve,Gb,hf,Deferred.ofValue,Sem.run_bind,Sem.run_pure,Result.andThen_ok,invoke,Array.empty_append,e,this]
 split at h
 ·rename_i fn bs
  obtain⟨hu,PF⟩:=Yl.2
  refine go fn (bs.map fun b=> .pointer (some ⟨g.bx b,0,none⟩)) _ hu ?_ h
  exact iX.boxes PF
 ·rename_i fn ys
  obtain⟨ps,hu,hl,hp⟩:=Yl.2
  exact go fn ps _ hu (iX.rps hl hp) h
 ·cases h
end Go.Gm
namespace Go.Gm
open Go
variable {R : Type} {P : Program} {E : Env} {w0 w : World} {Mf : Nat → Prop} {g : Gh} {st : St} {a : Act} {Q : Exit → Act → World → Prop}
  {o:Oper} {k:Dl→Option R} {r:R} {K:Act→World→Prop}
theorem kg(hE:E.Ok P)(hW:sP P g.n.wl)(I:Inv w0 Mf g st a w)(hd:∀d,o.dst=some d→d<g.n.sz)(hK:Then w0 Mf g st k r K)
 (h:eQ E o st k=some r):o.wp P a w K Q:=by
 cases bZ:o.op with
 |move x=>exact FV I hd hK (.inl bZ) (by simpa only[eQ,bZ] using h)
 |assign x=>exact FV I hd hK (.inr bZ) (by simpa only[eQ,bZ] using h)
 |pick c x y=>exact Rg I hd hK bZ h
 |alloc T=>exact MI hE I hd hK bZ h
 |box T x=>exact UT hE I hd hK bZ h
 |build T ps=>exact MR hE I hd hK bZ h
 |buildSlice T n ps=>exact vg hE I hd hK bZ h
 |load T x=>exact Rk hE I hd hK bZ h
 |store T x y=>exact MV hE I hK bZ h
 |nilCheck x=>exact zA I hd hK bZ h
 |binOp op T x y T'=>exact MD hE I hd hK bZ h
 |unOp op T x=>exact Rh I hd hK bZ h
 |convert S T x=>exact DD hE I hd hK bZ h
 |makeFunc fn first lg=>exact zB I hd hK bZ h
 |makeSlice T n m=>exact xK hE I hd hK bZ h
 |slice T x lo hi mx=>
  cases mx with
  |none=>exact MF hE I hd hK bZ h
  |some _=>simp only[eQ,bZ] at h;cases h
 |fieldAddr T x f=>exact xC hE I hd hK bZ h
 |field T x f=>exact MG hE I hd hK bZ h
 |indexAddr T x i=>exact xD hE I hd hK bZ h
 |index T x i=>exact ME hE I hd hK bZ h
 |extract x i=>exact DC I hd hK bZ h
 |call c=>
  cases hc:c.callee with
  |value f=>exact xT hE hW I hd hK bZ hc h
  |invoke _ _=>simp only[eQ,bZ,hc] at h;cases h
  |builtin b=>
   cases b with
   |len=>exact UQ hE I hd hK bZ hc h
   |append=>exact Ga hE I hd hK bZ hc h
   |min=>exact UR I hd hK bZ hc h
   |max=>exact US I hd hK bZ hc h
   |clear=>exact MY hE I hK bZ hc h
   |_=>simp only[eQ,bZ,hc,eP] at h;cases h
 |_=>simp only[eQ,bZ] at h;cases h
end Go.Gm
namespace Go.Gm
open Go
inductive Ex where
 | normal | exit (id:Nat) | ret
abbrev Kx(R:Type):=Ex→St→Option R
def Sc.fix(st:St):Sc→Sc
 | .h id ver iv p=>match ak st.roots id with | some (.live r)=>cond (Nat.beq r.ver ver&&gE r iv p) (.h id 0 0 p) .dead | _=> .dead
 | .vw id ver lo hi=>match ak st.roots id with | some (.live r)=>cond (Nat.beq r.ver ver) (.vw id 0 lo hi) .dead | _=> .dead
 | .pe id ver iv p i off=>match ak st.roots id with | some (.live r)=>cond (Nat.beq r.ver ver&&gE r iv p) (.pe id 0 0 p i off) .dead | _=> .dead
 |c=>c
def Cm.map(f:Sc→Sc):Cm→Cm | .one c=> .one (f c) | .agg cs=> .agg (cs.map f)
def Sv.map(f:Sc→Sc):Sv→Sv | .c x=> .c (x.map f) | .tu vs=> .tu (vs.map (Cm.map f))
def cB(n:Nat):List Nat→Bool | []=>false | m::r=>cond (Nat.beq n m) true (cB n r)
def Sc.boxed(bs:List Nat):Sc→Sc
 | .pt b off=>cond (cB b bs) (.pt b off) .dead
 | .fq f cs=>cond (cs.all fun b=>cB b bs) (.fq f cs) .dead
 |c=>c
def St.named(az:List (Nat×Sv)):List Nat×List Nat:=
  let ns:=(az.map fun s=>(s.2.cells.map Sc.names)).flatten
 ((ns.map (·.1)).flatten,(ns.map (·.2)).flatten)
def kh(boxes:List (Nat×Bx)):List Nat×List Nat:=
  let ns:=(boxes.map fun s=>(s.2.cs.map Sc.names)).flatten
 ((ns.map (·.1)).flatten,(ns.map (·.2)).flatten)
def Rt.zR:Rt→Rt | .live x=> .live ⟨x.t,x.md.norm,0,[],x.xs⟩ | _=> .gone 0
def St.clean(keep:List Nat)(st:St):St:=
  let az:=(st.az.filter fun s=>cB s.1 keep).map fun s=>(s.1,s.2.map (Sc.fix st))
  let b0:=(St.named az).1
  let b1:=(kh (st.boxes.filter fun b=>cB b.1 b0)).1
  let boxes:=(st.boxes.filter fun b=>cB b.1 b0||cB b.1 b1)
  let bs:=boxes.map (·.1)
  let az:=az.map fun s=>(s.1,s.2.map (Sc.boxed bs))
  let boxes:=boxes.map fun b=>(b.1,(⟨b.2.t,b.2.cs.map fun c=>(c.fix st).boxed bs⟩:Bx))
  let rs:=(St.named az).2++(kh boxes).2
  { az,boxes
    roots:=(st.roots.filter fun r=>cB r.1 rs).map fun r=>(r.1,r.2.zR) }
structure Mk where
 box:Bool
 ro:Bool
 s:Nat
 j:Nat
 t:Ty
structure Kp where
 az:List Nat
 lists:List Mk
 Vp:List Nat
 Vq:List (Nat×Nat)
def Mk.id(m:Mk):Nat:=64*m.s+m.j
def Mk.cell(m:Mk):Sc:=cond m.ro (.ro m.t []) (.h m.id 0 0 [])
def Mk.roots(m:Mk)(roots:List (Nat×Rt)):List (Nat×Rt):=cond m.ro roots (bc roots m.id (.live ⟨m.t,.deep,0,[],[]⟩))
def Mk.free(m:Mk)(st:St):Bool:=m.ro||(match ak st.roots m.id with | none=>true | some _=>false)
def D1:Option Sc→Bool | some .nl=>true | _=>false
def St.xU(st:St)(m:Mk):St:=
  cond (m.free st)
 (cond m.box
 (match ak st.boxes m.s with
       |some x=>cond (D1 x.cs[m.j]?) { st with boxes:=bc st.boxes m.s ⟨x.t,x.cs.set m.j m.cell⟩,roots:=m.roots st.roots } st
       |none=>st)
      (match ak st.az m.s with
       |some (.c (.one .nl))=>{ st with az:=bc st.az m.s (.c (.one m.cell)),roots:=m.roots st.roots }
       |some (.c (.agg cs))=>cond (D1 cs[m.j]?) { st with az:=bc st.az m.s (.c (.agg (cs.set m.j m.cell))),roots:=m.roots st.roots } st
       |_=>st)) st
def St.oA(st:St):List Mk→St
 | []=>st
 |m::ms=>(st.xU m).oA ms
def St.GB(st:St)(id:Nat):St:=match ak st.roots id with
 |some (.live r)=>cond r.md.cU st { st with roots:=bc st.roots id (.live ⟨r.t,.BQ,r.ver,r.log,r.xs⟩) }
 |_=>st
def St.Vr(st:St)(id:Nat):St:=match ak st.roots id with
 |some (.live ⟨t,.deep,ver,log,xs⟩)=>{ st with roots:=bc st.roots id (.live ⟨t,.iZ,ver,log,xs⟩) }
 |_=>st
def St.Vs(st:St)(id:Nat):St:=match ak st.roots id with
 |some (.live ⟨t,.deep,ver,log,xs⟩)=>{ st with roots:=bc st.roots id (.live ⟨t,.part (.cur 0 0),ver,log,xs⟩) }
 |_=>st
def St.GC(st:St)(id:Nat):St:=cond (Nat.ble 1000000000 id) (cond (Nat.ble 2000000000 id) (st.Vs (id-2000000000)) (st.Vr (id-1000000000))) (st.GB id)
def St.frozen(st:St):List Nat→St
 | []=>st
 |i::is=>(st.GC i).frozen is
def rn(a b n:Nat):Nat:=cond (Nat.beq n a) b n
def Sc.vt(a b:Nat):Sc→Sc
 | .h id ver iv p=> .h (rn a b id) ver iv p
 | .vw id ver lo hi=> .vw (rn a b id) ver lo hi
 | .pe id ver iv p i off=> .pe (rn a b id) ver iv p i off
 |c=>c
def Bx.map(f:Sc→Sc)(x:Bx):Bx:=⟨x.t,x.cs.map f⟩
def St.GD(st:St)(a b:Nat):St:=match ak st.roots a with
  |some (.live r)=>match ak st.roots b with
    |none=>{ az:=st.az.map fun s=>(s.1,s.2.map (Sc.vt a b)),boxes:=st.boxes.map fun x=>(x.1,x.2.map (Sc.vt a b)),roots:=bc (st.roots.filter fun x=> !(Nat.beq x.1 a)) b (.live r) }
    |some _=>st
  |_=>st
def St.renamed(st:St):List (Nat×Nat)→St
 | []=>st
 |x::xs=>(st.GD x.1 x.2).renamed xs
def Kp.tidy(k:Kp)(st:St):St:=(((st.clean k.az).oA k.lists).frozen k.Vp).renamed k.Vq
structure kB where
 s:List Nat
 b:List Nat
 r:List Nat
 d:Option Nat
 m:List Nat:=[]
def pQ(d:Option Nat)(n:Nat):Bool:=match d with | some m=>Nat.beq n m | none=>false
def kB.vu(u:kB)(n:Nat):Bool:=cB n u.s
def kB.hasB(u:kB)(n:Nat):Bool:=cB n u.b||pQ u.d n
def kB.k9(u:kB)(n:Nat):Bool:=cB n u.r||(cB (n/64) u.b||pQ u.d (n/64))
def kB.M9(u:kB)(n:Nat):Bool:=cB n u.m
def tmpsOf(xs:List Operand):List Nat:=xs.filterMap fun | .tmp t=>some t | _=>none
def fr(ops:Array Oper)(o:Oper):Option Nat:=match o.guard with | none=>none | some (j,_)=>(ops[j]?).bind (·.dst)
def GF(o:Oper):Bool:=match o.op with | .move _ | .assign _=>true | _=>false
def bC(ops:Array Oper)(st:St)(o:Oper):kB:=
  let s:=tmpsOf o.op.operands.toList++(fr ops o).toList
  let ns:=(s.map fun t=>match ak st.az t with | some v=>v.cells.map Sc.names | none=>[]).flatten
  let b0:=(ns.map (·.1)).flatten
  let r0:=(ns.map (·.2)).flatten
  { s,b:=b0,r:=r0++(b0.map (na st)).flatten,d:=some (o.dst.getD 0) }
def jD(st:St):Operand→Option Sc
 | .tmp t=>match ak st.az t with | some (.c (.one c))=>some c | _=>none
 |_=>none
def qW(st:St)(o:Oper):Option (List Nat):=match o.op with
 | .fieldAddr _ x _=>match jD st x with | some (.pt _ _)=>some [] | _=>none
 | .load _ x=>match jD st x with | some (.pt _ _)=>some [] | _=>none
 | .slice _ x _ _ none=>match jD st x with | some (.h id _ _ [])=>some [id] | _=>none
 | .nilCheck x=>match jD st x with | some (.pt _ _)=>some [] | _=>none
 | .store _ x _=>match jD st x with | some (.pt _ _)=>some [] | _=>none
 |_=>none
def eJ(ops:Array Oper)(st:St)(o:Oper):kB:=
  cond (GF o) { s:=tmpsOf o.op.operands.toList++(fr ops o).toList,b:=[],r:=[],d:=some (o.dst.getD 0) }
    (match qW st o with | some m=>{ s:=(bC ops st o).s,b:=(bC ops st o).b,r:=[],d:=some (o.dst.getD 0),m } | none=>bC ops st o)
def GG:Sc→Bool | .nl=>true | .h _ _ _ []=>true | _=>false
def vv(st:St)(o:Oper)(d:Dl):List Nat:=match o.op with
 | .call c=>match c.callee,c.args.toList with
  | .builtin .append,[s,x]=>match jD st s,jD st x,d.roots with
   |some s,some (.vw id _ _ _),(n,.live _)::rest=>cond (GG s&&(Nat.beq n id&&(!rest.isEmpty&& !cB id (rest.map (·.1))))) [id] []
   |_,_,_=>[]
  |_,_=>[]
 |_=>[]
def Cb:Md→List (Nat×Nat)→Bool | .deep,_=>true | .part (.hole p0),p=>Nat.blt p.length p0.length | _,_=>false
def fA(E:Env)(st:St)(o:Oper):Option (Bool×Nat):=cond o.guard.isNone (match o.op with
 | .indexAddr _ x _=>match jD st x with | some (.h _ _ _ _)=>some (false,0) | _=>none
 | .store T x y=>cond o.dst.isNone ((E.code T).bind fun t=>match jD st x with
  |some (.pe id ver iv p _ off)=>jb st id ver iv p fun r=>cond (Cb r.md p) ((sub r.t r.xs p).bind fun s=>cond (Nat.ble (off+ao t) (ao s.t))
    (dq st y fun sv=>(fa t sv).bind fun cs=>cond (Nat.beq cs.length (ao t)) (some (true,id)) none) none) none
  |_=>none) none
 |_=>none) none
structure Rec where
 i:Nat
 u:kB
 d:Dl
 ms:List Nat
 lt:Option (Bool×Nat)
def Dl.lu(d:Dl):List Nat:=match d.slot with | some (s,_)=>[s] | none=>[]
def Dl.qX(d:Dl):List Nat:=d.boxes.map (·.1)
def Dl.jT(d:Dl):List Nat:=d.roots.map (·.1)
def Rec.clear(x y:Rec):Bool:=
 (x.d.lu.all fun n=> !(cB n y.d.lu||y.u.vu n))&&
 ((x.d.qX.all fun n=> !(cB n y.d.qX||y.u.hasB n))&&
 (x.d.jT.all fun n=> !(cB n y.d.jT||(y.u.k9 n||cond (y.u.M9 n) (!cB n x.ms) false))))
def jk:List Oper→List Nat→List Nat
 | [],acc=>acc
 |o::r,acc=>jk r (acc++[o.after.toList.foldl (fun s e=>cond (Region.binds .any e) (s ||| (2^e.on ||| acc.getD e.on 0)) s) 0])
def eC(ops:Array Oper):List Nat:=jk ops.toList []
def zS(ah:List Nat)(x y:Rec):Bool:=
  cond (Nat.blt x.i y.i) (Nat.testBit (ah.getD y.i 0) x.i||(x.clear y&&y.clear x)) true
def lv(ops:Array Oper)(rs:List Rec):Bool:=rs.all fun x=>rs.all fun y=>zS (eC ops) x y
def nq:Nat→List Oper→Bool
 |_,[]=>true
 |i,o::r=>(o.after.toList.all fun e=> !Region.binds .any e||Nat.blt e.on i)&&nq (i+1) r
section ev
variable {R : Type}
def St.dR(st:St)(g:Nat)(b:Bool):St:={ st with az:=bc st.az g (.c (.one (.v (.bool b)))) }
def jU(o:Oper):Dl:={ slot:=o.dst.map fun d=>(d,.tu []) }
def Ym(E:Env)(ops:Array Oper)(o:Oper)(st:St)(k:St→Dl→Option R):Option R:=
  match o.guard with
  |none=>eQ E o st (k st)
  |some (_,want)=>(fr ops o).bind fun g=>
      match ak st.az g with
      |some (.c (.one (.v (.bool b))))=>
        cond b (let st:=st.dR g true;cond want (eQ E o st (k st)) (k st (jU o)))
               (let st:=st.dR g false;cond want (k st (jU o)) (eQ E o st (k st)))
      |some (.tu [])=>k st (jU o)
      |_=>none
def Cc(E:Env)(ops:Array Oper):List Oper→St→(St→Option R)→Option R
 | [],st,k=>k st
 |o::r,st,k=>Ym E ops o st fun st d=>Cc E ops r (st.apply d) k
def vx(E:Env)(ops:Array Oper):Nat→List Oper→List Rec→St→(List Rec→St→Option R)→Option R
 |_,[],rs,st,k=>k rs st
 |i,o::r,rs,st,k=>Ym E ops o st fun st d=>vx E ops (i+1) r (⟨i,eJ ops st o,d,vv st o d,fA E st o⟩::rs) (st.apply d) k
def hU(W:List Nat)(o:Oper):Oper:={ o with after:=o.after++(W.map fun i=>({ on:=i,ground:= .data }:Edge)).toArray }
def cR(ops:Array Oper)(j:Nat)(W:List Nat):Array Oper:=ops.modify j (hU W)
def P1(ah:List Nat)(rs:List Rec):Option Nat:=(rs.reverse.find? fun y=>rs.any fun x=> !(zS ah x y)).map (·.i)
def Cd(ah:List Nat)(j:Nat):List Nat:=(List.range j).filter fun i=> !(Nat.testBit (ah.getD j 0) i)
def xV(xs:List Nat)(id:Nat)(x:Rec):Bool:=
 (match x.lt with | some (false,_)=>true | some (true,aK)=> !(Nat.beq aK id) | none=>false)&&
 ((x.d.lu.all fun n=> !(cB n xs))&&(x.d.jT.all fun n=> !(Nat.beq n id)))
def zT(ops:Array Oper)(rs:List Rec)(j:Nat)(W:List Nat):Bool:=
  match ops[j]? with
 |none=>false
 |some oj=>(rs.all fun y=> !(Nat.beq y.i j)||(match y.lt with
   |some (true,id)=>rs.all fun x=> !(cB x.i W)||xV (tmpsOf oj.op.operands.toList) id x
   |_=>false))&&
  (W.all fun i=>match ops[i]? with | some o=>(match o.dst with | some d=> !(cB d (tmpsOf oj.op.operands.toList)) | none=>true) | none=>false)&&
  ((List.range ops.size).all fun i=>cB i W||(Nat.beq i j||(Nat.testBit ((eC ops).getD j 0) i||W.all fun v=>Nat.testBit ((eC ops).getD i 0) v)))
def vy(ops:Array Oper)(rs:List Rec):Bool:=match P1 (eC ops) rs with
 |some j=>lv (cR ops j (Cd (eC ops) j)) rs&&zT ops rs j (Cd (eC ops) j)
 |none=>false
def qY(E:Env)(ops:Array Oper)(draw:Bool)(st:St)(k:St→Option R):Option R:=
  cond draw (vx E ops 0 ops.toList [] st fun rs st=>cond (nq 0 ops.toList&&(lv ops rs||vy ops rs)) (k st) none) (Cc E ops ops.toList st k)
def iter(body:St→(Kx R)→Option R):Nat→St→(Kx R)→Option R
 |0,_,_=>none
 |n+1,st,k=>body st fun e st=>match e with
   | .normal=>iter body n st k
   |e=>k e st
def ev(E:Env)(keep:Nat→Kp)(n:Nat):Code→St→(Kx R)→Option R
 | .skip,st,k=>k .normal st
 | .region id ops draw,st,k=>qY E ops draw st fun st=>k .normal ((keep id).tidy st)
 | .seq a b,st,k=>ev E keep n a st fun e st=>match e with
   | .normal=>ev E keep n b st k
   |e=>k e st
 | .cond c x y,st,k=>getBool st c fun b=>cond b (ev E keep n x st k) (ev E keep n y st k)
 | .block id c,st,k=>ev E keep n c st fun e st=>match e with
   | .exit aK=>cond (Nat.beq aK id) (k .normal st) (k (.exit aK) st)
   |e=>k e st
 | .loop c,st,k=>iter (fun st k=>ev E keep n c st k) n st k
 | .exit id,st,k=>k (.exit id) st
 | .ret,st,k=>k .ret st
 |_,_,_=>none
end ev
end Go.Gm
namespace Go.Gm
open Go
def Spec.jV(s:Spec):Prop:=∀ds,∃q:Option (List Dt),∀(R:Type)(k:Kt R),s.fn ds k=q.bind k
def Env.jV(E:Env):Prop:=∀f s,E.spec f=some s→s.jV
def o7(u:kB)(c:Sc):Prop:=∀id∈c.names.2,u.k9 id=true
def Uv(u:kB)(c:Sc):Prop:=(∀ b∈c.names.1,cB b u.b=true)∧o7 u c
def zU(u:kB)(s:Sv):Prop:=∀c∈s.cells,Uv u c
structure Ag (u:kB) (st aI:St):Prop where
 s:∀n,u.vu n=true→ak aI.az n=ak st.az n
 b:∀n,u.hasB n=true→ak aI.boxes n=ak st.boxes n
 r:∀n,u.k9 n=true→ak aI.roots n=ak st.roots n
 cs:∀n,u.vu n=true→∀v,ak st.az n=some v→zU u v
 cb:∀n,cB n u.b=true→∀x,ak st.boxes n=some x→∀c∈x.cs,o7 u c
variable {R R' : Type} {ρ : Option R → Option R' → Prop} {u : kB} {st aI : St} {E : Env} {o : Oper}
theorem dA.{v} {α:Type v} (h0:ρ none none) {q:Option α} {f:α→Option R} {f':α→Option R'} (h:∀x,q=some x→ρ (f x) (f' x)):ρ (q.bind f) (q.bind f'):=by
 cases q with
 |none=>exact h0
 |some x=>exact h x rfl
theorem bN.{v} {α:Type v} (h0:ρ none none) {q:Option α} {f:α→Option R} {f':α→Option R'} (h:∀x,q=some x→ρ (f x) (f' x)):ρ (q.bind f) (q.bind f'):=by
 cases q with
 |none=>exact h0
 |some x=>exact h x rfl
theorem jE{b:Bool}{x y:Option R}{x' y':Option R'}(h:b=true→ρ x x')(h':b=false→ρ y y'):ρ (cond b x y) (cond b x' y'):=by
 cases b with
 |true=>exact h rfl
 |false=>exact h' rfl
theorem bB(h0:ρ none none){b:Bool}{x:Option R}{x':Option R'}(h:b=true→ρ x x'):ρ (cond b x none) (cond b x' none):=jE h fun _=>h0
theorem kB.nr{n:Nat}(h:cB n u.b=true):u.hasB n=true:=by simp[kB.hasB,h]
theorem qZ{α:Type}{l l':List (Nat×α)}{n:Nat}(h:ak l' n=ak l n)(m:Nat)(v:α):ak (bc l' m v) n=ak (bc l m v) n:=by
 rw[aJ,aJ,h]
theorem Ag.bV(A:Ag u st aI)(id:Nat)(x:Rt):Ag u { st with roots:=bc st.roots id x } { aI with roots:=bc aI.roots id x }:=
 ⟨A.s,A.b,fun n hn=>qZ (A.r n hn) id x,A.cs,A.cb⟩
theorem Ag.dR(A:Ag u st aI)(b:Nat)(x:Bx)(hx:∀c∈x.cs,o7 u c):Ag u { st with boxes:=bc st.boxes b x } { aI with boxes:=bc aI.boxes b x }:=
 ⟨A.s,fun n hn=>qZ (A.b n hn) b x,A.r,A.cs,fun n hn y hy=>by
    simp only[aJ] at hy
    split at hy
    · cases hy;exact hx
    · exact A.cb n hn y hy⟩
theorem nt{v:Value}{c:Sc}(h:iV v=some c):Uv u c:=by
 unfold iV at h
 split at h<;>first | (cases h;exact⟨by simp[Sc.names],by simp[o7,Sc.names]⟩) | cases h
theorem mr:∀{vs:List Value}{cs:List Sc},gj vs=some cs→∀c∈cs,Uv u c
 | [],cs,h=>by cases h;simp
 |v::vs,cs,h=>by
  simp only[gj] at h
  obtain⟨c,hc,h⟩:=Option.bind_eq_some_iff.1 h
  obtain⟨ds,hd,h⟩:=Option.bind_eq_some_iff.1 h
  cases h
  intro x hx
  rcases List.mem_cons.1 hx with rfl | hx
  ·exact nt hc
  ·exact mr hd x hx
theorem zV{v:Value}{s:Sv}(h:lP v=some s):zU u s:=by
 unfold lP at h
 split at h
 ·obtain⟨cs,hc,h⟩:=Option.bind_eq_some_iff.1 h
  cases h
  exact mr hc
 ·obtain⟨c,hc,h⟩:=Option.bind_eq_some_iff.1 h
  cases h
  intro x hx
  simp[Sv.cells,Cm.cells] at hx
  subst hx
  exact nt hc
def zk(u:kB)(x:Operand):Prop:=∀t,x = .tmp t→u.vu t=true
theorem gM(h0:ρ none none)(A:Ag u st aI){x:Operand}(hx:zk u x){k:Sv→Option R}{k':Sv→Option R'}(hk:∀s,zU u s→ρ (k s) (k' s)):ρ (dq st x k) (dq aI x k'):=by
 cases x with
 |tmp t=>simp only[dq];rw[A.s t (hx t rfl)];exact dA h0 fun v hv=>hk v (A.cs t (hx t rfl) v hv)
 |const v=>simp only[dq];exact dA h0 fun s hs=>hk s (zV hs)
 |func f=>simp only[dq];exact hk _ (by intro c hc;simp[Sv.cells,Cm.cells] at hc;subst hc;exact⟨by simp[Sc.names],by simp[o7,Sc.names]⟩)
 |global _=>exact h0
theorem hZ(h0:ρ none none)(A:Ag u st aI){x:Operand}(hx:zk u x){k:Sc→Option R}{k':Sc→Option R'}(hk:∀c,Uv u c→ρ (k c) (k' c)):ρ (fu st x k) (fu aI x k'):=
  gM h0 A hx fun s hs=>by
    split
    · rename_i c
      have hc:=hs c (by simp[Sv.cells,Cm.cells])
      refine hk c.soft ?_
      cases c<;>exact hc
    · exact h0
theorem jl(h0:ρ none none)(A:Ag u st aI){x:Operand}(hx:zk u x){k:Value→Option R}{k':Value→Option R'}(hk:∀c,ρ (k c) (k' c)):ρ (iA st x k) (iA aI x k'):=
  hZ h0 A hx fun c _=>by split<;>first | exact h0 | exact hk _
theorem D2(h0:ρ none none)(A:Ag u st aI){x:Operand}(hx:zk u x){k:Bool→Option R}{k':Bool→Option R'}(hk:∀c,ρ (k c) (k' c)):ρ (getBool st x k) (getBool aI x k'):=
  jl h0 A hx fun c=>by split<;>first | exact h0 | exact hk _
theorem lx(h0:ρ none none)(A:Ag u st aI){x:Operand}(hx:zk u x){k:Int→Option R}{k':Int→Option R'}(hk:∀c,ρ (k c) (k' c)):ρ (getInt st x k) (getInt aI x k'):=
  jl h0 A hx fun c=>by split<;>first | exact h0 | exact hk _
theorem jm(h0:ρ none none)(A:Ag u st aI){id ver:Nat}(hi:u.k9 id=true){k:cy→Option R}{k':cy→Option R'}(hk:∀c,ρ (k c) (k' c)):ρ (iH st id ver k) (iH aI id ver k'):=by
 unfold iH
 rw[A.r id hi]
 split
 ·exact bB h0 fun _=>hk _
 ·exact h0
theorem iy(h0:ρ none none)(A:Ag u st aI){id ver iv:Nat}{p:Path}(hi:u.k9 id=true){k:cy→Option R}{k':cy→Option R'}(hk:∀c,ρ (k c) (k' c)):ρ (jb st id ver iv p k) (jb aI id ver iv p k'):=
  jm h0 A hi fun c=>bB h0 fun _=>hk _
theorem zW(h0:ρ none none)(A:Ag u st aI){c:Sc}(hc:o7 u c){q:Option Ty}{k:Cv→Option R}{k':Cv→Option R'}(hk:∀c,ρ (k c) (k' c)):ρ (ma st c q k) (ma aI c q k'):=by
 unfold ma
 split<;>first
  | exact h0
  | exact hk _
  |exact iy h0 A (hc _ (by simp[Sc.names])) fun c=>bB h0 fun _=>bN h0 fun _ _=>hk _
  |exact jm h0 A (hc _ (by simp[Sc.names])) fun c=>bB h0 fun _=>hk _
theorem Ce(h0:ρ none none)(A:Ag u st aI):∀{cs:List Sc}{qs:List (Option Ty)}(_:∀c∈cs,o7 u c){k:List Cv→Option R}{k':List Cv→Option R'}(_:∀c,ρ (k c) (k' c)),ρ (zy st cs qs k) (zy aI cs qs k')
 | [],[],_,_,_,hk=>hk _
 | [],_::_,_,_,_,_=>h0
 |_::_,[],_,_,_,_=>h0
 |c::cs,q::qs,hc,k,k',hk=>zW h0 A (hc c (by simp)) fun x=>Ce h0 A (fun c h=>hc c (by simp[h])) fun xs=>hk _
theorem iE{t:Ty}{s:Sv}{cs:List Sc}(h:fa t s=some cs):∀c∈cs,c∈s.cells:=by
 unfold fa at h
 split at h<;>cases h<;>simp[Sv.cells,Cm.cells]
theorem GH(h0:ρ none none)(A:Ag u st aI){t:Ty}{s:Sv}(hs:zU u s){k:El t→Option R}{k':El t→Option R'}(hk:∀c,ρ (k c) (k' c)):ρ (og st t s k) (og aI t s k'):=
  bN h0 fun cs fc=>Ce h0 A (fun c h=>(hs c (iE fc c h)).2) fun xs=>dA h0 fun y _=>hk y
theorem pR(h0:ρ none none)(A:Ag u st aI){c:Sc}(hc:o7 u c){q:Option Ty}{k:Cv→Bool→St→List (Nat×Rt)→Option R}{k':Cv→Bool→St→List (Nat×Rt)→Option R'}
 (hk:∀x d s s' v,Ag u s s'→ρ (k x d s v) (k' x d s' v)):ρ (iM st c q k) (iM aI c q k'):=by
 unfold iM
 split<;>first
  | exact h0
  | exact hk _ _ _ _ _ A
  |exact jm h0 A (hc _ (by simp[Sc.names])) fun c=>bB h0 fun _=>jE (fun _=>hk _ _ _ _ _ A) fun _=>hk _ _ _ _ _ (A.bV _ _)
theorem xW(h0:ρ none none)(A:Ag u st aI){c:Sc}(hc:o7 u c){q:Option Ty}{k:Cv→Bool→St→List (Nat×Rt)→Option R}{k':Cv→Bool→St→List (Nat×Rt)→Option R'}
 (hk:∀x d s s' v,Ag u s s'→ρ (k x d s v) (k' x d s' v)):ρ (jL st c q k) (jL aI c q k'):=by
 unfold jL
 split
 ·exact iy h0 A (hc _ (by simp[Sc.names])) fun r=>bB h0 fun _=>bN h0 fun s _=>hk _ _ _ _ _ (A.bV _ _)
 ·exact pR h0 A hc hk
theorem M'(h0:ρ none none)(A:Ag u st aI){c:Sc}(hc:o7 u c){q:Option Ty}{k:Cv→Bool→St→List (Nat×Rt)→Option R}{k':Cv→Bool→St→List (Nat×Rt)→Option R'}
 (hk:∀x d s s' v,Ag u s s'→ρ (k x d s v) (k' x d s' v)):ρ (tA st c q k) (tA aI c q k'):=by
 unfold tA
 split
 ·exact jm h0 A (hc _ (by simp[Sc.names])) fun r=>jE (fun _=>hk _ _ _ _ _ (A.bV _ _)) fun _=>pR h0 A hc hk
 ·exact xW h0 A hc hk
theorem Cf(h0:ρ none none):∀{st aI:St}(_:Ag u st aI){cs:List Sc}{qs:List (Option Ty)}(_:∀c∈cs,o7 u c){k:List Cv→Bool→St→List (Nat×Rt)→Option R}{k':List Cv→Bool→St→List (Nat×Rt)→Option R'}
 (_:∀x d s s' v,Ag u s s'→ρ (k x d s v) (k' x d s' v)),ρ (oX st cs qs k) (oX aI cs qs k')
 |_,_,A,[],[],_,_,_,hk=>hk _ _ _ _ _ A
 |_,_,_,[],_::_,_,_,_,_=>h0
 |_,_,_,_::_,[],_,_,_,_=>h0
 |_,_,A,c::cs,q::qs,hc,k,k',hk=>xW h0 A (hc c (by simp)) fun x d s s' v A=>Cf h0 A (fun c h=>hc c (by simp[h])) fun _ _ _ _ _ A=>hk _ _ _ _ _ A
theorem vz(h0:ρ none none):∀{st aI:St}(_:Ag u st aI){cs:List Sc}{qs:List (Option Ty)}(_:∀c∈cs,o7 u c){k:List Cv→Bool→St→List (Nat×Rt)→Option R}{k':List Cv→Bool→St→List (Nat×Rt)→Option R'}
 (_:∀x d s s' v,Ag u s s'→ρ (k x d s v) (k' x d s' v)),ρ (mE st cs qs k) (mE aI cs qs k')
 |_,_,A,[],[],_,_,_,hk=>hk _ _ _ _ _ A
 |_,_,_,[],_::_,_,_,_,_=>h0
 |_,_,_,_::_,[],_,_,_,_=>h0
 |_,_,A,c::cs,q::qs,hc,k,k',hk=>pR h0 A (hc c (by simp)) fun x d s s' v A=>vz h0 A (fun c h=>hc c (by simp[h])) fun _ _ _ _ _ A=>hk _ _ _ _ _ A
theorem Na(h0:ρ none none)(A:Ag u st aI){t:Ty}{s:Sv}(hs:zU u s){k:El t→Bool→St→List (Nat×Rt)→Option R}{k':El t→Bool→St→List (Nat×Rt)→Option R'}
 (hk:∀x d s s' v,Ag u s s'→ρ (k x d s v) (k' x d s' v)):ρ (tw st t s k) (tw aI t s k'):=
  bN h0 fun cs fc=>vz h0 A (fun c h=>(hs c (iE fc c h)).2) fun xs d s s' v A=>dA h0 fun y _=>hk _ _ _ _ _ A
theorem GI(h0:ρ none none)(A:Ag u st aI){t:Ty}{s:Sv}(hs:zU u s){k:El t→Bool→St→List (Nat×Rt)→Option R}{k':El t→Bool→St→List (Nat×Rt)→Option R'}
 (hk:∀x d s s' v,Ag u s s'→ρ (k x d s v) (k' x d s' v)):ρ (oh st t s k) (oh aI t s k'):=
  bN h0 fun cs fc=>Cf h0 A (fun c h=>(hs c (iE fc c h)).2) fun xs d s s' v A=>dA h0 fun y _=>hk _ _ _ _ _ A
theorem q8(h0:ρ none none)(A:Ag u st aI){id:Nat}(hi:u.k9 id=true){t:Ty}{md:Md}{xs:List (El t)}{k:cy→Option R}{k':cy→Option R'}(hk:∀c,ρ (k c) (k' c)):ρ (mkRoot st id t md xs k) (mkRoot aI id t md xs k'):=by
 unfold mkRoot
 rw[A.r id hi]
 split<;>first | exact h0 | exact hk _
theorem oB(h0:ρ none none)(A:Ag u st aI){id:Nat}(hi:u.k9 id=true){t:Ty}{md:Md}{xs:List (El t)}{k:cy→Option R}{k':cy→Option R'}(hk:∀c,ρ (k c) (k' c)):ρ (iQ st id t md xs k) (iQ aI id t md xs k'):=by
 unfold iQ
 rw[A.r id hi]
 split
 ·exact bB h0 fun _=>hk _
 ·exact q8 h0 A hi hk
def zl(u:kB)(b:Nat):Prop:=(cB b u.b||pQ u.d b)=true
theorem zl.r{b id:Nat}(h:zl u b)(hi:id/64=b):u.k9 id=true:=by
 subst hi;unfold zl at h;simp only[kB.k9,h,Bool.or_true]
theorem zl.b{b:Nat}(h:zl u b):u.hasB b=true:=h
theorem GJ{id:Nat}(h:Nat.beq (id%64) 63=false):(id+1)/64=id/64:=by
 have h:id%64≠63:=fun e=>by rw[e] at h;cases h
 omega
theorem q9(h0:ρ none none){b:Nat}(hb:zl u b){own:Bool}:∀{cs:List Cv}{st aI:St}(_:Ag u st aI){id:Nat}(_:id/64=b){k:List Sc→Nat→St→List (Nat×Rt)→Option R}{k':List Sc→Nat→St→List (Nat×Rt)→Option R'}
 (_:∀ss n s s' v,Ag u s s'→n/64=b→(∀ c∈ss,o7 u c)→ρ (k ss n s v) (k' ss n s' v)),ρ (qn own st id cs k) (qn own aI id cs k')
 | [],_,_,A,id,hi,_,_,hk=>hk _ _ _ _ _ A hi (by simp)
 | .v x::cs,_,_,A,id,hi,k,k',hk=>q9 h0 hb A hi (k:=fun ss n st u=>k (.v x::ss) n st u) (k':=fun ss n st u=>k' (.v x::ss) n st u) fun ss n s s' v A hn hs=>hk (.v x::ss) n s s' v A hn (by
   intro c hc;rcases List.mem_cons.1 hc with rfl | hc
   ·simp[o7,Sc.names]
   ·exact hs c hc)
 | .l t xs::cs,_,_,A,id,hi,_,_,hk=>jE (fun _=>h0) fun h64=>jE
   (fun _=>q8 h0 A (hb.r hi) fun r=>q9 h0 hb (A.bV _ _) ((GJ h64).trans hi) fun ss n s s' v A hn hs=>hk (.h id r.ver 0 []::ss) n s s' ((id,.live r)::v) A hn (by
    intro c hc;rcases List.mem_cons.1 hc with rfl | hc
    ·intro i lf;simp[Sc.names] at lf;subst lf;exact hb.r hi
    ·exact hs c hc))
   (fun _=>q9 h0 hb A ((GJ h64).trans hi) fun ss n s s' v A hn hs=>hk (.ro t xs::ss) n s s' v A hn (by
    intro c hc;rcases List.mem_cons.1 hc with rfl | hc
    ·simp[o7,Sc.names]
    ·exact hs c hc))
theorem Nb{u:kB}{cs:List Cv}:∀c∈Dz cs,o7 u c:=by
 intro c hc
 obtain⟨x,_,rfl⟩:=List.mem_map.1 hc
 cases x<;>simp[o7,Sc.names]
theorem GK(h0:ρ none none){b:Nat}(hb:zl u b){own:Bool}{t:Ty}{cs:List Cv}{st aI:St}(A:Ag u st aI){id:Nat}(hi:id/64=b){k:List Sc→Nat→St→List (Nat×Rt)→Option R}{k':List Sc→Nat→St→List (Nat×Rt)→Option R'}
 (hk:∀ss n s s' v,Ag u s s'→n/64=b→(∀ c∈ss,o7 u c)→ρ (k ss n s v) (k' ss n s' v)):ρ (qo own st id t cs k) (qo own aI id t cs k'):=
  jE (fun _=>hk _ _ _ _ _ A hi Nb) fun _=>q9 h0 hb A hi hk
theorem RM(h0:ρ none none){st aI:St}(A:Ag u st aI){t:Ty}{cs:List Sc}(hc:∀c∈cs,o7 u c){k:List Cv→Bool→St→List (Nat×Rt)→Option R}{k':List Cv→Bool→St→List (Nat×Rt)→Option R'}
 (hk:∀x d s s' v,Ag u s s'→ρ (k x d s v) (k' x d s' v)):ρ (MA st t cs k) (MA aI t cs k'):=
  jE (fun _=>dA h0 fun _ _=>hk _ _ _ _ _ A) fun _=>vz h0 A hc hk
theorem GL(h0:ρ none none)(A:Ag u st aI){c:Sc}(hc:Uv u c){n:Nat}{k:List Sc→Option R}{k':List Sc→Option R'}(hk:∀c,ρ (k c) (k' c)):ρ (loadAt st c n k) (loadAt aI c n k'):=by
 unfold loadAt
 split
 ·rw[A.b _ (kB.nr (hc.1 _ (by simp[Sc.names])))]
  exact bN h0 fun x _=>bB h0 fun _=>hk _
 ·exact iy h0 A (hc.2 _ (by simp[Sc.names])) fun r=>bB h0 fun _=>bN h0 fun s _=>bB h0 fun _=>hk _
 ·exact bB h0 fun _=>hk _
 ·exact h0
theorem xX(h0:ρ none none)(A:Ag u st aI):∀{bs:List Nat}(_:∀b∈bs,cB b u.b=true){k:List (Σ t:Ty,El t)→Option R}{k':List (Σ t:Ty,El t)→Option R'}(_:∀c,ρ (k c) (k' c)),ρ (kC st bs k) (kC aI bs k')
 | [],_,_,_,hk=>hk _
 |b::bs,hb,k,k',hk=>by
  simp only[kC]
  rw[A.b b (kB.nr (hb b (by simp)))]
  exact bN h0 fun x hx=>Ce h0 A (A.cb b (hb b (by simp)) x hx) fun cv=>dA h0 fun y _=>xX h0 A (fun b h=>hb b (by simp[h])) fun ys=>hk _
def RN(u:kB):Bk→Prop | .root id _ _=>u.k9 id=true | .box b=>cB b u.b=true
theorem tP(h0:ρ none none)(A:Ag u st aI){m:Am}{T:Nat}{s:Sv}(hs:zU u s){k:Dt→List Bk→St→Dl→Option R}{k':Dt→List Bk→St→Dl→Option R'}
 (hk:∀x b s s' d,Ag u s s'→(∀ y∈b,RN u y)→ρ (k x b s d) (k' x b s' d)):ρ (fC E m T s st k) (fC E m T s aI k'):=by
 have one:∀{c:Sc},zU u (.c (.one c))→Uv u c:=fun h=>h _ (by simp[Sv.cells,Cm.cells])
 unfold fC
 cases m
 ·exact dA h0 fun t _=>GH h0 A hs fun x=>hk _ _ _ _ _ A (by simp)
 ·simp only
  split
  ·exact iy h0 A ((one hs).2 _ (by simp[Sc.names])) fun r=>bB h0 fun _=>bN h0 fun s _=>hk _ _ _ _ _ (A.bV _ _) (by intro y hy;simp at hy;subst hy;exact (one hs).2 _ (by simp[Sc.names]))
  ·exact h0
 ·exact dA h0 fun t _=>Na h0 A hs fun x d s s' v A=>bB h0 fun _=>hk _ _ _ _ _ A (by simp)
 ·simp only
  split
  ·rename_i b
   have hb:=(one hs).1 b (by simp[Sc.names])
   rw[A.b _ (kB.nr hb)]
   exact bN h0 fun x hx=>Ce h0 A (A.cb b hb x hx) fun cv=>dA h0 fun y _=>hk _ _ _ _ _ A (by simp)
  ·exact hk _ _ _ _ _ A (by simp)
  ·exact h0
 ·simp only
  split
  ·rename_i b
   have hb:=(one hs).1 b (by simp[Sc.names])
   rw[A.b _ (kB.nr hb)]
   exact bN h0 fun x hx=>RM h0 A (A.cb b hb x hx) fun cv d s s' v A=>bB h0 fun _=>dA h0 fun y _=>hk _ _ _ _ _ (A.dR b _ (by simp[o7,Sc.names])) (by intro y hy;simp at hy;subst hy;exact hb)
  ·exact h0
 ·simp only
  split
  ·exact xX h0 A (fun b hb=>(one hs).1 b (by simpa [Sc.names] using hb)) fun ys=>hk _ _ _ _ _ A (by simp)
  ·exact hk _ _ _ _ _ A (by simp)
  ·exact h0
 ·simp only
  split
  ·exact hk _ _ _ _ _ A (by simp)
  ·exact h0
 ·exact dA h0 fun t _=>dA h0 fun cs _=>dA h0 fun cv _=>dA h0 fun x _=>hk _ _ _ _ _ A (by simp)
theorem mJ(h0:ρ none none):∀{l:List (Am×Nat×Sv)}{st aI:St}(_:Ag u st aI)(_:∀a∈l,zU u a.2.2){k:List Dt→List Bk→St→Dl→Option R}{k':List Dt→List Bk→St→Dl→Option R'}
 (_:∀x b s s' d,Ag u s s'→(∀ y∈b,RN u y)→ρ (k x b s d) (k' x b s' d)),ρ (dL E l st k) (dL E l aI k')
  | [],_,_,A,_,_,_,hk=>hk _ _ _ _ _ A (by simp)
  | (m,T,s)::l,_,_,A,hl,k,k',hk=>by
    simp only[dL]
    split
    · exact mJ h0 A (fun a h=>hl a (by simp[h])) fun xs bs s1 s1' d A hb=>tP h0 A (hl (m,T,s) (by simp)) fun x _ _ _ _ _ _=>hk _ _ _ _ _ A hb
    · exact tP h0 A (hl (m,T,s) (by simp)) fun x b s s' d A hb=>mJ h0 A (fun a h=>hl a (by simp[h])) fun xs bs s s' d A fl=>hk (x::xs) (b++bs) _ _ _ A (by
        intro y hy;rcases List.mem_append.1 hy with hy | hy
        · exact hb y hy
        · exact fl y hy)
theorem mK(h0:ρ none none):∀{bs:List Bk}{ds:List Dt}{st aI:St}(_:Ag u st aI)(_:∀y∈bs,RN u y){k:St→Dl→Option R}{k':St→Dl→Option R'}
 (_:∀s s' d,Ag u s s'→ρ (k s d) (k' s' d)),ρ (fH st bs ds k) (fH aI bs ds k')
 | [],[],_,_,A,_,_,_,hk=>hk _ _ _ A
 | [],_::_,_,_,_,_,_,_,_=>h0
 | .root id r p::bs,[],_,_,_,_,_,_,_=>h0
 | .box b::bs,[],_,_,_,_,_,_,_=>h0
 | .root id r p::bs,.fq _ _::ds,_,_,_,_,_,_,_=>h0
 | .box b::bs,.fq _ _::ds,_,_,_,_,_,_,_=>h0
 | .root id r p::bs,.d t x::ds,st,aI,A,hb,k,k',hk=>by
  cases t
  case sl t=>
   exact dA h0 fun zs _=>mK h0 (A.bV _ _) (fun y h=>hb y (by simp[h])) fun s s' d A=>hk _ _ _ A
  all_goals exact h0
 | .box b::bs,.d t x::ds,st,aI,A,hb,k,k',hk=>by
  have fl:cB b u.b=true:=hb (.box b) (by simp)
  have hD:zl u b:=by simp[zl,fl]
  exact GK h0 hD A (by omega) fun cs n s s' v A _ hc=>mK h0 (A.dR _ _ hc) (fun y h=>hb y (by simp[h])) fun s s' d A=>hk _ _ _ A
theorem ra(h0:ρ none none){d:Nat}(hd:zl u d){own:Bool}:∀{ps:List Bool}{ds:List Dt}{st aI:St}(_:Ag u st aI){id:Nat}(_:id/64=d){k:List Cm→St→Dl→Option R}{k':List Cm→St→Dl→Option R'}
 (_:∀c s s' d,Ag u s s'→ρ (k c s d) (k' c s' d)),ρ (eG own st d id ps ds k) (eG own aI d id ps ds k')
 | [],[],_,_,A,_,_,_,_,hk=>hk _ _ _ _ A
 | [],_::_,_,_,_,_,_,_,_,_=>h0
 |false::ps,[],_,_,_,_,_,_,_,_=>h0
 |true::ps,[],_,_,_,_,_,_,_,_=>h0
 |false::ps,.fq _ _::ds,_,_,_,_,_,_,_,_=>h0
 |true::ps,.fq _ _::ds,_,_,_,_,_,_,_,_=>h0
 |false::ps,.d t x::ds,_,_,A,id,hi,_,_,hk=>q9 h0 hd A hi fun cs n s s' v A hn _=>bN h0 fun c _=>ra h0 hd A hn fun r s s' u' A=>hk _ _ _ _ A
 |true::ps,.d t x::ds,st,aI,A,id,hi,k,k',hk=>by
  simp only[eG]
  rw[A.b d hd.b]
  split
  ·exact GK h0 hd A hi fun cs n s s' v A hn hc=>ra h0 hd (A.dR _ _ hc) hn fun r s s' u' A=>hk _ _ _ _ A
  ·exact h0
theorem rh(h0:ρ none none):∀{ids:List Nat}{st aI:St}(_:Ag u st aI)(_:∀i∈ids,u.k9 i=true){k:St→List (Nat×Rt)→Option R}{k':St→List (Nat×Rt)→Option R'}
 (_:∀s s' d,Ag u s s'→ρ (k s d) (k' s' d)),ρ (freeze st ids k) (freeze aI ids k')
 | [],_,_,A,_,_,_,hk=>hk _ _ _ A
 |id::ids,st,aI,A,hi,k,k',hk=>by
  simp only[freeze]
  rw[A.r id (hi id (by simp))]
  split
  ·exact jE (fun _=>h0) fun _=>rh h0 (A.bV _ _) (fun i h=>hi i (by simp[h])) fun s s' d A=>hk _ _ _ A
  ·exact rh h0 A (fun i h=>hi i (by simp[h])) hk
end Go.Gm
namespace Go.Gm
open Go
variable {R R' : Type} {ρ : Option R → Option R' → Prop} {u : kB} {st aI : St} {E : Env} {o : Oper}
theorem D3{l:List (Nat×Sv)}(hl:∀a∈l,zU u a.2):∀i∈((l.map fun a=>(a.2.cells.map fun c=>c.names.2).flatten).flatten),u.k9 i=true:=by
 intro i hi
 simp only[List.mem_flatten,List.mem_map] at hi
 obtain⟨_,⟨a,ha,rfl⟩,hi⟩:=hi
 simp only[List.mem_flatten,List.mem_map] at hi
 obtain⟨_,⟨c,hc,rfl⟩,hi⟩:=hi
 exact (hl a ha c hc).2 i hi
theorem GM(h0:ρ none none){s:Spec}(hs:s.jV)(ds:List Dt){k:Kt R}{k':Kt R'}(hk:∀x,ρ (k x) (k' x)):ρ (s.fn ds k) (s.fn ds k'):=by
 obtain⟨q,hq⟩:=hs ds
 rw[hq,hq]
 exact bN h0 fun x _=>hk x
theorem vA:∀{sh:List Nat}{args jC:List (Nat×Sv)},u4 sh args=some jC→(∀ a∈args,zU u a.2)→∀a∈jC,zU u a.2
  | [],args,jC,he,h=>by cases he;exact h
  |0::sh,[],_,he,_=>by cases he
  |0::sh,x::l,jC,he,h=>by
    simp only[u4] at he
    obtain⟨r,hr,he⟩:=Option.bind_eq_some_iff.1 he
    cases he
    intro a ha
    rcases List.mem_cons.1 ha with rfl | ha
    · exact h _ (by simp)
    · exact vA hr (fun a ha=>h a (by simp[ha])) a ha
  | (n+1)::sh,[],_,he,_=>by cases he
  | (n+1)::sh,(T,s)::l,jC,he,h=>by
    cases s with
    |tu _=>cases he
    |c x=>
    cases x with
    |one _=>cases he
    |agg cs=>
    simp only[u4] at he
    obtain⟨hlen,he⟩:=bg he
    obtain⟨r,hr,he⟩:=Option.bind_eq_some_iff.1 he
    cases he
    intro a ha
    rcases List.mem_append.1 ha with ha | ha
    · obtain⟨c,hc,rfl⟩:=List.mem_map.1 ha
      intro c' mZ
      have:c'=c:=by simpa [Sv.cells,Cm.cells] using mZ
      subst this
      exact h (T,.c (.agg cs)) (by simp) _ (by simpa [Sv.cells,Cm.cells] using hc)
    · exact vA hr (fun a ha=>h a (by simp[ha])) a ha
theorem xY(h0:ρ none none)(hN:E.jV)(A:Ag u st aI)(hd:zl u (o.dst.getD 0)){fn:Nat}{args:List (Nat×Sv)}(ha:∀a∈args,zU u a.2){k:Dl→Option R}{k':Dl→Option R'}
 (hk:∀d,ρ (k d) (k' d)):ρ (jc E o fn args st k) (jc E o fn args aI k'):=by
  unfold jc
  refine bN h0 fun sp FZ=>bN h0 fun jC hex=> ?_
  replace ha:=vA hex ha
  refine bB h0 fun _=>mJ h0 A (fun a h=> ?_) fun ds bs s s' d A hb=>GM h0 (hN _ _ FZ) ds fun outs=>mK h0 A hb fun s s' d1 A=> ?_
  · obtain⟨m,T,s⟩:=a
    exact ha (T,s) (List.of_mem_zip h).2
  · have fin:∀(own:Bool){s s':St}(u0:List (Nat×Rt)),Ag u s s'→ρ (eG own s (o.dst.getD 0) (64*o.dst.getD 0) sp.res (outs.take sp.res.length) fun rs _ u'=>
            k { slot:=o.dst.map fun q=>(q,match rs with | [r]=> .c r | rs=> .tu rs),boxes:=d.boxes++(d1.boxes++u'.boxes),roots:=d.roots++(d1.roots++(u0++u'.roots)) })
          (eG own s' (o.dst.getD 0) (64*o.dst.getD 0) sp.res (outs.take sp.res.length) fun rs _ u'=>
            k' { slot:=o.dst.map fun q=>(q,match rs with | [r]=> .c r | rs=> .tu rs),boxes:=d.boxes++(d1.boxes++u'.boxes),roots:=d.roots++(d1.roots++(u0++u'.roots)) }):=
      fun own _ _ _ A=>ra h0 hd A (by omega) fun _ _ _ _ _=>hk _
    cases sp.own with
    |true=>exact fin true [] A
    |false=>exact rh h0 A (D3 ha) fun s s' u0 A=>fin false u0 A
theorem vB(h0:ρ none none)(A:Ag u st aI){e:Ty}{c:Sc}(hc:o7 u c){k:List (El e)→Bool→St→List (Nat×Rt)→Option R}{k':List (El e)→Bool→St→List (Nat×Rt)→Option R'}
 (hk:∀x d s s' v,Ag u s s'→ρ (k x d s v) (k' x d s' v)):ρ (jv st e c k) (jv aI e c k'):=by
 unfold jv
 split
 ·exact zW h0 A hc fun x=>dA h0 fun xs _=>hk _ _ _ _ _ A
 ·exact M' h0 A hc fun x d s s' v A=>dA h0 fun xs _=>hk _ _ _ _ _ A
theorem zX(h0:ρ none none)(A:Ag u st aI)(hd:zl u (o.dst.getD 0)){T:Nat}{s x:Sc}(hs:o7 u s)(hx:o7 u x){k:Dl→Option R}{k':Dl→Option R'}
 (hk:∀d,ρ (k d) (k' d)):ρ (j6 E o T s x st k) (j6 E o T s x aI k'):=by
 unfold j6
 split
 ·split
  ·exact vB h0 A hx fun ys d s s' v A=>bB h0 fun _=>oB h0 A (hd.r (by omega)) fun r=>hk _
  ·exact vB h0 A hx fun ys d s s' v A=>jm h0 A (hs _ (by simp[Sc.names])) fun r=>jE (fun _=>h0) fun _=>dA h0 fun xs _=>bB h0 fun _=>hk _
  ·exact vB h0 A hx fun ys d s s' v A=>iy h0 A (hs _ (by simp[Sc.names])) fun r=>bB h0 fun _=>bN h0 fun s _=>dA h0 fun xs _=>bB h0 fun _=>q8 h0 A (hd.r (by omega)) fun r2=>hk _
  ·exact h0
 ·exact h0
theorem xZ(h0:ρ none none)(A:Ag u st aI)(hd:zl u (o.dst.getD 0)){b:Builtin}{c:Call}(hx:∀x∈c.args.toList,zk u x){k:Dl→Option R}{k':Dl→Option R'}
 (hk:∀d,ρ (k d) (k' d)):ρ (eP E o b c st k) (eP E o b c aI k'):=by
 unfold eP
 split
 ·split
  ·rename_i he _
   exact hZ h0 A (hx _ (by simp[he])) fun c hc=>by
    split
    ·exact bB h0 fun _=>hk _
    ·exact bN h0 fun _ _=>hk _
    ·exact bN h0 fun _ _=>hk _
    ·exact bN h0 fun _ _=>iy h0 A (hc.2 _ (by simp[Sc.names])) fun r=>bB h0 fun _=>bN h0 fun s _=>hk _
    ·exact bN h0 fun _ _=>jm h0 A (hc.2 _ (by simp[Sc.names])) fun r=>hk _
    ·exact h0
  ·exact h0
 ·split
  ·rename_i he _
   exact bN h0 fun _ _=>hZ h0 A (hx _ (by simp[he])) fun s hs=>hZ h0 A (hx _ (by simp[he])) fun x hx=>zX h0 A hd hs.2 hx.2 hk
  ·exact h0
 ·split
  ·rename_i he
   exact jl h0 A (hx _ (by simp[he])) fun x=>jl h0 A (hx _ (by simp[he])) fun y=>bN h0 fun z _=>hk _
  ·exact h0
 ·split
  ·rename_i he
   exact jl h0 A (hx _ (by simp[he])) fun x=>jl h0 A (hx _ (by simp[he])) fun y=>bN h0 fun z _=>hk _
  ·exact h0
 ·split
  ·rename_i he _
   exact bB h0 fun _=>bN h0 fun _ _=>hZ h0 A (hx _ (by simp[he])) fun c hc=>by
    split
    ·exact jm h0 A (hc.2 _ (by simp[Sc.names])) fun r=>bB h0 fun _=>bN h0 fun _ _=>hk _
    ·exact h0
  ·exact h0
 ·exact h0
theorem tQ(h0:ρ none none)(A:Ag u st aI){T:Nat}:∀{ps:List (Nat×Operand)}{row:List Sc}(_:∀p∈ps,zk u p.2){k:List Sc→Option R}{k':List Sc→Option R'}(_:∀c,ρ (k c) (k' c)),ρ (iu E T st ps row k) (iu E T aI ps row k')
  | [],_,_,_,_,hk=>hk _
  | (i,x)::ps,row,hp,k,k',hk=>by
    have hx:zk u x:=hp (i,x) (by simp)
    simp only[iu]
    exact dA h0 fun (off,ft) _=>bN h0 fun t _=>gM h0 A hx fun s _=>bN h0 fun cs _=>bB h0 fun _=>tQ h0 A (fun p h=>hp p (by simp[h])) hk
theorem tS(h0:ρ none none){e:Ty}:∀{ps:List (Nat×Operand)}{xs:List (El e)}{st aI:St}(_:Ag u st aI)(_:∀p∈ps,zk u p.2){k:List (El e)→Bool→St→List (Nat×Rt)→Option R}{k':List (El e)→Bool→St→List (Nat×Rt)→Option R'}
 (_:∀x d s s' v,Ag u s s'→ρ (k x d s v) (k' x d s' v)),ρ (iw e st ps xs k) (iw e aI ps xs k')
  | [],_,_,_,A,_,_,_,hk=>hk _ _ _ _ _ A
  | (i,x)::ps,xs,_,_,A,hp,k,k',hk=>by
    have hx:zk u x:=hp (i,x) (by simp)
    simp only[iw]
    exact gM h0 A hx fun s hs=>GI h0 A hs fun y d s s' v A=>bB h0 fun _=>tS h0 A (fun p h=>hp p (by simp[h])) fun _ _ _ _ _ A=>hk _ _ _ _ _ A
theorem pS(h0:ρ none none)(A:Ag u st aI):∀{xs:List Operand}(_:∀x∈xs,zk u x){k:List Sv→Option R}{k':List Sv→Option R'}(_:∀ss,(∀ s∈ss,zU u s)→ρ (k ss) (k' ss)),ρ (j7 st xs k) (j7 aI xs k')
 | [],_,_,_,hk=>hk _ (by simp)
 |x::xs,hx,k,k',hk=>by
  simp only[j7]
  exact gM h0 A (hx x (by simp)) fun s hs=>pS h0 A (fun x h=>hx x (by simp[h])) fun ss qC=>hk (s::ss) (by
   intro y hy;rcases List.mem_cons.1 hy with rfl | hy
   ·exact hs
   ·exact qC y hy)
theorem ki(h0:ρ none none)(A:Ag u st aI){x:Option Operand}{d:Int}(hx:∀y,x=some y→zk u y){k:Int→Option R}{k':Int→Option R'}(hk:∀c,ρ (k c) (k' c)):ρ (fv st x d k) (fv aI x d k'):=by
 cases x with
 |none=>exact hk _
 |some x=>exact lx h0 A (hx x rfl) hk
theorem D4(h0:ρ none none){op:BinOp}{tb:Bool}{x y:Value}{k:Value→Option R}{k':Value→Option R'}(hk:∀c,ρ (k c) (k' c)):ρ (tz op tb x y k) (tz op tb x y k'):=by
 unfold tz
 split
 ·split
  ·exact jE (fun _=>h0) fun _=>hk _
  ·exact jE (fun _=>h0) fun _=>hk _
  ·refine bB h0 fun _=> ?_
   split<;>first | exact hk _ | exact h0 | exact jE (fun _=>h0) fun _=>hk _
 ·split<;>first | exact hk _ | exact h0 | exact bB h0 fun _=>hk _
 ·split<;>first | exact h0 | exact bB h0 fun _=>hk _
 ·exact h0
theorem P2(h0:ρ none none)(hN:E.jV)(A:Ag u st aI)(hd:zl u (o.dst.getD 0))(hx:∀x∈o.op.operands.toList,zk u x){k:Dl→Option R}{k':Dl→Option R'}
 (hk:∀d,ρ (k d) (k' d)):ρ (eQ E o st k) (eQ E o aI k'):=by
 have hB:=A.b _ hd.b
 unfold eQ
 split<;>rename_i bZ<;>simp only[bZ,Op.operands] at hx
 ·exact gM h0 A (hx _ (by simp)) fun s _=>hk _
 ·exact gM h0 A (hx _ (by simp)) fun s _=>hk _
 ·exact D2 h0 A (hx _ (by simp)) fun t=>jE (fun _=>gM h0 A (hx _ (by simp)) fun s _=>hk _) fun _=>gM h0 A (hx _ (by simp)) fun s _=>hk _
 ·refine bN h0 fun t _=>dA h0 fun d MM=> ?_
  rw[MM] at hB;simp only[Option.getD_some] at hB;rw[hB]
  split
  ·exact hk _
  ·exact h0
 ·refine bN h0 fun t _=>dA h0 fun d MM=> ?_
  rw[MM] at hB;simp only[Option.getD_some] at hB;rw[hB]
  split
  ·exact gM h0 A (hx _ (by simp)) fun s _=>bN h0 fun cs _=>bB h0 fun _=>hk _
  ·exact h0
 ·exact bN h0 fun t _=>bB h0 fun _=>tQ h0 A (fun p hp=>hx _ (by simp only[Array.toList_map,List.mem_map];exact⟨p,hp,rfl⟩)) fun row=>hk _
 ·split
  ·exact bB h0 fun _=>tS h0 A (fun p hp=>hx _ (by simp only[Array.toList_map,List.mem_map];exact⟨p,hp,rfl⟩)) fun xs d s s' v A=>oB h0 A (hd.r (by omega)) fun r=>hk _
  ·exact h0
 ·exact bN h0 fun t _=>hZ h0 A (hx _ (by simp)) fun c hc=>GL h0 A hc fun cs=>bN h0 fun c _=>hk _
 ·refine bB h0 fun _=>bN h0 fun t _=>hZ h0 A (hx _ (by simp)) fun c hc=>gM h0 A (hx _ (by simp)) fun s hs=>bN h0 fun cs fc=>bB h0 fun _=> ?_
  split
  ·rw[A.b _ (kB.nr (hc.1 _ (by simp[Sc.names])))]
   exact bN h0 fun y _=>bB h0 fun _=>hk _
  ·have hi:=hc.2 _ (List.mem_singleton.2 rfl:_∈(Sc.pe _ _ _ _ _ _).names.2)
   refine iy h0 A hi fun r=> ?_
   split
   ·refine bB h0 fun _=> ?_
    split
    ·exact bN h0 fun s0 _=>pR h0 A (hs _ (iE fc _ (by simp))).2 fun cv d s s' v A=>bB h0 fun _=>jm h0 A hi fun r=>dA h0 fun ys _=>dA h0 fun zs _=>hk _
    ·exact h0
   ·exact bN h0 fun s _=>bB h0 fun _=>vz h0 A (fun c h=>(hs c (iE fc c h)).2) fun cv d s s' v A=>jm h0 A hi fun r=>bB h0 fun _=>dA h0 fun y _=>dA h0 fun zs _=>hk _
  ·exact h0
 ·exact hZ h0 A (hx _ (by simp)) fun c hc=>by
   split
   ·exact hk _
   ·exact iy h0 A (hc.2 _ (by simp[Sc.names])) fun _=>hk _
   ·exact hk _
   ·exact hk _
   ·exact hk _
   ·exact h0
 ·exact gM h0 A (hx _ (by simp)) fun x _=>gM h0 A (hx _ (by simp)) fun y _=>by
   split
   ·exact D4 h0 fun z=>hk _
   ·refine bN h0 fun _ _=> ?_
    split
    ·exact dA h0 fun e _=>hk _
    ·exact dA h0 fun e _=>hk _
    ·exact h0
   ·refine dA h0 fun _ _=>jE (fun _=>h0) fun _=> ?_
    split
    ·exact hk _
    ·exact hk _
    ·exact h0
   ·exact h0
 ·exact jl h0 A (hx _ (by simp)) fun x=>by
   split
   ·exact hk _
   ·exact hk _
   ·exact h0
 ·split
  ·exact jl h0 A (hx _ (by simp)) fun x=>by split<;>first | exact hk _ | exact h0
  ·exact jl h0 A (hx _ (by simp)) fun x=>by split<;>first | exact hk _ | exact h0
  ·exact jl h0 A (hx _ (by simp)) fun x=>by split<;>first | exact hk _ | exact h0
  ·exact hZ h0 A (hx _ (by simp)) fun c hc=>zW h0 A hc.2 fun cv=>dA h0 fun xs _=>hk _
  ·exact h0
 ·split
  ·exact pS h0 A (fun x h=>hx x (by simp[h])) fun ss _=>dA h0 fun bs _=>hk _
  ·exact h0
 ·split
  ·exact lx h0 A (hx _ (by simp)) fun n=>lx h0 A (hx _ (by simp)) fun m=>bB h0 fun _=>oB h0 A (hd.r (by omega)) fun r=>hk _
  ·exact h0
 ·rename_i T x lo hi
  have qB:∀y,lo=some y→zk u y:=fun y hy=>hx _ (by simp[hy])
  have Ml:∀y,hi=some y→zk u y:=fun y hy=>hx _ (by simp[hy])
  exact hZ h0 A (hx _ (by simp)) fun c hc=>by
   split
   ·exact bB h0 fun _=>ki h0 A qB fun l=>ki h0 A Ml fun h=>bB h0 fun _=>hk _
   ·exact bN h0 fun _ _=>bB h0 fun _=>ki h0 A qB fun l=>ki h0 A Ml fun h=>bB h0 fun _=>hk _
   ·exact bN h0 fun _ _=>jm h0 A (hc.2 _ (by simp[Sc.names])) fun r=>bB h0 fun _=>ki h0 A qB fun l=>ki h0 A Ml fun h=>bB h0 fun _=>hk _
   ·exact h0
 ·exact dA h0 fun (off,_) _=>hZ h0 A (hx _ (by simp)) fun c hc=>by
   split
   ·exact hk _
   ·exact iy h0 A (hc.2 _ (by simp[Sc.names])) fun _=>hk _
   ·exact hk _
   ·exact h0
 ·exact dA h0 fun (off,_) _=>bN h0 fun t _=>gM h0 A (hx _ (by simp)) fun s _=>by
   split
   ·exact bB h0 fun _=>bN h0 fun c _=>hk _
   ·exact h0
 ·exact hZ h0 A (hx _ (by simp)) fun c hc=>lx h0 A (hx _ (by simp)) fun i=>bN h0 fun e _=>by
   split
   ·exact bB h0 fun _=>bB h0 fun _=>hk _
   ·exact iy h0 A (hc.2 _ (by simp[Sc.names])) fun r=>bB h0 fun _=>bN h0 fun s _=>bB h0 fun _=>bB h0 fun _=>hk _
   ·exact jm h0 A (hc.2 _ (by simp[Sc.names])) fun r=>bB h0 fun _=>bB h0 fun _=>hk _
   ·exact h0
 ·exact jl h0 A (hx _ (by simp)) fun x=>lx h0 A (hx _ (by simp)) fun i=>by
   split
   ·exact bB h0 fun _=>hk _
   ·exact h0
 ·exact gM h0 A (hx _ (by simp)) fun s _=>by
   split
   ·exact bN h0 fun c _=>hk _
   ·exact h0
 ·rename_i c
  split
  ·rename_i hc
   exact xZ h0 A hd (fun x h=>hx x (by simp[Call.operands,hc,h])) hk
  ·rename_i f hc
   exact hZ h0 A (hx f (by simp[Call.operands,hc])) fun cf Yl=>by
    split
    ·rename_i fn bs
     refine pS h0 A (fun x h=>hx x (by simp[Call.operands,hc,h])) fun ss qC=>bB h0 fun _=>xY h0 hN A hd (fun a ha=> ?_) hk
     rcases List.mem_append.1 ha with ha | ha
     ·obtain⟨T,s⟩:=a;exact qC s (List.of_mem_zip ha).2
     ·simp only[List.mem_map] at ha
      obtain⟨b,hb,rfl⟩:=ha
      intro c mZ
      simp[Sv.cells,Cm.cells] at mZ
      subst mZ
      exact⟨by intro b' fl;simp[Sc.names] at fl;subst fl;exact Yl.1 _ (by simpa [Sc.names] using hb),by simp[o7,Sc.names]⟩
    ·rename_i fn ys
     refine pS h0 A (fun x h=>hx x (by simp[Call.operands,hc,h])) fun ss qC=>bB h0 fun _=>xY h0 hN A hd (fun a ha=> ?_) hk
     rcases List.mem_append.1 ha with ha | ha
     ·obtain⟨T,s⟩:=a;exact qC s (List.of_mem_zip ha).2
     ·simp only[List.mem_map] at ha
      obtain⟨b,hb,rfl⟩:=ha
      intro c mZ
      simp[Sv.cells,Cm.cells] at mZ
      subst mZ
      exact⟨by simp[Sc.names],by simp[o7,Sc.names]⟩
    ·exact h0
  ·exact h0
 ·exact h0
end Go.Gm
namespace Go.Gm
open Go
variable {R : Type} {P : Program} {E : Env} {w0 w : World} {Mf : Nat → Prop} {g : Gh} {st br mH : St} {a : Act} {Q : Exit → Act → World → Prop}
  {o:Oper} {ops:Array Oper} {K:Act→World→Prop}
structure nu (st aI:St):Prop where
 s:ak st.az=ak aI.az
 b:ak st.boxes=ak aI.boxes
 r:ak st.roots=ak aI.roots
theorem nu.refl(st:St):nu st st:=⟨rfl,rfl,rfl⟩
theorem nu.symm(h:nu st br):nu br st:=⟨h.s.symm,h.b.symm,h.r.symm⟩
theorem nu.inv(h:nu st br)(I:Inv w0 Mf g st a w):Inv w0 Mf g br a w:=I.congr h.s h.b h.r
theorem cd{n:Nat}:∀{l:List Nat},cB n l=true↔n∈l
 | []=>by simp[cB]
 |m::l=>by
  have ih:=cd (n:=n) (l:=l)
  cases h:Nat.beq n m with
  |true=>
   have:=Nat.eq_of_beq_eq_true h
   subst this
   simp[cB,h]
  |false=>
   have:n≠m:=fun e=>by subst e;simp at h
   simp[cB,h,ih,this]
theorem kB.sIn{st:St}{n:Nat}(hn:(bC ops st o).vu n=true){v:Sv}(hv:ak st.az n=some v):zU (bC ops st o) v:=by
 have hs:=cd.1 hn
 have hns:∀c∈v.cells,c.names∈((bC ops st o).s.map fun t=>match ak st.az t with | some v=>v.cells.map Sc.names | none=>[]).flatten:=by
  intro c hc
  simp only[List.mem_flatten,List.mem_map]
  refine⟨v.cells.map Sc.names,⟨n,hs,by simp[hv]⟩,List.mem_map.2 ⟨c,hc,rfl⟩⟩
 intro c hc
 have:=hns c hc
 refine⟨fun b hb=>cd.2 ?_,fun id cQ=> ?_⟩
 ·exact List.mem_flatten.2 ⟨c.names.1,List.mem_map.2 ⟨c.names,this,rfl⟩,hb⟩
 ·unfold kB.k9
  have:cB id (bC ops st o).r=true:=cd.2 (List.mem_append.2 (.inl (List.mem_flatten.2 ⟨c.names.2,List.mem_map.2 ⟨c.names,this,rfl⟩,cQ⟩)))
  rw[this];rfl
theorem kB.bIn{st:St}{n:Nat}(hn:cB n (bC ops st o).b=true){x:Bx}(hx:ak st.boxes n=some x):∀c∈x.cs,o7 (bC ops st o) c:=by
 intro c hc id cQ
 unfold kB.k9
 have hn:=cd.1 hn
 have:cB id (bC ops st o).r=true:=cd.2 (List.mem_append.2 (.inr (List.mem_flatten.2 ⟨na st n,List.mem_map.2 ⟨n,hn,rfl⟩,by
  simp only[na,hx,List.mem_flatten,List.mem_map]
  exact⟨_,⟨c,hc,rfl⟩,cQ⟩⟩)))
 rw[this];rfl
theorem Ag.Vt{st aI:St}(hs:∀n,(bC ops st o).vu n=true→ak aI.az n=ak st.az n)(hb:∀n,(bC ops st o).hasB n=true→ak aI.boxes n=ak st.boxes n)
 (hr:∀n,(bC ops st o).k9 n=true→ak aI.roots n=ak st.roots n):Ag (bC ops st o) st aI:=
 ⟨hs,hb,hr,fun _ hn _ hv=>kB.sIn hn hv,fun _ hn _ hx=>kB.bIn hn hx⟩
theorem Ag.self(ops:Array Oper)(st:St)(o:Oper):Ag (bC ops st o) st st:=Ag.Vt (fun _ _=>rfl) (fun _ _=>rfl) fun _ _=>rfl
theorem GN{st:St}:∀x∈o.op.operands.toList,zk (bC ops st o) x:=by
 intro x hx t ht
 subst ht
 refine cd.2 ?_
 simp only[bC,List.mem_append,tmpsOf,List.mem_filterMap]
 exact .inl ⟨_,hx,rfl⟩
theorem RP{st:St}{n:Nat}(h:fr ops o=some n):(eJ ops st o).vu n=true:=by
 refine cd.2 ?_
 unfold eJ
 cases GF o
 ·simp only[cond_false]
  split<;>simp[bC,h]
 ·simp[h]
theorem GO{st:St}:zl (bC ops st o) (o.dst.getD 0):=by
 simp[zl,bC,pQ]
theorem Cg(hN:E.jV)(o:Oper)(st:St)(k:Dl→Option R):eQ E o st k=(eQ E o st some).bind k:=
  P2 (ρ:=fun x y=>x=y.bind k) (u:=bC #[] st o) rfl hN (Ag.self #[] st o) GO GN fun _=>rfl
def gN:Option Rt→Option Rt
 |some (.live r)=>some (.live ⟨r.t,.deep,r.ver,r.log,r.xs⟩)
 |y=>y
theorem D5{id ver:Nat}(hb:gN (ak br.roots id)=gN (ak st.roots id)){k:cy→Option R}(hk:∀(r:cy) md,k ⟨r.t,md,r.ver,r.log,r.xs⟩=k r):iH st id ver k=iH br id ver k:=by
 unfold iH
 cases h0:ak st.roots id with
 |none=>cases h1:ak br.roots id with
  |none=>rfl
  |some y=>rw[h0,h1] at hb;cases y<;>simp[gN] at hb
 |some x=>
  cases h1:ak br.roots id with
  |none=>rw[h0,h1] at hb;cases x<;>simp[gN] at hb
  |some y=>
   rw[h0,h1] at hb
   cases x<;>cases y<;>simp only[gN,Option.some.injEq,Rt.live.injEq,reduceCtorEq] at hb<;>try rfl
   rename_i r r'
   obtain⟨t,md,ver,log,xs⟩:=r
   obtain⟨t',md',Gc,Zd,qp⟩:=r'
   simp only[cy.mk.injEq] at hb
   obtain⟨rfl,_,rfl,rfl,hx⟩:=hb
   cases hx
   have:=hk ⟨t',md,Gc,Zd,qp⟩ md'
   simp only at this ⊢
   rw[this]
structure Uw (u:kB) (st aI:St):Prop where
 m:∀n,u.M9 n=true→gN (ak aI.roots n)=gN (ak st.roots n)
 s:∀n,u.vu n=true→ak aI.az n=ak st.az n
 b:∀n,u.hasB n=true→ak aI.boxes n=ak st.boxes n
 r:∀n,u.k9 n=true→ak aI.roots n=ak st.roots n
theorem nw{x:Operand}(h:∀t,x = .tmp t→ak br.az t=ak st.az t)(k:Sv→Option R):dq st x k=dq br x k:=by
 cases x with
 |tmp t=>simp only[dq,h t rfl]
 |_=>rfl
theorem fg{x:Operand}{c:Sc}(h:jD st x=some c):∃t,x = .tmp t∧ak st.az t=some (.c (.one c)):=by
 unfold jD at h
 split at h
 ·split at h
  ·rename_i e;cases h;exact⟨_,rfl,e⟩
  ·cases h
 ·cases h
theorem ri{x:Option Operand}(h:∀t,x=some (.tmp t)→ak br.az t=ak st.az t)(d:Int)(k:Int→Option R):fv st x d k=fv br x d k:=by
 cases x with
 |none=>rfl
 |some y=>exact nw (fun t ht=>h t (by rw[ht])) _
theorem GP{m:List Nat}(hs:qW st o=some m)(A:Uw { s:=(bC ops st o).s,b:=(bC ops st o).b,r:=[],d:=some (o.dst.getD 0),m } st br)(k:Dl→Option R):eQ E o st k=eQ E o br k:=by
 have tK:∀x∈o.op.operands.toList,∀t,x = .tmp t→ak br.az t=ak st.az t:=by
  intro x hx t ht
  refine A.s t (cd.2 ?_)
  simp only[bC,List.mem_append,tmpsOf,List.mem_filterMap]
  exact .inl ⟨x,hx,by rw[ht]⟩
 unfold qW at hs
 split at hs<;>rename_i bZ
 ·rw[bZ] at tK
  split at hs
  ·rename_i e
   obtain⟨t,rfl,e0⟩:=fg e
   have e1:=tK (.tmp t) (by simp[Op.operands]) t rfl
   rw[e0] at e1
   simp only[eQ,bZ,fu,dq,e0,e1,Option.bind_some,Sc.soft]
  ·cases hs
 ·rw[bZ] at tK
  split at hs
  ·rename_i b off e
   obtain⟨t,rfl,e0⟩:=fg e
   have e1:=tK (.tmp t) (by simp[Op.operands]) t rfl
   rw[e0] at e1
   have hb:ak br.boxes b=ak st.boxes b:=by
    refine A.b b ?_
    unfold kB.hasB
    have:cB b (bC ops st o).b=true:=by
     refine cd.2 ?_
     simp only[bC,bZ,List.mem_flatten,List.mem_map]
     refine⟨[b],⟨([b],[]),⟨[([b],[])],⟨t,by simp[Op.operands,tmpsOf],by simp[e0,Sv.cells,Cm.cells,Sc.names]⟩,by simp⟩,rfl⟩,by simp⟩
    rw[this];rfl
   simp only[eQ,bZ,fu,dq,e0,e1,Option.bind_some,Sc.soft,loadAt,hb]
  ·cases hs
 ·rw[bZ] at tK
  split at hs
  ·rename_i id ver iv e
   obtain⟨t,rfl,e0⟩:=fg e
   have e1:=tK (.tmp t) (by simp[Op.operands]) t rfl
   rw[e0] at e1
   cases hs
   have hb:=A.m id (by simp[kB.M9,cB])
   simp only[eQ,bZ,fu,dq,e0,e1,Option.bind_some,Sc.soft]
   congr 1
   funext ee
   refine (D5 hb (fun r md=>rfl)).trans ?_
   congr 1
   funext r
   congr 1
   refine (ri (fun t ht=>tK (.tmp t) (by subst ht;simp[Op.operands]) t rfl) _ _).trans ?_
   congr 1
   funext l
   exact ri (fun t ht=>tK (.tmp t) (by subst ht;simp[Op.operands]) t rfl) _ _
  ·cases hs
 ·rw[bZ] at tK
  split at hs
  ·rename_i e
   obtain⟨t,rfl,e0⟩:=fg e
   have e1:=tK (.tmp t) (by simp[Op.operands]) t rfl
   rw[e0] at e1
   simp only[eQ,bZ,fu,dq,e0,e1,Option.bind_some,Sc.soft]
  ·cases hs
 ·rw[bZ] at tK
  split at hs
  ·rename_i y _ b off e
   obtain⟨t,rfl,e0⟩:=fg e
   have e1:=tK (.tmp t) (by simp[Op.operands]) t rfl
   rw[e0] at e1
   have hb:ak br.boxes b=ak st.boxes b:=by
    refine A.b b ?_
    unfold kB.hasB
    have:cB b (bC ops st o).b=true:=by
     refine cd.2 ?_
     simp only[bC,bZ,List.mem_flatten,List.mem_map]
     refine⟨[b],⟨([b],[]),⟨[([b],[])],⟨t,by simp[Op.operands,tmpsOf],by simp[e0,Sv.cells,Cm.cells,Sc.names]⟩,by simp⟩,rfl⟩,by simp⟩
    rw[this];rfl
   simp only[eQ,bZ,fu]
   congr 1
   congr 1
   funext t'
   simp only[dq,e0,e1,Option.bind_some,Sc.soft,hb]
   exact nw (fun t ht=>tK y (by simp[Op.operands]) t ht) _
  ·cases hs
 ·cases hs
theorem tT(hN:E.jV)(A:Uw (eJ ops st o) st br)(k:Dl→Option R):eQ E o st k=eQ E o br k:=by
 cases hm:GF o with
 |false=>
  cases hs:qW st o with
  |some m=>
   have e:eJ ops st o={ s:=(bC ops st o).s,b:=(bC ops st o).b,r:=[],d:=some (o.dst.getD 0),m }:=by unfold eJ;rw[hm,hs];rfl
   rw[e] at A
   exact GP hs A k
  |none=>
  have e:eJ ops st o=bC ops st o:=by unfold eJ;rw[hm,hs];rfl
  rw[e] at A
  exact P2 (ρ:=fun x y=>x=y) rfl hN (Ag.Vt A.s A.b A.r) GO GN fun _=>rfl
 |true=>
  have hs:∀x∈o.op.operands.toList,∀t,x = .tmp t→ak br.az t=ak st.az t:=by
   intro x hx t ht
   refine A.s t ?_
   unfold eJ
   rw[hm]
   refine cd.2 ?_
   simp only[cond_true,List.mem_append,tmpsOf,List.mem_filterMap]
   exact .inl ⟨x,hx,by rw[ht]⟩
  unfold GF at hm
  cases bZ:o.op with
  |move x=>
   rw[bZ] at hs
   simp only[eQ,bZ]
   exact nw (fun t ht=>hs x (by simp[Op.operands]) t ht) _
  |assign x=>
   rw[bZ] at hs
   simp only[eQ,bZ]
   exact nw (fun t ht=>hs x (by simp[Op.operands]) t ht) _
  |_=>rw[bZ] at hm;cases hm
def zm(E:Env)(ops:Array Oper)(o:Oper)(st:St)(d:Dl):Prop:=
  match o.guard with
 |none=>eQ E o st some=some d
 |some (_,want)=>∃n,fr ops o=some n∧((∃ b,ak st.az n=some (.c (.one (.v (.bool b))))∧if b=want then eQ E o st some=some d else d=jU o)∨(ak st.az n=some (.tu [])∧d=jU o))
theorem nu.dR{n:Nat}{b:Bool}(h:ak st.az n=some (.c (.one (.v (.bool b))))):nu st (st.dR n b):=by
 refine⟨?_,rfl,rfl⟩
 funext m
 simp only[St.dR,aJ]
 split
 ·rename_i e;rw[e,h]
 ·rfl
theorem Ch(hN:E.jV){k:St→Dl→Option R}{r:R}(h:Ym E ops o st k=some r):∃br d,nu st br∧k br d=some r∧zm E ops o br d:=by
  unfold Ym at h
  unfold zm
  cases hg:o.guard with
  |none=>
    simp only[hg] at h ⊢
    rw[Cg hN] at h
    obtain⟨d,hd,hk⟩:=Option.bind_eq_some_iff.1 h
    exact⟨st,d,.refl st,hk,hd⟩
  |some jw=>
    obtain⟨j,want⟩:=jw
    simp only[hg] at h ⊢
    obtain⟨n,hn,h⟩:=Option.bind_eq_some_iff.1 h
    split at h
    · rename_i b hb
      have hS:=nu.dR hb
      have fl:ak (st.dR n b).az n=some (.c (.one (.v (.bool b)))):=by rw[← hS.s];exact hb
      have:∃d,nu st (st.dR n b)∧k (st.dR n b) d=some r∧∃b',ak (st.dR n b).az n=some (.c (.one (.v (.bool b'))))∧if b'=want then eQ E o (st.dR n b) some=some d else d=jU o:=by
        cases b<;>cases want<;>simp only[cond_true,cond_false] at h
        all_goals
          first
            | (rw[Cg hN] at h
               obtain⟨d,hd,hk⟩:=Option.bind_eq_some_iff.1 h
               exact⟨d,hS,hk,_,fl,by simpa using hd⟩)
            | exact⟨_,hS,h,_,fl,by simp⟩
      obtain⟨d,h1,h2,h3⟩:=this
      exact⟨st.dR n b,d,h1,h2,n,hn,.inl h3⟩
    · rename_i hb
      exact⟨st,_,.refl st,h,n,hn,.inr ⟨hb,rfl⟩⟩
    · cases h
theorem zm.move(hN:E.jV){d:Dl}(h:zm E ops o st d)(A:Uw (eJ ops st o) st br):zm E ops o br d:=by
 unfold zm at *
 split at h
 ·rw[← tT hN A];exact h
 ·obtain⟨n,h1,h⟩:=h
  refine⟨n,h1,?_⟩
  rw[A.s n (RP h1),←tT hN A];exact h
theorem Oper.RQ{K:Act→World→Prop}(h:o.wp P a w K Q):o.wp P a w (fun a' w'=>K a' w'∧∃v,a'.tmps=(a.put o.dst v).tmps) Q:=by
  unfold Oper.wp at *
  generalize (execOp a.eval o).run P w=r at *
  have Ze:∀(d:Deferred)(v:Value),(({ a with defers:=d::a.defers }:Act).put o.dst v).tmps=(a.put o.dst v).tmps:=fun d v=>by cases o.dst<;>rfl
  cases r with
  |ok n w'=>
    cases n<;>simp only[Oper.upon] at h ⊢ <;>
      first
        | exact⟨h,_,rfl⟩
        | exact⟨h,_,Ze _ _⟩
        |exact Calls.mono h (fun e w'' he=>by cases e<;>first | exact⟨he,_,rfl⟩ | exact he)
        |exact Rows.mono h (fun _ _ he=>⟨he,_,rfl⟩)
  |halt x w'=>cases x<;>simp only[Oper.upon] at h ⊢ <;>exact h
def ny(J:Array Value→Prop)(o:Oper):Prop:=∀(a:Act) v,J a.tmps→J (a.put o.dst v).tmps
theorem oC(hE:E.Ok P)(hW:sP P g.n.wl){J:Array Value→Prop}(Ci:ny J o)(hJ:J a.tmps)(I:Inv w0 Mf g st a w)(hd:∀d,o.dst=some d→d<g.n.sz){i:Nat}(hi:ops[i]? =some o){d:Dl}(h:zm E ops o st d)
 (hK:∀g' a' w',g'.n=g.n→Inv w0 Mf g' (st.apply d) a' w'→J a'.tmps→K a' w'):wpOp P ops Q i K a w:=by
 unfold wpOp
 simp only[hi]
 have hT:Then w0 Mf g st some d (fun a' w'=>J a'.tmps→K a' w'):=fun δ g' a' w' h1 h2 h3=>by cases h1;exact hK g' a' w' h2 h3
 have fin:o.wp P a w (fun a' w'=>J a'.tmps→K a' w') Q→o.wp P a w K Q:=fun h=>Oper.wp_mono (fun a' w' ⟨h1,v,h2⟩=>h1 (by rw[h2];exact Ci a v hJ)) (Oper.RQ h)
 have Ca:d=jU o→K (a.put o.dst undef) w:=fun e=>by
  subst e
  exact hK g _ _ rfl (I.zz (s:= .tu []) (v:=undef) hd ⟨#[],rfl,rfl,fun _ _ h=>by simp at h⟩) (Ci a _ hJ)
 unfold zm at h
 cases hg:o.guard with
 |none=>
  simp only[hg] at h
  simp only[Region.wanted,hg,if_true]
  exact .inl (fin (kg hE hW I hd hT h))
 |some jw=>
  obtain⟨j,want⟩:=jw
  simp only[hg] at h
  obtain⟨n,h1,h⟩:=h
  rcases h with ⟨b,h2,h3⟩ | ⟨h2,h3⟩
  ·have hy:yielded ops a.tmps j=some b:=by
    obtain⟨v,hv,hr⟩:=I.az n _ h2
    have FK:v = .bool b:=hr.2
    subst FK
    simp only[fr,hg] at h1
    simp only[yielded,h1,Option.bind_some,hv]
   simp only[Region.wanted,hg,hy]
   by_cases e:b=want
   ·simp only[e,if_true] at h3
    simp only[e,beq_self_eq_true,if_true]
    exact .inl (fin (kg hE hW I hd hT h3))
   ·simp only[e,if_false] at h3
    have:(some b==some want)=false:=by simpa using e
    simp only[this,Bool.false_eq_true,if_false]
    exact Ca h3
  ·have hy:yielded ops a.tmps j=none:=by
    obtain⟨v,hv,us,hr,_⟩:=I.az n _ h2
    subst hr
    simp only[fr,hg] at h1
    simp only[yielded,h1,Option.bind_some,hv]
   simp only[Region.wanted,hg,hy]
   have:((none:Option Bool)==some want)=false:=rfl
   simp only[this,Bool.false_eq_true,if_false]
   exact Ca h3
theorem tU(hE:E.Ok P)(hN:E.jV){J:Array Value→Prop}(Ci:∀o∈ops.toList,ny J o){n:Fx}(hW:sP P n.wl)(hd:∀o∈ops.toList,∀d,o.dst=some d→d<n.sz){k:St→Option R}{r:R}
 (hK:∀g' aI a' w',k aI=some r→g'.n=n→Inv w0 Mf g' aI a' w'→J a'.tmps→Q .normal a' w'):
    ∀(l:List Oper)(i:Nat){g:Gh}{st:St}{a:Act}{w:World},ops.toList.drop i=l→Cc E ops l st k=some r→g.n=n→Inv w0 Mf g st a w→J a.tmps→wpOps P ops Q (List.range' i l.length) a w
 | [],i,g,st,a,w,hl,h,hn,I,hJ=>by
  simp only[List.length_nil,List.range'_zero,wpOps]
  exact hK g st a w h hn I hJ
 |o::l,i,g,st,a,w,hl,h,hn,I,hJ=>by
  have lf:ops.toList[i]? =some o:=by
   have:=congrArg (fun m=>m[0]?) hl
   simpa [List.getElem?_drop] using this
  have hi:ops[i]? =some o:=by simpa using lf
  simp only[List.length_cons,List.range'_succ,wpOps_cons]
  simp only[Cc] at h
  obtain⟨br,d,hS,hk,hD⟩:=Ch hN h
  refine oC hE (by rw[hn];exact hW) (Ci o (List.mem_of_getElem? lf)) hJ (hS.inv I) (fun d GQ=>by rw[hn];exact hd o (List.mem_of_getElem? lf) d GQ) hi hD fun g' a' w' Mj I' pT=> ?_
  exact tU hE hN Ci hW hd hK l (i+1) (by rw[← List.drop_drop,hl];rfl) hk (Mj.trans hn) I' pT
end Go.Gm
namespace Go.Gm
open Go
variable {R : Type} {P : Program} {E : Env} {w0 w : World} {Mf : Nat → Prop} {g : Gh} {st st0 br mH : St} {a : Act} {Q : Exit → Act → World → Prop}
  {o:Oper} {ops:Array Oper} {K:Act→World→Prop}
section
variable {V : Type}
def sL(p:Rec→Bool)(f:Rec→Option V):List Rec→Option V→Option V
 | [],v=>v
 |x::L,v=>sL p f L (cond (p x) ((f x).or v) v)
theorem fh{p:Rec→Bool}{f:Rec→Option V}:∀{L M:List Rec}{v:Option V},sL p f (L++M) v=sL p f M (sL p f L v)
 | [],_,_=>rfl
 |_::L,_,_=>fh (L:=L)
theorem eg{p q:Rec→Bool}{f:Rec→Option V}:∀{L:List Rec}{v:Option V},(∀ x∈L,p x≠q x→f x=none)→sL p f L v=sL q f L v
 | [],_,_=>rfl
 |x::L,v,h=>by
  simp only[sL]
  have e:cond (p x) ((f x).or v) v=cond (q x) ((f x).or v) v:=by
   by_cases Yn:p x=q x
   ·rw[Yn]
   ·rw[h x (by simp) Yn];cases p x<;>cases q x<;>rfl
  rw[e]
  exact eg fun y hy=>h y (by simp[hy])
theorem kj{p:Rec→Bool}{f:Rec→Option V}:∀{L:List Rec}{v:Option V},(∀ x∈L,p x=true→f x=none)→sL p f L v=v
 | [],_,_=>rfl
 |x::L,v,h=>by
  simp only[sL]
  rw[kj fun y hy=>h y (by simp[hy])]
  cases hp:p x with
  |true=>rw[h x (by simp) hp];rfl
  |false=>rfl
theorem ly{p q:Rec→Bool}{f:Rec→Option V}{x0:Rec}(hp:p x0=false)(MU:q x0=true):∀{L:List Rec}{v:Option V},x0∈L→(L.map (·.i)).Pairwise (· < ·)→
 (∀ x∈L,x.i≠x0.i→q x=p x)→(∀ x∈L,x0.i<x.i→p x=true→f x0=none∨f x=none)→sL q f L v=(f x0).or (sL p f L v)
 | [],_,h,_,_,_=>by simp at h
 |x::L,v,h,hs,hq,hc=>by
  have eZ:(∀ y∈L,x.i<y.i)∧(L.map (·.i)).Pairwise (· < ·):=by simpa using hs
  simp only[sL]
  rcases List.mem_cons.1 h with rfl | hm
  ·rw[hp,MU]
   simp only[cond_true,cond_false]
   have e1:∀v,sL q f L v=sL p f L v:=fun v=>eg fun y hy dP=>absurd (hq y (by simp[hy]) (by have:=eZ.1 y hy;omega)) dP
   rw[e1]
   cases hf:f x0 with
   |none=>rfl
   |some z=>
    simp only[Option.some_or]
    exact kj fun y hy hpy=>(hc y (by simp[hy]) (eZ.1 y hy) hpy).resolve_left (by simp[hf])
  ·have dP:x.i≠x0.i:=by have:=eZ.1 x0 hm;omega
   rw[hq x (by simp) dP]
   exact ly hp MU hm eZ.2 (fun y hy=>hq y (by simp[hy])) fun y hy=>hc y (by simp[hy])
end
def fS(n:Nat)(d:Dl):Option Sv:=match d.slot with | some (s,v)=>if n=s then some v else none | none=>none
def fB(n:Nat)(d:Dl):Option Bx:=ak (ck [] d.boxes) n
def fR(n:Nat)(d:Dl):Option Rt:=ak (ck [] d.roots) n
theorem Cj(st:St)(d:Dl)(n:Nat):ak (st.apply d).az n=(fS n d).or (ak st.az n):=by
 unfold fS St.apply
 cases d.slot with
 |none=>rfl
 |some sv=>
  obtain⟨s,v⟩:=sv
  simp only[aJ]
  split<;>rfl
theorem Ck(st:St)(d:Dl)(n:Nat):ak (st.apply d).boxes n=(fB n d).or (ak st.boxes n):=ef d.boxes st.boxes n
theorem vC(st:St)(d:Dl)(n:Nat):ak (st.apply d).roots n=(fR n d).or (ak st.roots n):=ef d.roots st.roots n
theorem nz{α:Type}:∀{L l:List (Nat×α)}{n:Nat},n ∉ L.map (·.1)→ak (ck l L) n=ak l n
  | [],_,_,_=>rfl
  | (m,v)::L,l,n,h=>by
    simp only[List.map_cons,List.mem_cons,not_or] at h
    simp only[ck]
    rw[nz h.2,bQ _ _ h.1]
theorem GR{n:Nat}{d:Dl}(h:n ∉ d.lu):fS n d=none:=by
 unfold fS;unfold Dl.lu at h
 split<;>rename_i e<;>simp only[e] at h
 ·simp only[List.mem_singleton] at h;simp[h]
 ·rfl
theorem P3{n:Nat}{d:Dl}(h:n ∉ d.qX):fB n d=none:=by unfold fB;rw[nz h];rfl
theorem tV{n:Nat}{d:Dl}(h:n ∉ d.jT):fR n d=none:=by unfold fR;rw[nz h];rfl
abbrev rS(n:Nat)(x:Rec):Option Sv:=fS n x.d
abbrev rB(n:Nat)(x:Rec):Option Bx:=fB n x.d
abbrev rR(n:Nat)(x:Rec):Option Rt:=fR n x.d
def rM(n:Nat)(x:Rec):Option (Option Rt):=cond (cB n x.ms) none ((fR n x.d).map fun y=>gN (some y))
def zY(st:St)(ms:List Nat)(d:Dl):Prop:=∀n,cB n ms=true→∃y,fR n d=some y∧gN (some y)=gN (ak st.roots n)
theorem x3{x:Rec}(h:zY st x.ms x.d)(n:Nat):some (gN (ak (st.apply x.d).roots n))=(rM n x).or (some (gN (ak st.roots n))):=by
 rw[vC]
 unfold rM
 cases hm:cB n x.ms with
 |true=>
  obtain⟨y,h1,h2⟩:=h n hm
  rw[h1]
  simp only[Option.some_or,cond_true,Option.none_or,h2]
 |false=>
  cases h1:fR n x.d<;>simp
structure Lk (st0:St) (p:Rec→Bool) (L:List Rec) (st:St):Prop where
 s:∀n,ak st.az n=sL p (rS n) L (ak st0.az n)
 b:∀n,ak st.boxes n=sL p (rB n) L (ak st0.boxes n)
 r:∀n,ak st.roots n=sL p (rR n) L (ak st0.roots n)
 m:∀n,some (gN (ak st.roots n))=sL p (rM n) L (some (gN (ak st0.roots n)))
theorem Lk.same{p:Rec→Bool}{L:List Rec}(h:Lk st0 p L st)(hS:nu st br):Lk st0 p L br:=
 ⟨fun n=>by rw[← hS.s];exact h.s n,fun n=>by rw[← hS.b];exact h.b n,fun n=>by rw[← hS.r];exact h.r n,fun n=>by rw[← hS.r];exact h.m n⟩
theorem Lk.congr{p q:Rec→Bool}{L:List Rec}(h:Lk st0 p L st)(e:∀x∈L,p x=q x):Lk st0 q L st:=
 ⟨fun n=>(h.s n).trans (eg fun x hx dP=>absurd (e x hx) dP),fun n=>(h.b n).trans (eg fun x hx dP=>absurd (e x hx) dP),fun n=>(h.r n).trans (eg fun x hx dP=>absurd (e x hx) dP),fun n=>(h.m n).trans (eg fun x hx dP=>absurd (e x hx) dP)⟩
theorem Lk.eq{p:Rec→Bool}{L:List Rec}(h:Lk st0 p L st)(h':Lk st0 p L br):nu st br:=
 ⟨funext fun n=>(h.s n).trans (h'.s n).symm,funext fun n=>(h.b n).trans (h'.b n).symm,funext fun n=>(h.r n).trans (h'.r n).symm⟩
theorem Lk.snoc{L:List Rec}(h:Lk st0 (fun _=>true) L st)(x:Rec)(hx:zY st x.ms x.d):Lk st0 (fun _=>true) (L++[x]) (st.apply x.d):=
 ⟨fun n=>by rw[fh,Cj,h.s n];rfl,fun n=>by rw[fh,Ck,h.b n];rfl,fun n=>by rw[fh,vC,h.r n];rfl,fun n=>by rw[fh,x3 hx,h.m n];rfl⟩
theorem Lk.more{p:Rec→Bool}{L:List Rec}(h:Lk st0 p L st){x:Rec}(hx:p x=false):Lk st0 p (L++[x]) st:=
 ⟨fun n=>by rw[fh];simp only[sL,hx,cond_false];exact h.s n,fun n=>by rw[fh];simp only[sL,hx,cond_false];exact h.b n,fun n=>by rw[fh];simp only[sL,hx,cond_false];exact h.r n,fun n=>by rw[fh];simp only[sL,hx,cond_false];exact h.m n⟩
theorem Nc{n:Nat}{y:Rt}{rest:List (Nat×Rt)}{d:Dl}(hd:d.roots=(n,y)::rest)(h:cB n (rest.map (·.1))=false):fR n d=some y:=by
 unfold fR
 rw[hd]
 simp only[ck]
 rw[nz (fun hm=>by rw[cd.2 hm] at h;cases h)]
 simp[aJ]
theorem x4{e:Ty}{id ver lo hi:Nat}{k:List (El e)→Bool→St→List (Nat×Rt)→Option R}{r:R}(h:jv st e (.vw id ver lo hi) k=some r):
    ∃ys dd aI u,k ys dd aI u=some r∧∀n y rest,u=(n,Rt.live y)::rest→rest=[]∧n=id∧∃(x:cy)(md:Md),ak st.roots id=some (.live x)∧y=⟨x.t,md,x.ver,x.log,x.xs⟩:=by
 unfold jv at h
 split at h
 ·simp only[ma] at h
  unfold iH at h
  split at h
  ·obtain⟨_,h⟩:=bg h
   obtain⟨_,h⟩:=bg h
   obtain⟨xs,_,h⟩:=Option.bind_eq_some_iff.1 h
   exact⟨_,_,_,_,h,fun _ _ _ hu=>by cases hu⟩
  ·cases h
 ·simp only[tA] at h
  unfold iH at h
  split at h
  ·rename_i x hx
   obtain⟨_,h⟩:=bg h
   simp only at h
   cases ht:x.md.oW lo 0 with
   |true=>
    rw[ht] at h
    obtain⟨xs,_,h⟩:=Option.bind_eq_some_iff.1 h
    refine⟨_,_,_,_,h,fun n y rest hu=> ?_⟩
    cases hu
    exact⟨rfl,rfl,x,_,hx,rfl⟩
   |false=>
    rw[ht] at h
    simp only[cond_false,iM,iH,hx] at h
    obtain⟨_,h⟩:=bg h
    obtain⟨_,h⟩:=bg h
    cases hf:x.md.cq with
    |true=>
     rw[hf] at h
     obtain⟨xs,_,h⟩:=Option.bind_eq_some_iff.1 h
     exact⟨_,_,_,_,h,fun _ _ _ hu=>by cases hu⟩
    |false=>
     rw[hf] at h
     obtain⟨xs,_,h⟩:=Option.bind_eq_some_iff.1 h
     exact⟨_,_,_,_,h,fun _ _ _ hu=>by cases hu⟩
  ·cases h
theorem x5{n m:Nat}(h:cB n [m]=true):n=m:=by simpa using cd.1 h
theorem GS{d:Dl}(h:eQ E o st some=some d):zY st (vv st o d) d:=by
 intro n hn
 unfold vv at hn
 split at hn
 ·rename_i c bZ
  split at hn
  ·rename_i s x hc fZ
   split at hn
   ·rename_i sc id ver lo hi m y rest hs hx hr
    cases ji:(GG sc&&(Nat.beq m id&&(!rest.isEmpty&& !cB id (rest.map (·.1))))) with
    |false=>rw[ji] at hn;cases hn
    |true=>
     rw[ji] at hn
     simp only[Bool.and_eq_true,Bool.not_eq_true'] at ji
     obtain⟨hp,RR,dP,F5⟩:=ji
     have RR:=Nat.eq_of_beq_eq_true RR
     have Zf:=x5 hn
     subst Zf
     subst RR
     refine⟨_,Nc hr F5,?_⟩
     obtain⟨ts,rfl,e0⟩:=fg hs
     obtain⟨tx,rfl,e1⟩:=fg hx
     simp only[eQ,bZ,hc,eP,fZ] at h
     obtain⟨T,T',cH⟩:∃T T',c.argTypes.toList=[T,T']:=by
      rcases cH:c.argTypes.toList with _ | ⟨T,_ | ⟨T',_ | ⟨_,_⟩⟩⟩<;>rw[cH] at h
      ·cases h
      ·cases h
      ·exact⟨_,_,rfl⟩
      ·cases h
     rw[cH] at h
     simp only at h
     obtain⟨_,_,h⟩:=Option.bind_eq_some_iff.1 h
     unfold fu dq at h
     simp only[e0,e1,Option.bind_some] at h
     have hsx:∀a b c d,(Sc.vw a b c d).soft=Sc.vw a b c d:=fun _ _ _ _=>rfl
     rw[hsx] at h
     unfold j6 at h
     split at h
     ·cases sc with
      |nl=>
       have B9:Sc.nl.soft=Sc.nl:=rfl
       rw[B9] at h
       simp only at h
       obtain⟨ys,dd,aI,u,h,hu⟩:=x4 h
       obtain⟨_,h⟩:=bg h
       obtain⟨r2,h⟩:∃r2:cy,d.roots=u++[(64*o.dst.getD 0,.live r2)]:=by
        unfold iQ mkRoot at h
        split at h
        ·obtain⟨_,h⟩:=bg h;cases h;exact⟨_,rfl⟩
        ·split at h
         ·cases h;exact⟨_,rfl⟩
         ·cases h;exact⟨_,rfl⟩
         ·cases h
       rw[hr] at h
       cases u with
       |nil=>cases h;cases dP
       |cons a u=>
        cases h
        obtain⟨_,_,x,md,h1,rfl⟩:=hu _ _ _ rfl
        rw[h1];rfl
      |h RS vd iv2 p2=>
       cases p2 with
       |cons a b=>cases hp
       |nil=>
        have B9:(Sc.h RS vd iv2 []).soft=Sc.h RS vd iv2 []:=rfl
        rw[B9] at h
        simp only at h
        obtain⟨ys,dd,aI,u,h,hu⟩:=x4 h
        obtain⟨r2,h⟩:∃r2:cy,d.roots=u++[(RS,.live r2)]:=by
         unfold iH at h
         split at h
         ·rename_i x2 _
          replace h:=(bg h).2
          simp only at h
          cases hb:(x2.md.cq||x2.md.cU) with
          |true=>rw[hb] at h;cases h
          |false=>
           rw[hb] at h
           obtain⟨_,_,h⟩:=Option.bind_eq_some_iff.1 h
           obtain⟨_,h⟩:=bg h
           cases h;exact⟨_,rfl⟩
         ·cases h
        rw[hr] at h
        cases u with
        |nil=>cases h;cases dP
        |cons a u=>
         cases h
         obtain⟨_,_,x,md,h1,rfl⟩:=hu _ _ _ rfl
         rw[h1];rfl
      |_=>cases hp
     ·cases h
   ·cases hn
  ·cases hn
 ·cases hn
theorem GU{d:Dl}(h:zm E ops o st d):zY st (vv st o d) d:=by
 have dead:zY st (vv st o (jU o)) (jU o):=by
  intro n hn
  have:vv st o (jU o)=[]:=by
   unfold vv
   split
   ·split
    ·split
     ·rename_i hr;cases hr
     ·rfl
    ·rfl
   ·rfl
  rw[this] at hn;cases hn
 unfold zm at h
 split at h
 ·exact GS h
 ·obtain⟨n,_,h⟩:=h
  rcases h with ⟨b,_,h⟩ | ⟨_,h⟩
  ·split at h
   ·exact GS h
   ·rw[h];exact dead
  ·rw[h];exact dead
def Fact(E:Env)(ops:Array Oper)(st0:St)(L:List Rec)(x:Rec):Prop:=
  ∃o br,ops[x.i]? =some o∧zm E ops o br x.d∧x.u=eJ ops br o∧zY br x.ms x.d∧Lk st0 (fun y=>Nat.blt y.i x.i) L br∧x.lt=fA E br o
theorem x6(hN:E.jV){k:List Rec→St→Option R}{r:R}:∀(l:List Oper)(i:Nat){st:St}(L:List Rec),ops.toList.drop i=l→i≤ops.toList.length→L.map (·.i)=List.range i→Lk st0 (fun _=>true) L st→
 (∀ x∈L,Fact E ops st0 L x)→vx E ops i l L.reverse st k=some r→
    ∃L' GV,L'.map (·.i)=List.range ops.toList.length∧(∀ x∈L',Fact E ops st0 L' x)∧Lk st0 (fun _=>true) L' GV∧k L'.reverse GV=some r
 | [],i,st,L,hl,hle,hL,hk,hF,h=>by
  have hi:i=ops.toList.length:=by
   have:=congrArg List.length hl
   simp only[List.length_drop,List.length_nil] at this
   omega
  subst hi
  exact⟨L,st,hL,hF,hk,h⟩
 |o::l,i,st,L,hl,hle,hL,hk,hF,h=>by
  have lf:ops.toList[i]? =some o:=by
   have:=congrArg (fun m=>m[0]?) hl
   simpa [List.getElem?_drop] using this
  have hi:ops[i]? =some o:=by simpa using lf
  simp only[vx] at h
  obtain⟨br,d,hS,h,hD⟩:=Ch hN h
  have sX:=hk.same hS
  let x:Rec:=⟨i,eJ ops br o,d,vv br o d,fA E br o⟩
  have cc:∀y∈L,y.i<i:=fun y hy=>by
   have:y.i∈L.map (·.i):=List.mem_map.2 ⟨y,hy,rfl⟩
   rw[hL] at this;simpa using this
  have hr:(⟨i,eJ ops br o,d,vv br o d,fA E br o⟩::L.reverse:List Rec)=(L++[x]).reverse:=by simp[x]
  rw[hr] at h
  have hlen:i<ops.toList.length:=by
   rcases Nat.lt_or_ge i ops.toList.length with h' | h'
   ·exact h'
   ·simp[List.getElem?_eq_none h'] at lf
  refine x6 hN l (i+1) (L++[x]) (by rw[← List.drop_drop,hl];rfl) hlen (by simp[hL,List.range_succ,x]) (sX.snoc x (GU hD)) (fun y hy=> ?_) h
  have Vu:Nat.blt i i=false:=by
   cases hb:Nat.blt i i with
   |false=>rfl
   |true=>rw[Nat.blt_eq] at hb;omega
  rcases List.mem_append.1 hy with hy | hy
  ·obtain⟨o',s1,f1,f2,f3,f5,f4,f6⟩:=hF y hy
   refine⟨o',s1,f1,f2,f3,f5,f4.more ?_,f6⟩
   have:=cc y hy
   show Nat.blt i y.i=false
   cases hb:Nat.blt i y.i with
   |false=>rfl
   |true=>rw[Nat.blt_eq] at hb;omega
  ·have hyx:y=x:=by simpa using hy
   subst hyx
   refine⟨o,br,hi,hD,rfl,GU hD,Lk.more ?_ Vu,rfl⟩
   exact sX.congr fun z hz=>by
    have:=cc z hz
    show true=Nat.blt z.i i
    exact (by rw[Nat.blt_eq];exact this:Nat.blt z.i i=true).symm
theorem x7(acc:List Nat):∀(es:List Edge)(s:Nat)(x:Nat),Nat.testBit (es.foldl (fun s e=>cond (Region.binds .any e) (s ||| (2^e.on ||| acc.getD e.on 0)) s) s) x=true→
    Nat.testBit s x=true∨∃e∈es,Region.binds .any e=true∧(x=e.on∨(e.on<acc.length∧Nat.testBit (acc.getD e.on 0) x=true))
 | [],s,x,h=> .inl h
 |e::es,s,x,h=>by
  rcases x7 acc es _ x h with h | ⟨e',h1,h2⟩
  ·cases hb:Region.binds .any e with
   |false=>simp only[hb,cond_false] at h;exact .inl h
   |true=>
    simp only[hb,cond_true,Nat.testBit_or,Bool.or_eq_true,Nat.testBit_two_pow,decide_eq_true_eq] at h
    rcases h with h | h | h
    ·exact .inl h
    ·exact .inr ⟨e,by simp,hb,.inl h.symm⟩
    ·refine .inr ⟨e,by simp,hb,.inr ⟨?_,h⟩⟩
     rcases Nat.lt_or_ge e.on acc.length with h' | h'
     ·exact h'
     ·simp[List.getD,List.getElem?_eq_none h'] at h
  ·exact .inr ⟨e',by simp[h1],h2⟩
theorem GW{l m:List Nat}{i:Nat}(h:i<l.length):(l++m).getD i 0=l.getD i 0:=by
 simp[List.getD,List.getElem?_append_left h]
theorem rj:∀(l:List Oper)(acc:List Nat),(∀ i,i<acc.length→(jk l acc).getD i 0=acc.getD i 0)∧
    ∀j o,l[j]? =some o→∀x,Nat.testBit ((jk l acc).getD (acc.length+j) 0) x=true→
      ∃e∈o.after.toList,Region.binds .any e=true∧(x=e.on∨(e.on<acc.length+j∧Nat.testBit ((jk l acc).getD e.on 0) x=true))
 | [],acc=>⟨fun _ _=>rfl,fun j o h=>by simp at h⟩
 |o::l,acc=>by
  simp only[jk]
  generalize hv:o.after.toList.foldl (fun s e=>cond (Region.binds .any e) (s ||| (2^e.on ||| acc.getD e.on 0)) s) 0=v
  obtain⟨h1,h2⟩:=rj l (acc++[v])
  have sI:∀i,i<acc.length→(jk l (acc++[v])).getD i 0=acc.getD i 0:=fun i hi=>by
   rw[h1 i (by simp;omega),GW hi]
  refine⟨sI,fun j o' hj x hx=> ?_⟩
  cases j with
  |zero=>
   simp only[List.getElem?_cons_zero,Option.some.injEq] at hj
   subst hj
   rw[Nat.add_zero,h1 acc.length (by simp)] at hx
   have hx:Nat.testBit v x=true:=by simpa [List.getD] using hx
   rw[← hv] at hx
   rcases x7 acc _ 0 x hx with h | ⟨e,he,hb,h⟩
   ·simp at h
   ·refine⟨e,he,hb,h.imp (fun h=>h) fun ⟨h3,h4⟩=>⟨by omega,by rw[sI _ h3];exact h4⟩⟩
  |succ j=>
   have e:acc.length+(j+1)=(acc++[v]).length+j:=by simp;omega
   rw[e] at hx ⊢
   exact h2 j o' (by simpa using hj) x hx
def rl(ops:Array Oper)(t:Nat→Bool):Prop:=∀(j:Nat) o,ops[j]? =some o→t j=true→∀e∈o.after,Region.binds .any e=true→t e.on=true
theorem gO{t:Nat→Bool}(hc:rl ops t):∀(n i:Nat),i<n→∀o,ops[i]? =some o→(∀ e∈o.after,Region.binds .any e=true→t e.on=true)→∀x,Nat.testBit ((eC ops).getD i 0) x=true→t x=true
 |0,_,h=>by omega
 |n+1,i,h=>fun o hi dm x hx=>by
  obtain⟨e,he,hb,hor⟩:=(rj ops.toList []).2 i o (by simpa using hi) x (by simpa [eC] using hx)
  have DI:e∈o.after:=by simpa using he
  have RT:=dm e DI hb
  rcases hor with rfl | ⟨cc,Zg⟩
  ·exact RT
  ·simp only[List.length_nil,Nat.zero_add] at cc
   cases ho:ops[e.on]? with
   |none=>
    have dQ:ops.size≤e.on:=by
     rcases Nat.lt_or_ge e.on ops.size with h' | h'
     ·simp[Array.getElem?_eq_getElem h'] at ho
     ·exact h'
    have:i<ops.size:=by
     rcases Nat.lt_or_ge i ops.size with h' | h'
     ·exact h'
     ·simp[Array.getElem?_eq_none h'] at hi
    omega
   |some oe=>exact gO hc n e.on (by omega) oe ho (fun e' DI fl=>hc e.on oe ho RT e' DI fl) x Zg
end Go.Gm
namespace Go.Gm
open Go
variable {R : Type} {P : Program} {E : Env} {w0 w : World} {Mf : Nat → Prop} {g : Gh} {st st0 br mH : St} {a : Act} {Q : Exit → Act → World → Prop}
  {o:Oper} {ops:Array Oper} {K:Act→World→Prop}
theorem kJ:∀{l:List Oper}{i:Nat},nq i l=true→∀(j:Nat) o,l[j]? =some o→∀e∈o.after,Region.binds .any e=true→e.on<i+j
 | [],_,_,j,o,h=>by simp at h
 |o::l,i,h,j,o',hj=>by
  simp only[nq,Bool.and_eq_true,List.all_eq_true,Bool.or_eq_true,Bool.not_eq_true'] at h
  obtain⟨h1,h2⟩:=h
  cases j with
  |zero=>
   simp only[List.getElem?_cons_zero,Option.some.injEq] at hj
   subst hj
   intro e he hb
   have:=(h1 e (by simpa using he)).resolve_left (by simp[hb])
   rw[Nat.blt_eq] at this
   omega
  |succ j=>
   intro e he hb
   have:=kJ h2 j o' (by simpa using hj) e he hb
   omega
theorem GX{p q:Nat→Bool}:∀{l:List Nat}{i:Nat},(∀ x,q x=true→p x=true)→i∈l→p i=true→q i=false→l.countP q<l.countP p
 | [],_,_,h,_,_=>by simp at h
 |x::l,i,B6,h,hp,hq=>by
  have hle:∀l:List Nat,l.countP q≤l.countP p:=fun l=>List.countP_mono_left fun x _=>B6 x
  simp only[List.countP_cons]
  rcases List.mem_cons.1 h with rfl | h
  ·have:=hle l;simp[hp,hq];omega
  ·have:=GX B6 h hp hq
   cases hx:q x with
   |true=>simp[B6 x hx];omega
   |false=>cases p x<;>simp<;>omega
def Ux(ops:Array Oper)(aE:Array Bool):Nat:=(List.range ops.size).countP fun j=> !aE.getD j false
theorem kl{aE:Array Bool}{j:Nat}(h:j<aE.size):aE.getD j true=aE.getD j false:=by
 simp[h]
theorem tc{aE:Array Bool}{j:Nat}(h:j<aE.size)(d:Bool):(aE.setIfInBounds j true).getD j d=true:=by
 simp[h]
theorem mL(oD:nq 0 ops.toList=true){aE:Array Bool}(hs:aE.size=ops.size)(hr:Region.ready .any ops aE=[]):
    ∀(n j:Nat),j<n→j<ops.size→aE.getD j false=true
 |0,_,h,_=>by omega
 |n+1,j,hj,cc=>by
  cases hl:aE.getD j false with
  |true=>rfl
  |false=>
   have ho:ops[j]? =some ops[j]:=Array.getElem?_eq_getElem cc
   have:j∈Region.ready .any ops aE:=mem_ready.2 ⟨by rw[kl (by omega)];exact hl,ops[j],ho,fun e he hb=>by
    have:=kJ oD j ops[j] (by simp) e he hb
    exact mL oD hs hr n e.on (by omega) (by omega)⟩
   rw[hr] at this;cases this
theorem Rec.Cl{x y:Rec}(h:x.clear y=true){n:Nat}(hn:y.u.vu n=true∨n∈y.d.lu):fS n x.d=none:=by
 refine GR fun hm=> ?_
 simp only[Rec.clear,Bool.and_eq_true,List.all_eq_true] at h
 have:=h.1 n hm
 simp only[Bool.not_eq_true',Bool.or_eq_false_iff] at this
 rcases hn with hn | hn
 ·rw[this.2] at hn;cases hn
 ·rw[cd.2 hn] at this;cases this.1
theorem Rec.Cn{x y:Rec}(h:x.clear y=true){n:Nat}(hn:y.u.hasB n=true∨n∈y.d.qX):fB n x.d=none:=by
 refine P3 fun hm=> ?_
 simp only[Rec.clear,Bool.and_eq_true,List.all_eq_true] at h
 have:=h.2.1 n hm
 simp only[Bool.not_eq_true',Bool.or_eq_false_iff] at this
 rcases hn with hn | hn
 ·rw[this.2] at hn;cases hn
 ·rw[cd.2 hn] at this;cases this.1
theorem Rec.Co{x y:Rec}(h:x.clear y=true){n:Nat}(hn:y.u.k9 n=true∨n∈y.d.jT):fR n x.d=none:=by
 refine tV fun hm=> ?_
 simp only[Rec.clear,Bool.and_eq_true,List.all_eq_true] at h
 have:=h.2.2 n hm
 simp only[Bool.not_eq_true',Bool.or_eq_false_iff] at this
 rcases hn with hn | hn
 ·rw[this.2.1] at hn;cases hn
 ·rw[cd.2 hn] at this;cases this.1
theorem Rec.vD{x y:Rec}(h:x.clear y=true){n:Nat}(hn:y.u.M9 n=true∨n∈y.d.jT):rM n x=none:=by
 unfold rM
 cases Nd:cB n x.ms with
 |true=>rfl
 |false=>
  have:fR n x.d=none:=tV fun hm=>by
   simp only[Rec.clear,Bool.and_eq_true,List.all_eq_true] at h
   have:=h.2.2 n hm
   simp only[Bool.not_eq_true',Bool.or_eq_false_iff] at this
   rcases hn with hn | hn
   ·have:=this.2.2
    rw[hn,Nd] at this;cases this
   ·rw[cd.2 hn] at this;cases this.1
  rw[this];rfl
theorem Vv{n:Nat}{x:Rec}(h:n ∉ x.d.jT):rM n x=none:=by
 unfold rM
 rw[tV h]
 cases cB n x.ms<;>rfl
theorem rm{V:Type}{f:Dl→Option V}{d d':Dl}{t:Dl→List Nat}{n:Nat}(kZ:n ∉ t d→f d=none)(h:n∈t d→f d'=none):f d=none∨f d'=none:=by
 by_cases hm:n∈t d
 ·exact .inr (h hm)
 ·exact .inl (kZ hm)
theorem eK{aE:Array Bool}{i:Nat}(h:i<aE.size)(j:Nat):(aE.setIfInBounds i true).getD j false=if j=i then true else aE.getD j false:=by
 by_cases e:i=j
 ·subst e;rw[tc h];simp
 ·rw[getD_set_ne false e,if_neg (Ne.symm e)]
theorem lz{aE:Array Bool}{i:Nat}(h:i<aE.size)(ke:rl ops (fun j=>aE.getD j false)){o:Oper}(ho:ops[i]? =some o)(dm:∀e∈o.after,Region.binds .any e=true→aE.getD e.on false=true):
    rl ops (fun j=>(aE.setIfInBounds i true).getD j false):=by
 intro j oj Vw hj e he hb
 simp only[eK h] at hj ⊢
 by_cases ej:j=i
 ·subst ej
  have:oj=o:=by rw[ho] at Vw;cases Vw;rfl
  subst this
  rw[dm e he hb];simp
 ·rw[if_neg ej] at hj
  have h5:aE.getD e.on false=true:=ke j oj Vw hj e he hb
  rw[h5];simp
theorem Cp{aE:Array Bool}{i:Nat}(h:i<aE.size)(hi:i<ops.size)(h0:aE.getD i false=false):Ux ops (aE.setIfInBounds i true)<Ux ops aE:=
  GX (i:=i) (fun x hx=>by
    rw[eK h] at hx
    by_cases e:x=i
    · rw[if_pos e] at hx;cases hx
    · rw[if_neg e] at hx;exact hx) (by simpa using hi) (by simp only[h0];rfl) (by rw[eK h];simp)
theorem Nf{L:List Rec}(tf:lv ops L.reverse=true):∀x∈L,∀y∈L,x.i<y.i→Nat.testBit ((eC ops).getD y.i 0) x.i=true∨(x.clear y=true∧y.clear x=true):=by
 intro x hx y hy hxy
 simp only[lv,List.all_eq_true,List.mem_reverse] at tf
 have:=tf x hx y hy
 have hb:Nat.blt x.i y.i=true:=by rw[Nat.blt_eq];exact hxy
 simpa [zS,hb] using this
theorem nA(hN:E.jV){L:List Rec}(zn:L.map (·.i)=List.range ops.toList.length)(hF:∀x∈L,Fact E ops st0 L x)(tf:lv ops L.reverse=true)
    {aE:Array Bool} (hs:aE.size=ops.size) (ke:rl ops (fun j=>aE.getD j false)) {x0:Rec} (Cq:x0∈L) (h0:aE.getD x0.i false=false) {o':Oper} (ho:ops[x0.i]? =some o')
 (km:∀e∈o'.after,Region.binds .any e=true→aE.getD e.on false=true) {σ:St} (hσ:Lk st0 (fun x=>aE.getD x.i false) L σ):
    ∃s1,Uw (eJ ops s1 o') s1 σ∧x0.lt=fA E s1 o'∧zm E ops o' σ x0.d∧Lk st0 (fun x=>(aE.setIfInBounds x0.i true).getD x.i false) L (σ.apply x0.d):=by
 have cc:∀x∈L,x.i<ops.size:=fun x hx=>by
  have:x.i∈L.map (·.i):=List.mem_map.2 ⟨x,hx,rfl⟩
  rw[zn] at this;simpa using this
 have Uy:(L.map (·.i)).Pairwise (· < ·):=by rw[zn];exact List.pairwise_lt_range
 have qL:=Nf tf
 have RU:x0.i<ops.size:=cc x0 Cq
 obtain⟨o1,s1,sH,hD,hu,Nd,P4,nf⟩:=hF x0 Cq
 have:o1=o':=by rw[ho] at sH;cases sH;rfl
 subst this
 have hah:∀x,Nat.testBit ((eC ops).getD x0.i 0) x=true→aE.getD x false=true:=gO ke (x0.i+1) x0.i (by omega) o1 ho km
 -- what is told of the others
 have Zh:∀y∈L,y.i<x0.i→aE.getD y.i false=false→x0.clear y=true∧y.clear x0=true:=fun y hy cc tG=>by
  rcases qL y hy x0 Cq cc with h | h
  ·have:=hah _ h;rw[tG] at this;cases this
  ·exact⟨h.2,h.1⟩
 have GY:∀y∈L,x0.i<y.i→aE.getD y.i false=true→x0.clear y=true∧y.clear x0=true:=fun y hy nf rq=>by
  rcases qL x0 Cq y hy nf with h | h
  ·obtain⟨oy,_,Vy,_⟩:=hF y hy
   have:=gO ke (y.i+1) y.i (by omega) oy Vy (fun e he hb=>ke y.i oy Vy rq e he hb) _ h
   simp only[h0] at this
   cases this
  ·exact h
 have x8:∀y∈L,Nat.blt y.i x0.i≠aE.getD y.i false→y.clear x0=true:=fun y hy dP=>by
  rcases Nat.lt_trichotomy y.i x0.i with h | h | h
  ·have hb:Nat.blt y.i x0.i=true:=by rw[Nat.blt_eq];exact h
   rw[hb] at dP
   exact (Zh y hy h (by cases h':aE.getD y.i false<;>simp_all)).2
  ·exfalso
   have hb:Nat.blt y.i x0.i=false:=by
    cases hb:Nat.blt y.i x0.i with
    |false=>rfl
    |true=>rw[Nat.blt_eq] at hb;omega
   rw[hb,h,h0] at dP
   exact dP rfl
  ·have hb:Nat.blt y.i x0.i=false:=by
    cases hb:Nat.blt y.i x0.i with
    |false=>rfl
    |true=>rw[Nat.blt_eq] at hb;omega
   rw[hb] at dP
   exact (GY y hy h (by cases h':aE.getD y.i false<;>simp_all)).2
 have A:Uw (eJ ops s1 o1) s1 σ:=by
  rw[← hu]
  rw[hu]
  refine⟨fun m hm=> ?_,fun m hm=> ?_,fun m hm=> ?_,fun m hm=> ?_⟩
  ·refine Option.some.inj ?_
   rw[P4.m m,hσ.m m];rw[← hu] at hm
   exact (eg fun y hy dP=>Rec.vD (x8 y hy dP) (.inl hm)).symm
  ·rw[P4.s m,hσ.s m];rw[← hu] at hm
   exact (eg fun y hy dP=>Rec.Cl (x8 y hy dP) (.inl hm)).symm
  ·rw[P4.b m,hσ.b m];rw[← hu] at hm
   exact (eg fun y hy dP=>Rec.Cn (x8 y hy dP) (.inl hm)).symm
  ·rw[P4.r m,hσ.r m];rw[← hu] at hm
   exact (eg fun y hy dP=>Rec.Co (x8 y hy dP) (.inl hm)).symm
 have qC:x0.i<aE.size:=by omega
 have pG:=eK qC
 refine⟨s1,A,nf,hD.move hN A,?_⟩
 have PK:(fun x:Rec=>aE.getD x.i false) x0=false:=h0
 have MU:(fun x:Rec=>(aE.setIfInBounds x0.i true).getD x.i false) x0=true:=by simp only[pG,if_true]
 have B6:∀x∈L,x.i≠x0.i→(fun x:Rec=>(aE.setIfInBounds x0.i true).getD x.i false) x=(fun x:Rec=>aE.getD x.i false) x:=fun x _ dP=>by simp only[pG,if_neg dP]
 have hσm:zY σ x0.ms x0.d:=fun m hm=>by
  obtain⟨y,h1,h2⟩:=Nd m hm
  refine⟨y,h1,h2.trans (Option.some.inj ?_)⟩
  rw[P4.m m,hσ.m m]
  refine eg fun z hz dP=>Rec.vD (x8 z hz dP) (.inr ?_)
  exact Classical.byContradiction fun tG=>by rw[tV tG] at h1;cases h1
 refine⟨fun m=> ?_,fun m=> ?_,fun m=> ?_,fun m=> ?_⟩
 rotate_left 3
 ·rw[x3 hσm,hσ.m m]
  exact (ly PK MU Cq Uy B6 fun y hy nf rq=>by
   by_cases hm:m∈x0.d.jT
   ·exact .inr (Rec.vD (GY y hy nf rq).2 (.inr hm))
   ·exact .inl (Vv hm)).symm
 ·rw[Cj,hσ.s m]
  exact (ly (f:=rS m) PK MU Cq Uy B6 fun y hy nf rq=>rm (t:=Dl.lu) GR fun hm=>Rec.Cl (GY y hy nf rq).2 (.inr hm)).symm
 ·rw[Ck,hσ.b m]
  exact (ly (f:=rB m) PK MU Cq Uy B6 fun y hy nf rq=>rm (t:=Dl.qX) P3 fun hm=>Rec.Cn (GY y hy nf rq).2 (.inr hm)).symm
 ·rw[vC,hσ.r m]
  exact (ly (f:=rR m) PK MU Cq Uy B6 fun y hy nf rq=>rm (t:=Dl.jT) tV fun hm=>Rec.Co (GY y hy nf rq).2 (.inr hm)).symm
theorem D6(hE:E.Ok P)(hN:E.jV){J:Array Value→Prop}(Ci:∀o∈ops.toList,ny J o){n:Fx}(hW:sP P n.wl)(hd:∀o∈ops.toList,∀d,o.dst=some d→d<n.sz){L:List Rec}{GV:St}(zn:L.map (·.i)=List.range ops.toList.length)
 (hF:∀x∈L,Fact E ops st0 L x) (Uz:Lk st0 (fun _=>true) L GV) (oD:nq 0 ops.toList=true) (tf:lv ops L.reverse=true)
 (hK:∀g' a' w',g'.n=n→Inv w0 Mf g' GV a' w'→J a'.tmps→Q .normal a' w'):
    ∀(fuel:Nat)(aE:Array Bool){g:Gh}{a:Act}{w:World},aE.size=ops.size→rl ops (fun j=>aE.getD j false)→Ux ops aE≤fuel→g.n=n→J a.tmps→
 (∃ σ,Lk st0 (fun x=>aE.getD x.i false) L σ∧Inv w0 Mf g σ a w)→wpAny P .any ops Q fuel aE a w:=by
 have cc:∀x∈L,x.i<ops.size:=fun x hx=>by
  have:x.i∈L.map (·.i):=List.mem_map.2 ⟨x,hx,rfl⟩
  rw[zn] at this;simpa using this
 have final:∀{aE:Array Bool}{g:Gh}{a:Act}{w:World},(∀ j,j<ops.size→aE.getD j false=true)→g.n=n→J a.tmps→(∃ σ,Lk st0 (fun x=>aE.getD x.i false) L σ∧Inv w0 Mf g σ a w)→Q .normal a w:=by
  intro aE g a w dm hg zo ⟨σ,hL,I⟩
  exact hK g a w hg (((hL.congr fun x hx=>dm x.i (cc x hx)).eq Uz).inv I) zo
 intro fuel
 induction fuel with
 |zero=>
  intro aE g a w hs ke hc hg zo hJ
  have dm:∀j,j<ops.size→aE.getD j false=true:=by
   intro j hj
   cases hl:aE.getD j false with
   |true=>rfl
   |false=>
    have:0<Ux ops aE:=List.countP_pos_iff.2 ⟨j,by simpa using hj,by simp only[hl];rfl⟩
    omega
  refine⟨?_,final dm hg zo hJ⟩
  cases hr:Region.ready .any ops aE with
  |nil=>rfl
  |cons j rest=>
   have:j∈Region.ready .any ops aE:=by rw[hr];simp
   obtain⟨h0,o,ho,_⟩:=mem_ready.1 this
   have hj:j<ops.size:=(Array.getElem?_eq_some_iff.1 ho).1
   rw[kl (by omega),dm j hj] at h0
   cases h0
 |succ fuel ih=>
  intro aE g a w hs ke hc hg zo hJ
  refine⟨fun hr=>final (fun j hj=>mL oD hs hr (j+1) j (by omega) hj) hg zo hJ,fun i hi=> ?_⟩
  obtain⟨h0,o,ho,dm⟩:=mem_ready.1 hi
  have RU:i<ops.size:=(Array.getElem?_eq_some_iff.1 ho).1
  rw[kl (by omega)] at h0
  have km:∀e∈o.after,Region.binds .any e=true→aE.getD e.on false=true:=dm
  obtain⟨x0,Cq,rfl⟩:∃x∈L,x.i=i:=by
   have:i∈L.map (·.i):=by rw[zn];simpa using RU
   simpa using this
  obtain⟨σ,hσ,I⟩:=hJ
  obtain⟨s1,A,_,hD,P5⟩:=nA hN zn hF tf hs ke Cq h0 ho km hσ
  have qC:x0.i<aE.size:=by omega
  exact oC hE (by rw[hg];exact hW) (Ci o (by simpa using Array.mem_of_getElem? ho)) zo I (fun d GQ=>by rw[hg];exact hd o (by simpa using Array.mem_of_getElem? ho) d GQ) ho hD fun g' a' w' mw I' D7=>
   ih _ (by simp[hs]) (lz qC ke ho km) (by have:=Cp qC RU h0;omega) (mw.trans hg) D7 ⟨_,P5,I'⟩
theorem Inv.drawn(I:Inv w0 Mf g st a w)(n:Nat):Inv w0 Mf g st a { w with drawn:=n }:=
 ⟨I.az,I.boxes,I.roots,⟨I.apart.rr,I.apart.rb,I.apart.bb,I.apart.ew,I.apart.fI,I.apart.cj,I.apart.dN,I.apart.er,I.apart.da,I.apart.bM⟩,
 ⟨I.kept.os,I.kept.tape,I.kept.output,I.kept.same⟩,I.defers,I.size,I.base⟩
theorem x9(w:World){b b':Nat}(us us':Array Value)(h:b≠b'):(w.setRow b us).setRow b' us'=(w.setRow b' us').setRow b us:=by
 unfold World.setRow
 congr 1
 apply Array.ext_getElem?
 intro k
 simp only[Array.getElem?_modify]
 by_cases h1:b=k<;>by_cases h2:b'=k
 ·exact absurd (h1.trans h2.symm) h
 ·simp[h1,h2]
 ·simp[h1,h2]
 ·simp[h1,h2]
theorem tW{x:Operand}(k:Sv→Option R):dq st x k=(dq st x some).bind k:=by
 cases x with
 |tmp t=>simp only[dq];cases ak st.az t<;>rfl
 |const v=>simp only[dq];cases lP v<;>rfl
 |func f=>rfl
 |global _=>rfl
structure Vz (st:St) (o:Oper):Prop where
 x:∃T tx i id ver iv p,o.op = .indexAddr T (.tmp tx) i∧ak st.az tx=some (.c (.one (.h id ver iv p)))
structure ya (E:Env) (st:St) (o:Oper) (id:Nat):Prop where
 x:∃T tx y t ver iv p i off r s sv cs,o.op = .store T (.tmp tx) y∧o.dst=none∧E.code T=some t∧ak st.az tx=some (.c (.one (.pe id ver iv p i off)))∧Vd st id ver iv p r∧Cb r.md p=true∧
  sub r.t r.xs p=some s∧Nat.ble (off+ao t) (ao s.t)=true∧dq st y some=some sv∧fa t sv=some cs∧Nat.beq cs.length (ao t)=true
theorem ia{q:Bool×Nat}(h:fA E st o=some q):o.guard.isNone=true∧((q=(false,0)∧Vz st o)∨∃id,q=(true,id)∧ya E st o id):=by
 unfold fA at h
 replace h:=bg h;obtain⟨hg,h⟩:=h
 refine⟨hg,?_⟩
 split at h
 ·rename_i T x i bZ
  split at h
  ·rename_i id ver iv p hc
   obtain⟨tx,rfl,hx⟩:=fg hc
   cases h
   exact .inl ⟨rfl,⟨T,tx,i,id,ver,iv,p,bZ,hx⟩⟩
  ·cases h
 ·rename_i T x y bZ
  replace h:=bg h;obtain⟨hd,h⟩:=h
  replace h:=Option.bind_eq_some_iff.1 h;obtain⟨t,hT,h⟩:=h
  split at h
  ·rename_i id ver iv p i off hc
   obtain⟨tx,rfl,hx⟩:=fg hc
   replace h:=de h;obtain⟨r,hv,h⟩:=h
   replace h:=bg h;obtain⟨hn,h⟩:=h
   replace h:=Option.bind_eq_some_iff.1 h;obtain⟨s,hs,h⟩:=h
   replace h:=bg h;obtain⟨hle,h⟩:=h
   rw[tW] at h
   replace h:=Option.bind_eq_some_iff.1 h;obtain⟨sv,RL,h⟩:=h
   replace h:=Option.bind_eq_some_iff.1 h;obtain⟨cs,fc,h⟩:=h
   replace h:=bg h;obtain⟨hlen,h⟩:=h
   cases h
   exact .inr ⟨id,rfl,⟨T,tx,y,t,ver,iv,p,i,off,r,s,sv,cs,bZ,Option.isNone_iff_eq_none.1 hd,hT,hx,hv,hn,hs,hle,RL,fc,hlen⟩⟩
  ·cases h
 ·cases h
theorem o8(hs:∀t,Operand.tmp t∈o.op.operands.toList→ak br.az t=ak st.az t)(hr:∀id,ya E st o id→ak br.roots id=ak st.roots id){q:Bool×Nat}
 (h:fA E st o=some q):fA E br o=some q:=by
 replace h:=ia h;obtain⟨hg,h⟩:=h
 unfold fA
 rw[hg]
 rcases h with ⟨rfl,⟨T,tx,i,id,ver,iv,p,bZ,hx⟩⟩ | ⟨id,rfl,hL⟩
 ·have:=hs tx (by simp[bZ,Op.operands])
  rw[hx] at this
  simp only[cond_true,bZ,jD,this]
 ·have hr:=hr id hL
  obtain⟨T,tx,y,t,ver,iv,p,i,off,r,s,sv,cs,bZ,hd,hT,hx,hv,hn,mo,hle,RL,fc,hlen⟩:=hL
  have h1:=hs tx (by simp[bZ,Op.operands])
  rw[hx] at h1
  have h2:dq br y some=some sv:=by
   rw[← RL]
   cases y with
   |tmp t=>simp only[dq,hs t (by simp[bZ,Op.operands])]
   |_=>rfl
  have h3:Nat.beq r.ver ver=true:=by rw[hv.2.1];exact Nat.beq_refl ver
  have h4:∀k:Sv→Option (Bool×Nat),dq br y k=k sv:=fun k=>by rw[tW,h2];rfl
  simp only[cond_true,bZ,hd,Option.isNone_none,hT,Option.bind_some,jD,h1,jb,iH,hr,hv.1,h3,hv.2.2,hn,mo,hle,h4,fc,hlen]
theorem ru(A:Uw (eJ ops st o) st br){q:Bool×Nat}(h:fA E st o=some q):fA E br o=some q:=by
 have hu:eJ ops st o=bC ops st o:=by
  unfold eJ GF qW
  rcases (ia h).2 with ⟨_,⟨T,tx,i,id,ver,iv,p,bZ,hx⟩⟩ | ⟨id,_,⟨T,tx,y,t,ver,iv,p,i,off,r,s,sv,cs,bZ,_,_,hx,_⟩⟩
  ·simp only[bZ,cond_false]
  ·simp only[bZ,cond_false,jD,hx]
 rw[hu] at A
 have hs:∀t,Operand.tmp t∈o.op.operands.toList→ak br.az t=ak st.az t:=fun t ht=>A.s t (cd.2 (by
  simp only[bC,List.mem_append,tmpsOf,List.mem_filterMap]
  exact .inl ⟨_,ht,rfl⟩))
 refine o8 hs (fun id cQ=>A.r id ?_) h
 obtain⟨T,tx,y,t,ver,iv,p,i,off,r,s,sv,cs,bZ,hd,hT,hx,_⟩:=cQ
 unfold kB.k9
 have:cB id (bC ops st o).r=true:=cd.2 (by
  simp only[bC]
  refine List.mem_append.2 (.inl (List.mem_flatten.2 ⟨[id],List.mem_map.2 ⟨([],[id]),List.mem_flatten.2 ⟨[([],[id])],List.mem_map.2 ⟨tx,List.mem_append.2 (.inl ?_),?_⟩,by simp⟩,rfl⟩,by simp⟩))
  ·simp[bZ,Op.operands,tmpsOf]
  ·simp[hx,Sv.cells,Cm.cells,Sc.names])
 rw[this];rfl
def Zi(P:Program)(g:Gh)(id:Nat)(o:Oper)(a:Act)(w:World):Prop:=
  ∃b off us el vs,g.rf id b∧w.heap[b]? =some (.cells us el (0,0))∧∀w':World,w'.heap[b]? =some (.cells us el (0,0))→(execOp a.eval o).run P w' = .ok .skip (w'.setRow b (putAt us off vs))
theorem kK(hE:E.Ok P)(I:Inv w0 Mf g st a w){id:Nat}(h:fA E st o=some (true,id)):
    o.guard=none∧o.dst=none∧(∃ T x y,o.op = .store T x y)∧aT st id∧Zi P g id o a w:=by
 replace h:=ia h;obtain⟨hg,h⟩:=h
 refine⟨Option.isNone_iff_eq_none.1 hg,?_⟩
 rcases h with ⟨h,_⟩ | ⟨aK,h,⟨T,tx,y,t,ver,iv,p,i,off,r,s,sv,cs,bZ,hd,hT,hx,hv,hn,hs,hle,RL,fc,hlen⟩⟩
 ·cases h
 cases h
 refine⟨hd,⟨T,_,y,bZ⟩,?_⟩
 obtain⟨ux,Zj,Zk⟩:=I.az tx _ hx
 obtain⟨sv',h',VA⟩:=I.dq RL
 cases h'
 obtain⟨vs,eM,pC⟩:=dr fc VA
 have Mr:vs.size=ao t:=by rw[pC.1];exact gB hlen
 obtain⟨_,Zl⟩:=Zk
 obtain⟨s',b,oo,n,cap,h1,h2,h3,h4⟩:=Zl.2 r hv.x
 have:=cV h1;rw[hs] at this;cases this
 have hle:=gT hle
 have dz:bp w (g.rf id) s.t s.xs (g.rv id p) (fun i j=>g.rv id (p++[(i,j)]))∧r.md.cq=false:=by
  have hr:=I.roots id r hv.1
  unfold aX at hr
  cases hm:r.md with
  |deep=>rw[hm] at hr;exact⟨hr.1 p s h1,rfl⟩
  |part k=>
   rw[hm] at hr hn
   cases k with
   |cur a b=>cases hn
   |hole p0=>
    have cc:p.length<p0.length:=by have:Nat.blt p.length p0.length=true:=hn;rwa [Nat.blt_eq] at this
    exact⟨hr.1 p s ((gI (by intro e;rw[e] at cc;simp at cc)).2 fun hp=>by have:=hp.length_le;omega) h1,rfl⟩
  |iZ=>rw[hm] at hn;cases hn
  |BQ=>rw[hm] at hn;cases hn
 obtain⟨dz,sJ⟩:=dz
 refine⟨⟨r,hv.1,sJ⟩,?_⟩
 rcases dz with ⟨h5,_⟩ | ⟨b',o',gU,us,el,h5,h6,h7,h8,h9,_⟩
 ·rw[h5] at h2;simp at h2
 ·rw[h3] at h5
  cases h5
  have hmul:i*ao s.t+ao s.t≤cap*ao s.t:=by
   have:(i+1)*ao s.t≤cap*ao s.t:=Nat.mul_le_mul_right _ (by omega)
   rw[Nat.add_mul] at this;omega
  refine⟨b,oo+i*ao s.t+off,us,el,vs,h6,h7,fun w' hb=> ?_⟩
  have ea:a.eval (.tmp tx) = .pointer (some ⟨b,oo+i*ao s.t+off,none⟩):=by
   rw[← h4];simp[Act.eval,Zj]
  have:=ni hE hT (off:=oo+i*ao s.t+off) hb eM Mr (by omega) pC.flat
  rw[iW (by omega)] at this
  simp[execOp,bZ,Instr.storeAt,ea,Instr.sureAddr,this]
theorem zZ(hE:E.Ok P)(I:Inv w0 Mf g st a w){n:Nat}(h:fA E st o=some (false,n)){d:Dl}(hd:eQ E o st some=some d):
    o.guard=none∧∃v,∀w':World,(execOp a.eval o).run P w' = .ok (.value v) w':=by
 replace h:=ia h;obtain⟨hg,h⟩:=h
 refine⟨Option.isNone_iff_eq_none.1 hg,?_⟩
 rcases h with ⟨h,⟨T,tx,i,id,ver,iv,p,bZ,hx⟩⟩ | ⟨aK,h,_⟩
 rotate_left
 ·cases h
 obtain⟨ux,Zj,Zk⟩:=I.az tx _ hx
 simp only[eQ,bZ,fu,dq,hx,Option.bind_some,Sc.soft] at hd
 obtain⟨m,hd,hn⟩:=I.getInt hd
 replace hd:=Option.bind_eq_some_iff.1 hd;obtain⟨e,he,hd⟩:=hd
 have hT:=fK he
 obtain⟨el,hu,lR⟩:=hE.slice hT
 replace hd:=de hd;obtain⟨ro,dh,hd⟩:=hd
 replace hd:=bg hd;obtain⟨xk,hd⟩:=hd
 replace hd:=Option.bind_eq_some_iff.1 hd;obtain⟨s,hs,hd⟩:=hd
 replace hd:=bg hd;obtain⟨_,hd⟩:=hd
 replace hd:=bg hd;obtain⟨hb,hd⟩:=hd
 simp only[Bool.and_eq_true,decide_eq_true_eq] at hb
 obtain⟨kF,je⟩:=Zk.2.2 ro dh.x
 obtain⟨s',eZ⟩:=Option.isSome_iff_exists.1 je
 have:=cV eZ;rw[hs] at this;cases this
 obtain⟨ad,cap,e1,_,hh⟩:=I.lj dh.1 xk eZ
 obtain⟨b,oo,cs,mc,fz,rfl,hP,X7,db⟩:=hh (fun mG=>by rw[mG] at hb;simp at hb;omega)
 have ea:a.eval (.tmp tx) = .slice (some ⟨b,oo,none⟩) s.xs.length cap:=by
  rw[← e1,←kF];simp[Act.eval,Zj]
 refine⟨.pointer (some ⟨b,oo+m.toNat*ao e,none⟩),fun w'=> ?_⟩
 simp[execOp,bZ,ea,hn,Instr.indexAt,asIntOf,run_underlying hu,hb.1,hb.2,hE.size lR,ez]
theorem vE(j:Nat)(W:List Nat):(cR ops j W).size=ops.size:=by simp[cR]
theorem fM(j:Nat)(W:List Nat)(i:Nat):(cR ops j W)[i]? =(ops[i]?).map fun o=>if i=j then hU W o else o:=by
 simp only[cR,Array.getElem?_modify]
 by_cases e:j=i
 ·subst e;simp
 ·simp only[e,if_false]
  cases ops[i]? <;>simp[Ne.symm e]
theorem nB{W:List Nat}{e:Edge}:e∈(hU W o).after↔e∈o.after∨∃v∈W,e={ on:=v,ground:= .data }:=by
 simp[hU,eq_comm]
theorem z6(j:Nat)(W:List Nat)(t:Array Value):yielded (cR ops j W) t=yielded ops t:=by
 funext i
 unfold yielded
 rw[fM]
 cases ops[i]? with
 |none=>rfl
 |some o=>by_cases e:i=j<;>simp[e,hU]
theorem Ng{j:Nat}{W:List Nat}{i:Nat}(h:wpOp P (cR ops j W) Q i K a w):wpOp P ops Q i K a w:=by
 unfold wpOp at *
 rw[fM,z6] at h
 cases ho:ops[i]? with
 |none=>rw[ho] at h;exact h
 |some o=>
  rw[ho] at h
  by_cases e:i=j
  ·simp only[Option.map_some,e,if_true] at h;exact h
  ·simp only[Option.map_some,e,if_false] at h;exact h
theorem GZ:∀{L:List Rec},(L.map (·.i)).Pairwise (· < ·)→∀x∈L,∀y∈L,x.i=y.i→x=y
 | [],_,_,h,_,_,_=>by cases h
 |z::L,hp,x,hx,y,hy,e=>by
  have Mp:(∀ y∈L,z.i<y.i)∧(L.map (·.i)).Pairwise (· < ·):=by simpa using hp
  rcases List.mem_cons.1 hx with h1 | h1<;>rcases List.mem_cons.1 hy with h2 | h2
  ·rw[h1,h2]
  ·have:=Mp.1 y h2;rw[h1] at e;omega
  ·have:=Mp.1 x h1;rw[h2] at e;omega
  ·exact GZ Mp.2 x h1 y h2 e
theorem G0(oD:nq 0 ops.toList=true){j:Nat}(ho:ops[j]? =some o){x:Nat}(h:Nat.testBit ((eC ops).getD j 0) x=true):x<j:=by
 have cc:∀(i:Nat) o,ops[i]? =some o→∀e∈o.after,Region.binds .any e=true→e.on<i:=fun i o h e he hb=>by
  have:=kJ oD i o (by simpa using h) e he hb
  omega
 have:=gO (ops:=ops) (t:=fun i=>decide (i<j)) (fun i o h1 h2 e he hb=>by
  have:=cc i o h1 e he hb
  simp only[decide_eq_true_eq] at h2 ⊢;omega) (j+1) j (by omega) o ho (fun e he hb=>by have:=cc j o ho e he hb;simpa using this) x h
 simpa using this
theorem ya.uniq{id aK:Nat}(h:ya E st o id)(h':ya E st o aK):id=aK:=by
 obtain⟨T,tx,y,t,ver,iv,p,i,off,r,s,sv,cs,bZ,hd,hT,hx,_⟩:=h
 obtain⟨T',tx',y',t',Gc,iv',p',i',adq,r',s',sv',m0,VB,GQ,BY,kF,_⟩:=h'
 rw[bZ] at VB;cases VB
 rw[hx] at kF;cases kF
 rfl
theorem ry(j:Nat)(W:List Nat)(o:Oper):fr (cR ops j W) o=fr ops o:=by
 unfold fr
 split
 ·rfl
 ·rename_i i _ _
  rw[fM]
  cases ops[i]? with
  |none=>rfl
  |some o=>by_cases e:i=j<;>simp[e,hU]
theorem tX(j:Nat)(W:List Nat)(st:St)(o:Oper):eJ (cR ops j W) st o=eJ ops st o:=by
 unfold eJ bC
 rw[ry]
theorem Fact.late{L:List Rec}{x:Rec}{j:Nat}{W:List Nat}(h:Fact E ops st0 L x):Fact E (cR ops j W) st0 L x:=by
 obtain⟨o,s1,ho,hD,hu,hm,hL,hl⟩:=h
 have hD':zm E (cR ops j W) o s1 x.d:=by
  unfold zm at hD ⊢
  split at hD
  ·exact hD
  ·rw[ry];exact hD
 by_cases e:x.i=j
 ·exact⟨hU W o,s1,by rw[fM,ho];simp[e],hD',by rw[hu];exact (tX j W s1 o).symm,hm,hL,hl⟩
 ·exact⟨o,s1,by rw[fM,ho];simp[e],hD',by rw[hu,tX],hm,hL,hl⟩
structure G4 (ops:Array Oper) (L:List Rec) (j:Nat) (W:List Nat) (oj:Oper) (id:Nat):Prop where
 get:ops[j]? =some oj
 lt:∀y∈L,y.i=j→y.lt=some (true,id)
 x:∀x∈L,x.i∈W→xV (tmpsOf oj.op.operands.toList) id x=true
 d:∀v∈W,∀o d,ops[v]? =some o→o.dst=some d→d ∉ tmpsOf oj.op.operands.toList
 rest:∀i,i<ops.size→i ∉ W→i≠j→Nat.testBit ((eC ops).getD j 0) i=true∨∀v∈W,Nat.testBit ((eC ops).getD i 0) v=true
theorem D8{L:List Rec}{j:Nat}{W:List Nat}(Uy:(L.map (·.i)).Pairwise (· < ·))(h:zT ops L.reverse j W=true)(hj:∃y∈L,y.i=j):∃oj id,G4 ops L j W oj id:=by
 unfold zT at h
 split at h
 ·cases h
 ·rename_i oj Vw
  simp only[Bool.and_eq_true,List.all_eq_true,List.mem_reverse,Bool.or_eq_true,Bool.not_eq_true'] at h
  obtain⟨⟨h1,h2⟩,h3⟩:=h
  obtain⟨y0,hy0,VC⟩:=hj
  have key:∀y∈L,y.i=j→∃id,y.lt=some (true,id)∧∀x∈L,x.i∈W→xV (tmpsOf oj.op.operands.toList) id x=true:=by
   intro y hy Zm
   have:=(h1 y hy).resolve_left (by rw[Zm,Nat.beq_refl];simp)
   split at this
   ·rename_i id cc
    refine⟨id,cc,fun x hx hxW=> ?_⟩
    simp only[List.all_eq_true,List.mem_reverse,Bool.or_eq_true,Bool.not_eq_true'] at this
    exact (this x hx).resolve_left (by rw[cd.2 hxW];simp)
   ·cases this
  obtain⟨id,cQ,hX⟩:=key y0 hy0 VC
  refine⟨oj,id,Vw,fun y hy Zm=> ?_,hX,fun v hv o d ho hd=> ?_,fun i hi RV vl=> ?_⟩
  ·rw[GZ Uy y hy y0 hy0 (Zm.trans VC.symm)];exact cQ
  ·have:=h2 v hv
   rw[ho] at this
   simp only[hd] at this
   intro hm
   rw[cd.2 hm] at this
   cases this
  ·rcases h3 i (by simpa using hi) with h | h | h | h
   ·exact absurd (cd.1 h) RV
   ·exact absurd (gB h) vl
   ·exact .inl h
   ·exact .inr (by simpa using h)
def Norm(w0:World)(Mf:Nat→Prop)(n:Fx)(J:Array Value→Prop)(z7:Array Oper)(st0:St)(L:List Rec)(aE:Array Bool)(a:Act)(w:World):Prop:=
  ∃g σ,rl z7 (fun i=>aE.getD i false)∧g.n=n∧J a.tmps∧Lk st0 (fun x=>aE.getD x.i false) L σ∧Inv w0 Mf g σ a w
def RW(P:Program)(w0:World)(Mf:Nat→Prop)(n:Fx)(J:Array Value→Prop)(z7:Array Oper)(st0:St)(L:List Rec)(j:Nat)(W:List Nat)(oj:Oper)(aE:Array Bool)(a:Act)(w:World):Prop:=
  ∃(lm:Array Bool)(g:Gh)(σ:St)(w1:World),lm.size=z7.size∧rl z7 (fun i=>lm.getD i false)∧lm.getD j false=false∧aE.getD j false=true∧(∀ i,i≠j→lm.getD i false=aE.getD i false)∧g.n=n∧J a.tmps∧
    Lk st0 (fun x=>lm.getD x.i false) L σ∧Inv w0 Mf g σ a w1∧(execOp a.eval oj).run P w1 = .ok .skip w
theorem z8(hE:E.Ok P)(hN:E.jV){J:Array Value→Prop}(Ci:∀o∈ops.toList,ny J o){n:Fx}(hW:sP P n.wl)(hd:∀o∈ops.toList,∀d,o.dst=some d→d<n.sz)
    {j:Nat} {W:List Nat} (VD:∀v∈W,v<j) (hWa:∀i,i<j→i ∉ W→Nat.testBit ((eC ops).getD j 0) i=true)
    {L:List Rec} {GV:St} (zn:L.map (·.i)=List.range ops.toList.length)
 (hF:∀x∈L,Fact E (cR ops j W) st0 L x) (Uz:Lk st0 (fun _=>true) L GV) (oD:nq 0 ops.toList=true) (tf:lv (cR ops j W) L.reverse=true)
    {oj:Oper} {id:Nat} (hO:G4 ops L j W oj id)
 (hK:∀g' a' w',g'.n=n→Inv w0 Mf g' GV a' w'→J a'.tmps→Q .normal a' w'):
    ∀(fuel:Nat)(aE:Array Bool){a:Act}{w:World},aE.size=ops.size→rl ops (fun j=>aE.getD j false)→Ux ops aE≤fuel→
 (Norm w0 Mf n J (cR ops j W) st0 L aE a w∨((∃ v∈W,aE.getD v false=false)∧RW P w0 Mf n J (cR ops j W) st0 L j W oj aE a w))→wpAny P .any ops Q fuel aE a w:=by
 have dQ:=vE (ops:=ops) j W
 have RX:L.map (·.i)=List.range (cR ops j W).toList.length:=by rw[zn];simp[dQ]
 have cc:∀x∈L,x.i<ops.size:=fun x hx=>by
  have:x.i∈L.map (·.i):=List.mem_map.2 ⟨x,hx,rfl⟩
  rw[zn] at this;simpa using this
 have Zn:j<ops.size:=(Array.getElem?_eq_some_iff.1 hO.get).1
 have G5:∀i,i<ops.size→∃x∈L,x.i=i:=fun i hi=>by
  have:i∈L.map (·.i):=by rw[zn];simpa using hi
  simpa using this
 obtain⟨xj,Yo,Nh⟩:=G5 j Zn
 have jP:∀i o,ops[i]? =some o→i≠j→(cR ops j W)[i]? =some o:=fun i o ho hi=>by rw[fM,ho];simp[hi]
 have Cr:(cR ops j W)[j]? =some (hU W oj):=by rw[fM,hO.get];simp
 have hJj:ny J oj:=Ci oj (by simpa using Array.mem_of_getElem? hO.get)
 have final:∀{aE:Array Bool}{a:Act}{w:World},(∀ i,i<ops.size→aE.getD i false=true)→
   (Norm w0 Mf n J (cR ops j W) st0 L aE a w∨((∃ v∈W,aE.getD v false=false)∧RW P w0 Mf n J (cR ops j W) st0 L j W oj aE a w))→Q .normal a w:=by
  intro aE a w dm h
  rcases h with ⟨g,σ,_,hg,zo,hL,I⟩ | ⟨⟨v,hv,tG⟩,_⟩
  ·exact hK g a w hg (((hL.congr fun x hx=>dm x.i (cc x hx)).eq Uz).inv I) zo
  ·rw[dm v (by have:=VD v hv;omega)] at tG;cases tG
 -- the late store, where all is done that it should come behind
 have close:∀{lm:Array Bool}{g:Gh}{σ:St}{a:Act}{w1 w:World},lm.size=ops.size→rl (cR ops j W) (fun i=>lm.getD i false)→lm.getD j false=false→(∀ e∈oj.after,Region.binds .any e=true→lm.getD e.on false=true)→(∀ v∈W,lm.getD v false=true)→
   g.n=n→J a.tmps→Lk st0 (fun x=>lm.getD x.i false) L σ→Inv w0 Mf g σ a w1→(execOp a.eval oj).run P w1 = .ok .skip w→Norm w0 Mf n J (cR ops j W) st0 L (lm.setIfInBounds j true) a w:=by
  intro lm g σ a w1 w hs ke h0 dm VE hg zo hL I dM
  have km:∀e∈(hU W oj).after,Region.binds .any e=true→lm.getD e.on false=true:=fun e he hb=>by
   rcases nB.1 he with he | ⟨v,hv,rfl⟩
   ·exact dm e he hb
   ·exact VE v hv
  subst Nh
  obtain⟨s1,A,hl,hD,P5⟩:=nA hN RX hF tf (by rw[hs,dQ]) ke Yo h0 Cr km hL
  have Zo:fA E s1 (hU W oj)=some (true,id):=hl.symm.trans (hO.lt xj Yo rfl)
  obtain⟨VF,jg,_,_,_⟩:=kK (o:=hU W oj) hE I (ru A Zo)
  unfold zm at hD
  rw[VF] at hD
  simp only at hD
  have:=kg (Q:=Q) (K:=fun a' w'=>a'=a→∃g',g'.n=n∧Inv w0 Mf g' (σ.apply xj.d) a w') hE (by rw[hg];exact hW) I (fun d GQ=>by rw[jg] at GQ;cases GQ) (fun δ g' a' w' h1 h2 h3=>by
   cases h1
   intro e
   subst e
   exact⟨g',h2.trans hg,h3⟩) hD
  unfold Oper.wp at this
  have Cs:(execOp a.eval (hU W oj)).run P w1 = .ok .skip w:=dM
  rw[Cs,Oper.upon_skip,jg] at this
  obtain⟨g',mw,I'⟩:=this rfl
  exact⟨g',_,lz (by rw[hs];exact Zn) ke Cr km,mw,zo,P5,I'⟩
 have after:∀{aE:Array Bool},rl ops (fun i=>aE.getD i false)→∀{v:Nat},v∈W→aE.getD v false=false→∀y,j<y→y<ops.size→aE.getD y false=false:=by
  intro aE ke v hv Mt y hy Ge
  cases rq:aE.getD y false with
  |false=>rfl
  |true=>
   obtain⟨oy,Vy⟩:∃oy,ops[y]? =some oy:=⟨_,Array.getElem?_eq_getElem Ge⟩
   rcases hO.rest y Ge (fun Ni=>by have:=VD y Ni;omega) (by omega) with fl | fl
   ·have:=G0 oD hO.get fl;omega
   ·have:=gO ke (y+1) y (by omega) oy Vy (fun e he hb=>ke y oy Vy rq e he hb) v (fl v hv)
    simp only[Mt] at this
    cases this
 have atJ:∀{lm:Array Bool}{σ:St},(∀ y,y<j→y ∉ W→lm.getD y false=true)→lm.getD j false=false→(∀ y,j<y→y<ops.size→lm.getD y false=false)→Lk st0 (fun x=>lm.getD x.i false) L σ→fA E σ oj=some (true,id):=by
  intro lm σ h1 h2 h3 hL
  obtain⟨o1,s1,ho1,_,_,_,P4,Mu⟩:=hF xj Yo
  rw[Nh,Cr] at ho1;cases ho1
  have Mu:fA E s1 oj=some (true,id):=Mu.symm.trans (hO.lt xj Yo Nh)
  have hX:∀y∈L,Nat.blt y.i xj.i≠lm.getD y.i false→(∀ n∈y.d.lu,cB n (tmpsOf oj.op.operands.toList)=false)∧∀n∈y.d.jT,Nat.beq n id=false:=by
   intro y hy dP
   have Ni:y.i∈W:=by
    rw[Nh] at dP
    rcases Nat.lt_trichotomy y.i j with h | h | h
    ·have hb:Nat.blt y.i j=true:=by rw[Nat.blt_eq];exact h
     rw[hb] at dP
     exact Classical.byContradiction fun Ni=>dP (h1 y.i h Ni).symm
    ·exfalso
     have hb:Nat.blt y.i j=false:=by
      cases hb:Nat.blt y.i j with
      |false=>rfl
      |true=>rw[Nat.blt_eq] at hb;omega
     rw[hb,h,h2] at dP
     exact dP rfl
    ·exfalso
     have hb:Nat.blt y.i j=false:=by
      cases hb:Nat.blt y.i j with
      |false=>rfl
      |true=>rw[Nat.blt_eq] at hb;omega
     rw[hb,h3 y.i h (cc y hy)] at dP
     exact dP rfl
   have:=hO.x y hy Ni
   unfold xV at this
   simp only[Bool.and_eq_true,List.all_eq_true,Bool.not_eq_true'] at this
   exact this.2
  refine o8 (st:=s1) (fun t ht=> ?_) (fun aK FQ=> ?_) Mu
  ·rw[hL.s t,P4.s t]
   refine (eg fun y hy dP=>GR fun hm=> ?_).symm
   have:=(hX y hy dP).1 t hm
   rw[cd.2 (by simp only[tmpsOf,List.mem_filterMap];exact⟨_,ht,rfl⟩)] at this
   cases this
  ·have:aK=id:=by
    rcases (ia Mu).2 with ⟨h,_⟩ | ⟨i2,h,h'⟩
    ·cases h
    ·cases h;exact FQ.uniq h'
   subst this
   rw[hL.r aK,P4.r aK]
   refine (eg fun y hy dP=>tV fun hm=> ?_).symm
   have:=(hX y hy dP).2 aK hm
   rw[Nat.beq_refl] at this
   cases this
 intro fuel
 induction fuel with
 |zero=>
  intro aE a w hs ke hc h
  have dm:∀i,i<ops.size→aE.getD i false=true:=by
   intro i hi
   cases hl:aE.getD i false with
   |true=>rfl
   |false=>
    have:0<Ux ops aE:=List.countP_pos_iff.2 ⟨i,by simpa using hi,by simp only[hl];rfl⟩
    omega
  refine⟨?_,final dm h⟩
  cases hr:Region.ready .any ops aE with
  |nil=>rfl
  |cons i rest=>
   have:i∈Region.ready .any ops aE:=by rw[hr];simp
   obtain⟨h0,o,ho,_⟩:=mem_ready.1 this
   have hi:i<ops.size:=(Array.getElem?_eq_some_iff.1 ho).1
   rw[kl (by omega),dm i hi] at h0
   cases h0
 |succ fuel ih=>
  intro aE a w hs ke hc h
  refine⟨fun hr=>final (fun i hi=>mL oD hs hr (i+1) i (by omega) hi) h,fun i hi=> ?_⟩
  obtain⟨h0,o,ho,dm⟩:=mem_ready.1 hi
  have RU:i<ops.size:=(Array.getElem?_eq_some_iff.1 ho).1
  rw[kl (by omega)] at h0
  have dm:∀e∈o.after,Region.binds .any e=true→aE.getD e.on false=true:=dm
  have qC:i<aE.size:=by omega
  have Zp:ny J o:=Ci o (by simpa using Array.mem_of_getElem? ho)
  have Yp:∀d,o.dst=some d→d<n.sz:=hd o (by simpa using Array.mem_of_getElem? ho)
  have Zq:∀{a:Act}{w:World},(Norm w0 Mf n J (cR ops j W) st0 L (aE.setIfInBounds i true) a w∨((∃ v∈W,(aE.setIfInBounds i true).getD v false=false)∧RW P w0 Mf n J (cR ops j W) st0 L j W oj (aE.setIfInBounds i true) a w))→
    wpAny P .any ops Q fuel (aE.setIfInBounds i true) a w:=fun h=>ih _ (by simp[hs]) (lz qC ke ho dm) (by have:=Cp qC RU h0;omega) h
  obtain⟨xi,UA,rfl⟩:=G5 i RU
  rcases h with ⟨g,σ,RY,hg,zo,hL,I⟩ | ⟨⟨v0,Yq,tG⟩,lm,g,σ,w1,Nd,VG,hmj,UB,Nj,hg,zo,hL,I,dM⟩
  ·-- in order so far
   by_cases P6:xi.i=j∧∃v∈W,aE.getD v false=false
   ·obtain⟨rfl,Zr⟩:=P6
    have sH:=ho
    rw[hO.get] at sH;cases sH
    obtain⟨v,hv,Mt⟩:=Zr
    have Zs:=atJ (lm:=aE) (fun y hy Ni=>gO ke (xi.i+1) xi.i (by omega) oj ho dm y (hWa y hy Ni)) h0 (fun y hy Ge=>after ke hv Mt y hy Ge) hL
    obtain⟨VF,jg,_,_,b,off,us,el,vs,Yr,xR,yb⟩:=kK hE I Zs
    unfold wpOp
    rw[ho]
    simp only[Region.wanted,VF,if_true]
    refine .inl (kI jg (yb w xR) (Zq (.inr ⟨?_,aE,g,σ,w,by rw[hs,dQ],RY,h0,?_,fun i hi=> ?_,hg,zo,hL,I,yb w xR⟩)))
    ·exact⟨v,hv,by rw[eK qC,if_neg (by have:=VD v hv;omega)];exact Mt⟩
    ·rw[eK qC];simp
    ·rw[eK qC,if_neg hi]
   ·have hgo:∃o',(cR ops j W)[xi.i]? =some o'∧(∀ e∈o'.after,Region.binds .any e=true→aE.getD e.on false=true)∧ny J o'∧∀d,o'.dst=some d→d<n.sz:=by
     by_cases e:xi.i=j
     ·have Ct:∀v∈W,aE.getD v false=true:=fun v hv=>by
       cases FK:aE.getD v false with
       |true=>rfl
       |false=>exact absurd ⟨e,v,hv,FK⟩ P6
      have Ys:=ho
      rw[e,hO.get] at Ys;cases Ys
      refine⟨hU W oj,by rw[e];exact Cr,fun e he hb=> ?_,Zp,Yp⟩
      rcases nB.1 he with he | ⟨v,hv,rfl⟩
      ·exact dm e he hb
      ·exact Ct v hv
     ·exact⟨o,jP xi.i o ho e,dm,Zp,Yp⟩
    obtain⟨o',sH,km,pT,GQ⟩:=hgo
    obtain⟨s1,A,_,hD,P5⟩:=nA hN RX hF tf (by rw[hs,dQ]) RY UA h0 sH km hL
    refine Ng (j:=j) (W:=W) (oC hE (by rw[hg];exact hW) pT zo I (fun d h=>by rw[hg];exact GQ d h) sH hD fun g' a' w' mw I' D7=>Zq (.inl ⟨g',_,lz qC RY sH km,mw.trans hg,D7,P5,I'⟩))
  ·-- the store is done already
   have vl:xi.i≠j:=fun e=>by rw[e,UB] at h0;cases h0
   have RV:xi.i∈W:=by
    refine Classical.byContradiction fun RV=> ?_
    rcases hO.rest xi.i RU RV vl with hb | hb
    ·have:=gO ke (j+1) j (by omega) oj hO.get (fun e he hb=>ke j oj hO.get UB e he hb) xi.i hb
     simp only[h0] at this;cases this
    ·have:=gO ke (xi.i+1) xi.i (by omega) o ho dm v0 (hb v0 Yq)
     simp only[tG] at this;cases this
   have abv:=VD _ RV
   have sH:=jP xi.i o ho vl
   have RT:∀i' Yt,ops[i']? =some Yt→i'≤j→∀e∈Yt.after,Region.binds .any e=true→e.on<i':=fun i' Yt h1 h2 e he hb=>by
    have:=kJ oD i' Yt (by simpa using h1) e he hb
    omega
   have P7:lm.getD xi.i false=false:=by rw[Nj _ vl];exact h0
   have km:∀e∈o.after,Region.binds .any e=true→lm.getD e.on false=true:=fun e he hb=>by
    rw[Nj _ (by have:=RT _ o ho (by omega) e he hb;omega)]
    exact dm e he hb
   have VH:lm.size=ops.size:=by rw[Nd,dQ]
   have VI:xi.i<lm.size:=by omega
   obtain⟨s1,A,hl,hD,P5⟩:=nA hN RX hF tf Nd VG UA P7 sH km hL
   have hX:=hO.x xi UA RV
   unfold xV at hX
   simp only[Bool.and_eq_true] at hX
   -- the late store, at the state ahead of it
   have VJ:=lz VI VG sH km
   have pG:=eK qC
   have yc:=eK VI
   have P8:∀{g':Gh}{a':Act}{Yu w':World},g'.n=n→J a'.tmps→Inv w0 Mf g' (σ.apply xi.d) a' Yu→(execOp a'.eval oj).run P Yu = .ok .skip w'→wpAny P .any ops Q fuel (aE.setIfInBounds xi.i true) a' w':=by
    intro g' a' Yu w' mw D7 I' Cs
    refine Zq ?_
    have VK:(lm.setIfInBounds xi.i true).getD j false=false:=by rw[yc,if_neg (Ne.symm vl)];exact hmj
    by_cases Ct:∀v∈W,(lm.setIfInBounds xi.i true).getD v false=true
    ·left
     have hN':=close (lm:=lm.setIfInBounds xi.i true) (by simp[VH]) VJ VK (fun e he hb=>by
      have nf:=RT j oj hO.get (Nat.le_refl _) e he hb
      have h1:aE.getD e.on false=true:=ke j oj hO.get UB e he hb
      rw[yc]
      by_cases e':e.on=xi.i
      ·rw[if_pos e']
      ·rw[if_neg e',Nj _ (by omega)];exact h1) Ct mw D7 P5 I' Cs
     obtain⟨g3,σ3,k1,k2,k3,k4,k5⟩:=hN'
     have heq:∀i,((lm.setIfInBounds xi.i true).setIfInBounds j true).getD i false=(aE.setIfInBounds xi.i true).getD i false:=fun i=>by
      rw[eK (by simp[VH];exact Zn),yc,pG]
      by_cases e:i=j
      ·subst e;rw[if_pos rfl,if_neg (Ne.symm vl),UB]
      ·rw[if_neg e]
       by_cases e':i=xi.i
       ·rw[if_pos e',if_pos e']
       ·rw[if_neg e',if_neg e',Nj _ e]
     refine⟨g3,σ3,fun i o h1 h2 e he hb=> ?_,k2,k3,k4.congr fun x _=>heq x.i,k5⟩
     have:=k1 i o h1 (by simp only at h2 ⊢;rw[heq];exact h2) e he hb
     simp only at this ⊢
     rw[← heq];exact this
    ·right
     have:∃v∈W,(lm.setIfInBounds xi.i true).getD v false=false:=Classical.byContradiction fun Zt=>Ct fun v hv=>by
      cases FK:(lm.setIfInBounds xi.i true).getD v false with
      |true=>rfl
      |false=>exact absurd ⟨v,hv,FK⟩ Zt
     obtain⟨v,hv,Mt⟩:=this
     have hvj:v≠j:=by have:=VD v hv;omega
     refine⟨⟨v,hv,?_⟩,lm.setIfInBounds xi.i true,g',_,Yu,by simp[Nd],VJ,VK,?_,fun i hi=> ?_,mw,D7,P5,I',Cs⟩
     ·rw[pG];rw[yc] at Mt
      by_cases e:v=xi.i
      ·rw[if_pos e] at Mt;cases Mt
      ·rw[if_neg e] at Mt ⊢;rw[← Nj _ hvj];exact Mt
     ·rw[pG,if_neg (Ne.symm vl)];exact UB
     ·rw[yc,pG,Nj _ hi]
   have Zs:=atJ (lm:=lm) (fun y hy Ni=>by
    rw[Nj y (by omega)]
    exact gO ke (j+1) j (by omega) oj hO.get (fun e he hb=>ke j oj hO.get UB e he hb) y (hWa y hy Ni)) hmj (fun y hy Ge=>by rw[Nj y (by omega)];exact after ke Yq tG y hy Ge) hL
   obtain⟨adw,abw,⟨T,x,y,RZ⟩,dO,b,off,us,el,vs,Yr,xR,yb⟩:=kK hE I Zs
   have hw:w=w1.setRow b (putAt us off vs):=by
    rw[yb w1 xR] at dM
    cases dM;rfl
   unfold wpOp
   rw[ho]
   cases hq:xi.lt with
   |none=>rw[hq] at hX;exact absurd hX.1 (by simp)
   |some bq=>
    obtain⟨b1,RS⟩:=bq
    have VL:fA E σ o=some (b1,RS):=ru A (hl.symm.trans hq)
    have hgi:=Option.isNone_iff_eq_none.1 (ia VL).1
    unfold zm at hD
    rw[hgi] at hD
    simp only at hD
    simp only[Region.wanted,hgi,if_true]
    left
    cases b1 with
    |false=>
     obtain⟨_,v,hv⟩:=zZ hE I VL hD
     have:=kg (Q:=Q) (K:=fun a' w'=>a'=a.put o.dst v→w'=w1→∃g',g'.n=n∧Inv w0 Mf g' (σ.apply xi.d) (a.put o.dst v) w1) hE (by rw[hg];exact hW) I (fun d h=>by rw[hg];exact Yp d h) (fun δ g' a' w' h1 h2 h3=>by
      cases h1
      intro e1 e2
      subst e1;subst e2
      exact⟨g',h2.trans hg,h3⟩) hD
     unfold Oper.wp at this ⊢
     rw[hv,Oper.upon_value] at this ⊢
     obtain⟨g',mw,I'⟩:=this rfl rfl
     refine P8 mw (Zp a v zo) I' ?_
     have UC:∀z∈oj.op.operands.toList,(a.put o.dst v).eval z=a.eval z:=fun z hz=>Act.eval_put fun d GQ e=>by
      subst e
      exact hO.d _ RV o d ho GQ (by simp only[tmpsOf,List.mem_filterMap];exact⟨_,hz,rfl⟩)
     rw[← dM]
     simp only[execOp,RZ,UC x (by simp[RZ,Op.operands]),UC y (by simp[RZ,Op.operands])]
    |true=>
     rw[hq] at hX
     have dP:RS≠id:=fun e=>by
      subst e
      have:=hX.1
      simp only[Nat.beq_refl] at this
      cases this
     obtain⟨_,VM,_,VN,b2,VO,Zb,MJ,vs2,U6,mh,P9⟩:=kK hE I VL
     have M5:b≠b2:=fun e=>by
      subst e
      exact dP (I.apart.rr RS id b VN dO U6 Yr)
     have:=kg (Q:=Q) (K:=fun a' w'=>a'=a→w'=w1.setRow b2 (putAt Zb VO vs2)→∃g',g'.n=n∧Inv w0 Mf g' (σ.apply xi.d) a (w1.setRow b2 (putAt Zb VO vs2))) hE (by rw[hg];exact hW) I (fun d h=>by rw[hg];exact Yp d h) (fun δ g' a' w' h1 h2 h3=>by
      cases h1
      intro e1 e2
      subst e1;subst e2
      exact⟨g',h2.trans hg,h3⟩) hD
     unfold Oper.wp at this
     rw[P9 w1 mh,Oper.upon_skip,VM] at this
     obtain⟨g',mw,I'⟩:=this rfl rfl
     refine kI VM (P9 w (by rw[hw,setRow_other _ _ _ _ (Ne.symm M5)];exact mh)) (P8 mw zo I' ?_)
     rw[yb _ (by rw[setRow_other _ _ _ _ M5];exact xR),hw,x9 _ _ _ M5]
theorem vF(hE:E.Ok P)(hN:E.jV)(hW:sP P g.n.wl){J:Array Value→Prop}(Ci:∀o∈ops.toList,ny J o)(hJ:J a.tmps)(I:Inv w0 Mf g st a w){id:Nat}{draw:Bool}(hd:∀o∈ops.toList,∀d,o.dst=some d→d<g.n.sz){k:St→Option R}{r:R}(h:qY E ops draw st k=some r)
 (hK:∀g' aI a' w',k aI=some r→g'.n=g.n→Inv w0 Mf g' aI a' w'→J a'.tmps→Q .normal a' w'):(Code.region id ops draw).wp P Q a w:=by
 cases draw with
 |false=>
  refine wp_region ?_
  have:=tU (ops:=ops) (Q:=Q) hE hN Ci hW hd hK ops.toList 0 rfl h rfl I hJ
  rw[List.range_eq_range']
  simpa using this
 |true=>
  refine wp_region_any hE.ord ?_
  simp only[qY,cond_true] at h
  have o9:∀(L:List Rec),Lk st (fun x=>(Array.replicate ops.size false).getD x.i false) L st:=fun L=>by
   have hz:∀x:Rec,(Array.replicate ops.size false).getD x.i false=false:=fun x=>by
    simp only[Array.getD_eq_getD_getElem?,Array.getElem?_replicate];split<;>rfl
   exact⟨fun m=>(kj fun x _ hx=>by simp only[hz] at hx;cases hx).symm,fun m=>(kj fun x _ hx=>by simp only[hz] at hx;cases hx).symm,fun m=>(kj fun x _ hx=>by simp only[hz] at hx;cases hx).symm,fun m=>(kj fun x _ hx=>by simp only[hz] at hx;cases hx).symm⟩
  have G6:∀{z7:Array Oper},rl z7 (fun i=>(Array.replicate ops.size false).getD i false):=fun {z7} j o ho hj=>by
   have:(Array.replicate ops.size false).getD j false=false:=by simp only[Array.getD_eq_getD_getElem?,Array.getElem?_replicate];split<;>rfl
   simp only at hj;rw[this] at hj;cases hj
  obtain⟨L,GV,zn,hF,Uz,hk⟩:=x6 (st0:=st) hN ops.toList 0 (k:=fun rs st=>cond (nq 0 ops.toList&&(lv ops rs||vy ops rs)) (k st) none) [] rfl (Nat.zero_le _) rfl ⟨fun _=>rfl,fun _=>rfl,fun _=>rfl,fun _=>rfl⟩ (fun x hx=>by cases hx) h
  obtain⟨hc,hk⟩:=bg hk
  simp only[Bool.and_eq_true,Bool.or_eq_true] at hc
  obtain⟨oD,hc⟩:=hc
  rcases hc with hc | hc
  ·exact D6 hE hN Ci hW hd zn hF Uz oD hc (fun g' a' w' hg I' pT=>hK g' GV a' w' hk hg I' pT) ops.size _ (by simp) G6 (Nat.le_trans List.countP_le_length (by simp)) rfl hJ ⟨st,o9 L,I.drawn _⟩
  ·unfold vy at hc
   split at hc
   ·rename_i j hj
    generalize hWe:Cd (eC ops) j=W at hc
    simp only[Bool.and_eq_true] at hc
    have DF:j<ops.size:=by
     unfold P1 at hj
     obtain⟨y,hy,rfl⟩:=Option.map_eq_some_iff.1 hj
     have hm:=List.mem_of_find?_eq_some hy
     simp only[List.reverse_reverse] at hm
     have:y.i∈L.map (·.i):=List.mem_map.2 ⟨y,hm,rfl⟩
     rw[zn] at this;simpa using this
    obtain⟨oj,id,hO⟩:=D8 (by rw[zn];exact List.pairwise_lt_range) hc.2 (by
     have:j∈L.map (·.i):=by rw[zn];simpa using DF
     simpa using this)
    have hWm:∀i,i∈W↔i<j∧Nat.testBit ((eC ops).getD j 0) i=false:=fun i=>by
     rw[← hWe];simp[Cd]
    exact z8 hE hN Ci hW hd (fun v hv=>((hWm v).1 hv).1) (fun i h1 h2=>by
     cases hb:Nat.testBit ((eC ops).getD j 0) i with
     |true=>rfl
     |false=>exact absurd ((hWm i).2 ⟨h1,hb⟩) h2) zn (fun x hx=>(hF x hx).late) Uz oD hc.1 hO (fun g' a' w' hg I' pT=>hK g' GV a' w' hk hg I' pT) ops.size _ (by simp) G6 (Nat.le_trans List.countP_le_length (by simp))
     (.inl ⟨g,st,G6,rfl,hJ,o9 L,I.drawn _⟩)
   ·cases hc
end Go.Gm
namespace Go.Gm
open Go
variable {w0 w : World} {Mf : Nat → Prop} {g : Gh} {st cl : St} {a : Act}
section
variable {α β : Type}
theorem gw(p:Nat→Bool):∀(l:List (Nat×α))(n:Nat),ak (l.filter fun x=>p x.1) n=cond (p n) (ak l n) none
  | [],n=>by simp[ak]
  | (m,v)::l,n=>by
    simp only[List.filter_cons]
    by_cases e:n=m
    · subst e
      cases hp:p n with
      |true=>simp[ak]
      |false=>simp only[Bool.false_eq_true,if_false,cond_false];rw[gw p l n,hp];rfl
    · have hb:Nat.beq n m=false:=MB e
      cases hp:p m with
      |true=>simp only[if_true,ak,hb,cond_false];exact gw p l n
      |false=>simp only[Bool.false_eq_true,if_false,ak,hb,cond_false];exact gw p l n
theorem lA(f:α→β):∀(l:List (Nat×α))(n:Nat),ak (l.map fun x=>(x.1,f x.2)) n=(ak l n).map f
  | [],n=>rfl
  | (m,v)::l,n=>by
    simp only[List.map_cons,ak]
    cases Nat.beq n m with
    |true=>rfl
    |false=>simp only[cond_false];exact lA f l n
theorem eV:∀{l:List (Nat×α)}{n:Nat}{v:α},ak l n=some v→(n,v)∈l
  | (m,u)::l,n,v,h=>by
    simp only[ak] at h
    cases hb:Nat.beq n m with
    |true=>rw[hb] at h;cases h;rw[gB hb];simp
    |false=>rw[hb] at h;exact List.mem_cons_of_mem _ (eV h)
theorem tY:∀{l:List (Nat×α)}{n:Nat},n∈l.map (·.1)→(ak l n).isSome
  | (m,u)::l,n,h=>by
    simp only[ak]
    cases hb:Nat.beq n m with
    |true=>rfl
    |false=>
      have:n≠m:=fun e=>by subst e;simp at hb
      simp only[cond_false]
      exact tY (by simpa [this] using h)
end
theorem cG.Aa{f:Sc→Sc}{cs:List Sc}{us:Array Value}(h:cG w g st cs us)(hf:∀c u,c∈cs→bf w g st c u→bf w g cl (f c) u):cG w g cl (cs.map f) us:=by
 refine⟨by simp[h.1],fun j c hc=> ?_⟩
 obtain⟨c0,h0,rfl⟩:∃c0,cs[j]? =some c0∧f c0=c:=by simpa using hc
 obtain⟨z,hz,hr⟩:=h.2 j c0 h0
 exact⟨z,hz,hf c0 z (List.mem_of_getElem? h0) hr⟩
theorem gH.Aa{f:Sc→Sc}{x:Cm}{u:Value}(h:gH w g st x u)(hf:∀c u,c∈x.cells→bf w g st c u→bf w g cl (f c) u):gH w g cl (x.map f) u:=by
 cases x with
 |one c=>exact hf c u (by simp[Cm.cells]) h
 |agg cs=>obtain⟨us,e,h⟩:=h;exact⟨us,e,h.Aa hf⟩
theorem dX.Aa{f:Sc→Sc}{x:Sv}{u:Value}(h:dX w g st x u)(hf:∀c u,c∈x.cells→bf w g st c u→bf w g cl (f c) u):dX w g cl (x.map f) u:=by
 cases x with
 |c x=>exact gH.Aa h hf
 |tu vs=>
  obtain⟨us,e,hl,h⟩:=h
  refine⟨us,e,by simp[hl],fun j x hx=> ?_⟩
  obtain⟨x0,h0,rfl⟩:∃x0,vs[j]? =some x0∧Cm.map f x0=x:=by simpa using hx
  obtain⟨z,hz,hr⟩:=h j x0 h0
  exact⟨z,hz,hr.Aa fun c u hc=>hf c u (by simp only[Sv.cells,List.mem_flatten,List.mem_map];exact⟨_,⟨x0,List.mem_of_getElem? h0,rfl⟩,hc⟩)⟩
theorem Cm.map_map(f h:Sc→Sc)(x:Cm):(x.map f).map h=x.map fun c=>h (f c):=by cases x<;>simp[Cm.map,Function.comp_def]
theorem Sv.map_map(f h:Sc→Sc)(x:Sv):(x.map f).map h=x.map fun c=>h (f c):=by
 cases x with
 |c x=>simp[Sv.map,Cm.map_map]
 |tu vs=>simp[Sv.map,Function.comp_def,Cm.map_map]
theorem Cm.lY(f:Sc→Sc)(x:Cm):(x.map f).cells=x.cells.map f:=by cases x<;>rfl
theorem Sv.lY(f:Sc→Sc)(x:Sv):(x.map f).cells=x.cells.map f:=by
 cases x with
 |c x=>exact Cm.lY f x
 |tu vs=>simp[Sv.map,Sv.cells,Function.comp_def,Cm.lY]
theorem G7(m:Md):m.norm.cq=m.cq:=by
 cases m with
 |part k=>
  cases k with
  |cur i j=>cases j<;>rfl
  |hole p=>rfl
 |_=>rfl
theorem aX.norm{id:Nat}{r:cy}(h:aX w g id r):aX w g id ⟨r.t,r.md.norm,0,[],r.xs⟩:=by
 obtain⟨t,md,ver,log,xs⟩:=r
 cases md with
 |part k=>
  cases k with
  |hole p=>exact h
  |cur i j=>
   cases j with
   |zero=>exact h
   |succ j=>exact cW.on (fD.2 (.inl (Nat.lt_succ_self i))) h
 |_=>exact h
theorem Ab{bs rs:List Nat}(hb:∀b,cB b bs=true→(ak cl.boxes b).isSome)(hr:∀id,cB id rs=true→ak cl.roots id=(ak st.roots id).map Rt.zR){c:Sc}{u:Value}
 (h:bf w g st c u) (hn:∀id∈((c.fix st).boxed bs).names.2,cB id rs=true):bf w g cl ((c.fix st).boxed bs) u:=by
 refine⟨h.1,?_⟩
 have h:=h.2
 have root:∀{id:Nat}{r:cy},ak st.roots id=some (.live r)→cB id rs=true→ak cl.roots id=some (.live ⟨r.t,r.md.norm,0,[],r.xs⟩):=fun h1 h2=>by rw[hr _ h2,h1];rfl
 cases c with
 |v x=>exact h
 |nl=>exact h
 |ro t xs=>exact h
 |rk t xs=>exact h
 |rp t x off=>exact h
 |j5 fn ys=>exact h
 |dead=>exact h
 |pt b off=>
  simp only[Sc.fix,Sc.boxed] at hn ⊢
  cases hm:cB b bs with
  |true=>simp only[cond_true];exact⟨h.1,hb b hm⟩
  |false=>simp only[cond_false];trivial
 |fq fn cs=>
  simp only[Sc.fix,Sc.boxed] at hn ⊢
  cases hm:cs.all fun b=>cB b bs with
  |true=>simp only[cond_true];exact⟨h.1,fun b hbm=>hb b (List.all_eq_true.1 hm b hbm)⟩
  |false=>simp only[cond_false];trivial
 |h id ver iv p=>
  simp only[Sc.fix] at hn ⊢
  split at hn<;>rename_i e
  ·rename_i r
   cases hv:Nat.beq r.ver ver&&gE r iv p with
   |false=>simp only[cond_false];trivial
   |true=>
    simp only[hv,cond_true,Sc.boxed] at hn ⊢
    have k0:=root e (hn id (by simp[Sc.names]))
    obtain⟨h1,h2⟩:=Bool.and_eq_true_iff.1 hv
    refine⟨by unfold cJ;rw[k0];exact .inr ⟨rfl,Nat.le_refl _⟩,fun r' jf=> ?_⟩
    have:=jf.is k0
    subst this
    exact h.2 r ⟨.inl e,gB h1,h2⟩
  ·trivial
 |vw id ver lo hi=>
  simp only[Sc.fix] at hn ⊢
  split at hn<;>rename_i e
  ·rename_i r
   cases hv:Nat.beq r.ver ver with
   |false=>simp only[cond_false];trivial
   |true=>
    simp only[hv,cond_true,Sc.boxed] at hn ⊢
    have k0:=root e (hn id (by simp[Sc.names]))
    refine⟨by unfold cJ;rw[k0];exact .inr ⟨rfl,Nat.le_refl _⟩,fun r' jf=> ?_⟩
    have:=jf.is k0
    subst this
    exact h.2 r ⟨.inl e,gB hv,by simp[gE]⟩
  ·trivial
 |pe id ver iv p i off=>
  simp only[Sc.fix] at hn ⊢
  split at hn<;>rename_i e
  ·rename_i r
   cases hv:Nat.beq r.ver ver&&gE r iv p with
   |false=>simp only[cond_false];trivial
   |true=>
    simp only[hv,cond_true,Sc.boxed] at hn ⊢
    have k0:=root e (hn id (by simp[Sc.names]))
    obtain⟨h1,h2⟩:=Bool.and_eq_true_iff.1 hv
    refine⟨by unfold cJ;rw[k0];exact .inr ⟨rfl,Nat.le_refl _⟩,fun r' jf=> ?_⟩
    have:=jf.is k0
    subst this
    exact h.2 r ⟨.inl e,gB h1,h2⟩
  ·trivial
theorem Inv.clean(I:Inv w0 Mf g st a w)(keep:List Nat):Inv w0 Mf g (st.clean keep) a w:=by
 generalize qz:st.clean keep=cl
 have adz:=qz
 unfold St.clean at qz
 simp only at qz
 generalize mo:(List.map (fun s=>(s.fst,Sv.map (Sc.fix st) s.snd)) (List.filter (fun s=>cB s.fst keep) st.az))=rz at qz
 generalize u6:(List.filter (fun b=>cB b.fst (St.named rz).fst||cB b.fst (kh (List.filter (fun b=>cB b.fst (St.named rz).fst) st.boxes)).fst) st.boxes)=kL at qz
 generalize PF:List.map (fun x=>x.fst) kL=bs at qz
 generalize qt:List.map (fun s=>(s.fst,Sv.map (Sc.boxed bs) s.snd)) rz=Ac at qz
 generalize mh:List.map (fun b=>(b.fst,({ t:=b.snd.t,cs:=List.map (fun c=>(Sc.fix st c).boxed bs) b.snd.cs }:Bx))) kL=Ad at qz
 generalize Qa:(St.named Ac).snd++(kh Ad).snd=rs at qz
 have eS:cl.az=Ac:=by rw[← qz]
 have eB:cl.boxes=Ad:=by rw[← qz]
 have eR:cl.roots=(st.roots.filter fun r=>cB r.1 rs).map fun r=>(r.1,r.2.zR):=by rw[← qz]
 have hS:∀n,ak cl.az n=cond (cB n keep) ((ak st.az n).map fun v=>v.map fun c=>(c.fix st).boxed bs) none:=fun n=>by
  rw[eS,←qt,lA,←mo,lA,gw (fun m=>cB m keep)]
  cases cB n keep with
  |false=>rfl
  |true=>cases ak st.az n with
   |none=>rfl
   |some v=>simp only[cond_true,Option.map_some,Sv.map_map]
 have Yv:∀n x,ak kL n=some x→ak st.boxes n=some x:=fun n x h=>by
  rw[← u6,gw (fun m=>cB m (St.named rz).fst||cB m (kh (List.filter (fun b=>cB b.fst (St.named rz).fst) st.boxes)).fst)] at h
  exact (bg h).2
 have hB:∀n,ak cl.boxes n=(ak kL n).map fun x=>⟨x.t,x.cs.map fun c=>(c.fix st).boxed bs⟩:=fun n=>by
  rw[eB,←mh]
  exact lA (fun x:Bx=>(⟨x.t,x.cs.map fun c=>(c.fix st).boxed bs⟩:Bx)) kL n
 have hR:∀n,ak cl.roots n=cond (cB n rs) ((ak st.roots n).map Rt.zR) none:=fun n=>by
  rw[eR,lA,gw (fun m=>cB m rs)]
  cases cB n rs<;>rfl
 have Zu:∀b,cB b bs=true→(ak cl.boxes b).isSome:=fun b hb=>by
  have:(ak kL b).isSome:=tY (by rw[PF];exact cd.1 hb)
  rw[hB]
  cases h:ak kL b with
  |none=>rw[h] at this;cases this
  |some x=>rfl
 have Zv:∀id,cB id rs=true→ak cl.roots id=(ak st.roots id).map Rt.zR:=fun id h=>by rw[hR,h];rfl
 have cell:=fun(c:Sc)(u:Value)(h:bf w g st c u)=>Ab (cl:=cl) (bs:=bs) (rs:=rs) Zu Zv h
 have dO:∀id,aT cl id→aT st id:=fun id ⟨r,h,hf⟩=>by
  rw[hR] at h
  obtain⟨_,h⟩:=bg h
  cases ix:ak st.roots id with
  |none=>rw[ix] at h;cases h
  |some x=>
   rw[ix] at h
   cases x with
   |live r0=>simp only[Option.map_some,Rt.zR,Option.some.injEq,Rt.live.injEq] at h;subst h;exact⟨r0,ix,by rw[← G7];exact hf⟩
   |dk r0=>cases h
   |gone v=>cases h
 have mg:∀b,bz cl b→bz st b:=fun b h=>by
  unfold bz at *
  rw[hB] at h
  cases h1:ak kL b with
  |none=>rw[h1] at h;cases h
  |some x=>rw[Yv b x h1];rfl
 refine { az:= ?_,boxes:= ?_,roots:= ?_,apart:= ?_,kept:=I.kept,defers:=I.defers,size:=I.size,base:=⟨I.base.wl,I.base.ap,I.base.ro⟩ }
 ·intro s sv h
  have s8:(s,sv)∈Ac:=by rw[← eS];exact eV h
  rw[hS] at h
  obtain⟨_,h⟩:=bg h
  obtain⟨v,hv,rfl⟩:∃v,ak st.az s=some v∧(v.map fun c=>(c.fix st).boxed bs)=sv:=by simpa using h
  obtain⟨u,hu,pC⟩:=I.az s v hv
  refine⟨u,hu,pC.Aa fun c u hc gu=>cell c u gu fun id cQ=>cd.2 ?_⟩
  rw[← Qa]
  refine List.mem_append.2 (.inl (List.mem_flatten.2 ⟨_,List.mem_map.2 ⟨((c.fix st).boxed bs).names,List.mem_flatten.2 ⟨_,List.mem_map.2 ⟨_,s8,rfl⟩,?_⟩,rfl⟩,cQ⟩))
  exact List.mem_map.2 ⟨_,by rw[Sv.lY];exact List.mem_map.2 ⟨c,hc,rfl⟩,rfl⟩
 ·intro b x h
  have s8:(b,x)∈Ad:=by rw[← eB];exact eV h
  rw[hB] at h
  obtain⟨x0,Cq,rfl⟩:∃x0,ak kL b=some x0∧(⟨x0.t,x0.cs.map fun c=>(c.fix st).boxed bs⟩:Bx)=x:=by simpa using h
  obtain⟨us,el,h1,h2⟩:=I.boxes b x0 (Yv b x0 Cq)
  refine⟨us,el,h1,h2.Aa fun c u hc gu=>cell c u gu fun id cQ=>cd.2 ?_⟩
  rw[← Qa]
  refine List.mem_append.2 (.inr (List.mem_flatten.2 ⟨_,List.mem_map.2 ⟨((c.fix st).boxed bs).names,List.mem_flatten.2 ⟨_,List.mem_map.2 ⟨_,s8,rfl⟩,?_⟩,rfl⟩,cQ⟩))
  exact List.mem_map.2 ⟨_,List.mem_map.2 ⟨c,hc,rfl⟩,rfl⟩
 ·intro id r h
  rw[hR] at h
  obtain⟨_,h⟩:=bg h
  cases ix:ak st.roots id with
  |none=>rw[ix] at h;cases h
  |some x=>
   rw[ix] at h
   cases x with
   |live r0=>
    simp only[Option.map_some,Rt.zR,Option.some.injEq,Rt.live.injEq] at h
    subst h
    exact (I.roots id r0 ix).norm
   |dk r0=>cases h
   |gone v=>cases h
 ·exact {
   rr:=fun id aK k h h'=>I.apart.rr id aK k (dO id h) (dO aK h')
   rb:=fun id b h h'=>I.apart.rb id b (dO id h) (mg b h')
   bb:=fun b b' h h'=>I.apart.bb b b' (mg b h) (mg b' h')
   ew:=fun id k h=>I.apart.ew id k (dO id h)
   fI:=fun b h=>I.apart.fI b (mg b h)
   cj:=fun id k h=>I.apart.cj id k (dO id h)
   dN:=fun b h=>I.apart.dN b (mg b h)
   er:=fun id k h=>I.apart.er id k (dO id h)
   da:=I.apart.da
   bM:=I.apart.bM }
theorem Inv.note(I:Inv w0 Mf g st a w){j:Nat}{u:Value}(hu:a.tmps[j]? =some u){sv:Sv}(hs:dX w g st sv u):Inv w0 Mf g { st with az:=bc st.az j sv } a w:=by
 have hj:j<a.tmps.size:=by
  rcases Nat.lt_or_ge j a.tmps.size with h | h
  ·exact h
  ·simp[Array.getElem?_eq_none h] at hu
 have e:a.put (some j) u=a:=by
  cases a with
  |mk tmps defers=>
   simp only[Act.put,Act.mk.injEq,and_true]
   apply Array.ext_getElem?
   intro i
   by_cases h:j=i
   ·subst h;rw[hu];simp[hj]
   ·simp[Array.getElem?_setIfInBounds_ne h]
 have:=I.zz (dst:=some j) (s:=sv) (v:=u) (fun d hd=>by cases hd;rw[← I.size];exact hj) hs
 rw[e] at this
 exact this
theorem Inv.Nk(I:Inv w0 Mf g st a w)(m:Mk)(hf:m.free st=true):
    ∃g',g'.n=g.n∧Inv w0 Mf g' { st with roots:=m.roots st.roots } a w∧(∀ c u,bf w g st c u→bf w g' { st with roots:=m.roots st.roots } c u)∧
      bf w g' { st with roots:=m.roots st.roots } m.cell (.slice none 0 0):=by
 unfold Mk.roots Mk.cell
 cases dh:m.ro with
 |true=>
  simp only[cond_true]
  refine⟨g,rfl,I,fun _ _ h=>h,rfl,?_⟩
  show fk w g.ro m.t [] (.slice none 0 0)
  obtain⟨av,h0,h1⟩:=vf w g.ro m.t
  exact⟨av,h0,h1.rd⟩
 |false=>
  simp only[cond_false]
  simp only[Mk.free,dh,Bool.false_or] at hf
  have hn:ak st.roots m.id=none:=by
   cases h:ak st.roots m.id with
   |none=>rfl
   |some _=>rw[h] at hf;cases hf
  obtain⟨g',I',G',hc⟩:=I.Gq (id:=m.id) (t:=m.t) (xs:=[]) (ver:=0) (by unfold dI;rw[hn];trivial) (fun ro=>by rw[hn];simp) (F:=fun _=>False) (vf w _ m.t) (fun k h=>h.elim)
  exact⟨g',G'.n,I',G'.map,hc⟩
theorem tZ{o:Option Sc}(h:D1 o=true):o=some .nl:=by
 unfold D1 at h
 split at h
 ·rfl
 ·cases h
theorem cG.G8{w:World}{g g':Gh}{st aI:St}{cs:List Sc}{us:Array Value}{j:Nat}{c:Sc}(h:cG w g st cs us)(hm:∀c u,bf w g st c u→bf w g' aI c u)(hj:cs[j]? =some .nl)(hc:bf w g' aI c (.slice none 0 0)):
    cG w g' aI (cs.set j c) us:=by
 refine⟨by simp[h.1],fun i x hx=> ?_⟩
 by_cases e:j=i
 ·subst e
  have cc:j<cs.length:=by
   rcases Nat.lt_or_ge j cs.length with h' | h'
   ·exact h'
   ·simp[List.getElem?_eq_none h'] at hj
  simp only[List.getElem?_set_self cc,Option.some.injEq] at hx
  subst hx
  obtain⟨z,hz,hr⟩:=h.2 j .nl hj
  have hz':z = .slice none 0 0:=hr.2
  subst hz'
  exact⟨_,hz,hc⟩
 ·rw[List.getElem?_set_ne e] at hx
  obtain⟨z,hz,hr⟩:=h.2 i x hx
  exact⟨z,hz,hm x z hr⟩
theorem Inv.xU(I:Inv w0 Mf g st a w)(m:Mk):∃g',g'.n=g.n∧Inv w0 Mf g' (st.xU m) a w:=by
 unfold St.xU
 cases hf:m.free st with
 |false=>exact⟨g,rfl,I⟩
 |true=>
  simp only[cond_true]
  obtain⟨g',hn,I',hm,hc⟩:=I.Nk m hf
  cases hb:m.box with
  |true=>
   simp only[cond_true]
   split
   ·rename_i x hx
    cases PQ:D1 x.cs[m.j]? with
    |false=>exact⟨g,rfl,I⟩
    |true=>
     simp only[cond_true]
     have cH:bz { st with roots:=m.roots st.roots } m.s:=by unfold bz;simp only[hx];rfl
     obtain⟨us,el,h1,h2⟩:=I.boxes m.s x hx
     obtain⟨us',mc,sI,BV⟩:=I'.boxes m.s x hx
     exact⟨g',hn,I'.ng cH ⟨Nat.le_refl _,fun _ _ _=>rfl⟩ I'.kept sI (BV.G8 (fun _ _ h=>h) (tZ PQ) hc)⟩
   ·exact⟨g,rfl,I⟩
  |false=>
   simp only[cond_false]
   split
   ·rename_i hx
    obtain⟨u,hu,hr⟩:=I.az m.s _ hx
    have lS:u = .slice none 0 0:=hr.2
    subst lS
    exact⟨g',hn,I'.note hu (sv:= .c (.one m.cell)) hc⟩
   ·rename_i cs hx
    cases PQ:D1 cs[m.j]? with
    |false=>exact⟨g,rfl,I⟩
    |true=>
     simp only[cond_true]
     obtain⟨u,hu,us,e,hr⟩:=I.az m.s _ hx
     exact⟨g',hn,I'.note hu (sv:= .c (.agg (cs.set m.j m.cell))) ⟨us,e,hr.G8 hm (tZ PQ) hc⟩⟩
   ·exact⟨g,rfl,I⟩
theorem Inv.oA:∀(ms:List Mk){g:Gh}{st:St},Inv w0 Mf g st a w→∃g',g'.n=g.n∧Inv w0 Mf g' (st.oA ms) a w
 | [],g,st,I=>⟨g,rfl,I⟩
 |m::ms,g,st,I=>by
  obtain⟨g1,h1,I1⟩:=I.xU m
  obtain⟨g2,h2,I2⟩:=Inv.oA ms I1
  exact⟨g2,h2.trans h1,I2⟩
end Go.Gm
namespace Go.Gm
open Go
variable {P : Program} {E : Env} {w0 w : World} {Mf : Nat → Prop} {g : Gh} {st : St} {a : Act}
theorem Inv.GB(I:Inv w0 Mf g st a w)(id:Nat):∃g',g'.n=g.n∧Inv w0 Mf g' (st.GB id) a w:=by
 unfold St.GB
 split
 ·rename_i r hr
  cases DJ:r.md.cU
  ·obtain⟨g',h1,_,_,_,_,_,h2,_⟩:=I.tN hr DJ
   exact⟨g',h1,h2⟩
  ·exact⟨g,rfl,I⟩
 ·exact⟨g,rfl,I⟩
theorem Inv.Vs(I:Inv w0 Mf g st a w)(id:Nat):∃g',g'.n=g.n∧Inv w0 Mf g' (st.Vs id) a w:=by
 unfold St.Vs
 split
 ·rename_i t ver log xs hr
  have hT:aW w (g.rf id) t xs (g.rv id):=I.roots id _ hr
  obtain⟨I1,_⟩:=I.va hr rfl (md:= .part (.cur 0 0)) rfl (F:=g.rf id) (fun k hk=>hk) (by unfold aX;simpa using hT.part (.cur 0 0))
  exact⟨g.pE fun i k=>if i=id then g.rf id k else g.rf i k,rfl,I1⟩
 ·exact⟨g,rfl,I⟩
theorem Inv.Vr(I:Inv w0 Mf g st a w)(id:Nat):∃g',g'.n=g.n∧Inv w0 Mf g' (st.Vr id) a w:=by
 unfold St.Vr
 split
 ·rename_i t ver log xs hr
  have cH:aT st id:=⟨_,hr,rfl⟩
  have fw:∀q,(∀ D∈([]:List Nat),q.length≤D)→g.rv id q=g.rv id q∧∀s,aQ t xs q=some s→∃s',aQ t xs q=some s'∧s'.t=s.t∧s'.xs.length=s.xs.length:=
   fun q _=>⟨rfl,fun s hs=>⟨s,hs,rfl,rfl⟩⟩
  have hT:aW w (g.rf id) t xs (g.rv id):=I.roots id _ hr
  let G:Nat→Prop:=fun k=>g.ro k∨(g.rf id k∧j8 (g.rv id [])≠some k)
  let F:Nat→Prop:=fun k=>g.rf id k∧j8 (g.rv id [])=some k
  refine⟨(({ g with ro:=G }:Gh).bV id (g.rv id) F),rfl,?_⟩
  refine I.iI (ro:=⟨t,.deep,ver,log,xs⟩) (ro':=⟨t,.iZ,ver,log,xs⟩) (G:=G) (.inl hr) (bw.refl w) I.kept (fun k h=>h.elim) (fun k=> .inl) (fun aK k h1 h2 h3 h4=> ?_) (fun b hb h4=> ?_) (fun k h4=> ?_) (fun k h4=> ?_) rfl rfl (l:=[]) (by simp) fw ?_ (fun k hk=> ?_)
  ·rcases h4 with h4 | ⟨h4,_⟩
   ·exact I.apart.ew aK k h1 h3 h4
   ·exact h2 (I.apart.rr aK id k h1 cH h3 h4)
  ·rcases h4 with h4 | ⟨h4,_⟩
   ·exact I.apart.fI b hb h4
   ·exact I.apart.rb id b cH hb h4
  ·rcases h4 with h4 | ⟨h4,_⟩
   ·exact I.apart.da k h4
   ·exact I.apart.er id k cH h4
  ·rcases h4 with h4 | ⟨h4,_⟩
   ·exact I.apart.bM k h4
   ·exact .inr (I.apart.cj id k cH h4)
  ·unfold aX
   simp only[Gh.bV,if_true]
   refine⟨?_,fun p s hp hs=> ?_⟩
   ·rcases hT.1 [] ⟨t,xs⟩ rfl with h | ⟨b,o,cap,cs,el,h1,h2,h3⟩
    ·exact .inl h
    ·exact .inr ⟨b,o,cap,cs,el,h1,⟨h2,by rw[h1];rfl⟩,h3⟩
   ·rcases hT.1 p s hs with ⟨h,e⟩ | ⟨b,o,cap,cs,el,h1,h2,h3,h4,_,h6⟩
    ·exact⟨none,0,by rw[e,h];rfl,by rw[h];exact Nat.le_refl _,fun hn=>absurd h hn⟩
    ·refine⟨_,cap,h1,h4,fun _=>⟨b,o,cs,el,_,rfl,.inr ⟨h2,fun e=>hp ?_⟩,h3,h6⟩⟩
     exact hT.2 p [] s ⟨t,xs⟩ b hs rfl (by rw[h1];rfl) e
  ·refine⟨fun aK h1 h2 h3=>h2 (I.apart.rr aK id k h1 cH h3 hk.1),fun h=> ?_,fun b hb e=>I.apart.rb id b cH hb (e▸hk.1),I.apart.cj id k cH hk.1,I.apart.er id k cH hk.1⟩
   rcases h with h | ⟨_,h⟩
   ·exact I.apart.ew id k cH hk.1 h
   ·exact h hk.2
 ·exact⟨g,rfl,I⟩
theorem Inv.GC(I:Inv w0 Mf g st a w)(id:Nat):∃g',g'.n=g.n∧Inv w0 Mf g' (st.GC id) a w:=by
 unfold St.GC
 cases Nat.ble 1000000000 id
 ·exact I.GB id
 ·cases Nat.ble 2000000000 id
  ·exact I.Vr _
  ·exact I.Vs _
theorem Inv.frozen:∀(is:List Nat){g:Gh}{st:St},Inv w0 Mf g st a w→∃g',g'.n=g.n∧Inv w0 Mf g' (st.frozen is) a w
 | [],g,st,I=>⟨g,rfl,I⟩
 |i::is,g,st,I=>by
  obtain⟨g1,h1,I1⟩:=I.GC i
  obtain⟨g2,h2,I2⟩:=Inv.frozen is I1
  exact⟨g2,h2.trans h1,I2⟩
theorem lZ{α β:Type}(f:α→β):∀(l:List (Nat×α))(n:Nat),ak (l.map fun x=>(x.1,f x.2)) n=(ak l n).map f
  | [],_=>rfl
  | (k,v)::r,n=>by
    simp only[List.map_cons,ak]
    cases Nat.beq n k
    · simp only[cond_false];exact lZ f r n
    · rfl
theorem ua{α:Type}(q:Nat):∀(l:List (Nat×α))(n:Nat),ak (l.filter fun x=> !(Nat.beq x.1 q)) n=if n=q then none else ak l n
  | [],n=>by simp[ak]
  | (k,v)::r,n=>by
    have ih:=ua q r n
    rw[List.filter_cons]
    cases hk:Nat.beq k q with
    |true=>
      have:k=q:=gB hk
      subst this
      simp only[Bool.not_true,Bool.false_eq_true,if_false,ih,ak]
      by_cases e:n=k
      · simp[e]
      · have:Nat.beq n k=false:=by cases h:Nat.beq n k with | true=>exact (e (gB h)).elim | false=>rfl
        simp[e,this]
    |false=>
      simp only[Bool.not_false,if_true,ak,ih]
      cases hn:Nat.beq n k with
      |true=>
        have:n=k:=gB hn
        subst this
        have dP:n≠q:=fun e=>by subst e;rw[Nat.beq_refl] at hk;cases hk
        simp[dP]
      |false=>rfl
theorem G9(x y n:Nat):rn x y n=if n=x then y else n:=by
 unfold rn
 by_cases h:n=x
 ·subst h;rw[Nat.beq_refl];simp
 ·have:Nat.beq n x=false:=by cases hb:Nat.beq n x with | true=>exact (h (gB hb)).elim | false=>rfl
  rw[this];simp[h]
def Gh.vt(g:Gh)(x y:Nat):Gh:={ g with rv:=fun n=>if n=y then g.rv x else g.rv n,rf:=fun n=>if n=y then g.rf x else g.rf n }
theorem dX.Ae{g':Gh}{aI:St}{f:Sc→Sc}(h:∀c u,bf w g st c u→bf w g' aI (f c) u){sv:Sv}{u:Value}(hs:dX w g st sv u):dX w g' aI (sv.map f) u:=by
 have hc:∀{cs:List Sc}{us:Array Value},cG w g st cs us→cG w g' aI (cs.map f) us:=fun fc=>⟨by rw[fc.1,List.length_map],fun j c hj=>by
  rw[List.getElem?_map] at hj
  obtain⟨c0,h0,rfl⟩:=Option.map_eq_some_iff.1 hj
  obtain⟨z,h1,h2⟩:=fc.2 j c0 h0
  exact⟨z,h1,h _ _ h2⟩⟩
 have hm:∀{x:Cm}{u:Value},gH w g st x u→gH w g' aI (x.map f) u:=by
  intro x u hx
  cases x with
  |one c=>exact h _ _ hx
  |agg cs=>obtain⟨us,e,h1⟩:=hx;exact⟨us,e,hc h1⟩
 cases sv with
 |c x=>exact hm hs
 |tu vs=>
  obtain⟨us,e,h1,h2⟩:=hs
  refine⟨us,e,by rw[h1,List.length_map],fun j x hj=> ?_⟩
  rw[List.getElem?_map] at hj
  obtain⟨x0,h0,rfl⟩:=Option.map_eq_some_iff.1 hj
  obtain⟨z,h3,h4⟩:=h2 j x0 h0
  exact⟨z,h3,hm h4⟩
theorem cG.Ae{g':Gh}{aI:St}{f:Sc→Sc}(h:∀c u,bf w g st c u→bf w g' aI (f c) u){cs:List Sc}{us:Array Value}(fc:cG w g st cs us):cG w g' aI (cs.map f) us:=
 ⟨by rw[fc.1,List.length_map],fun j c hj=>by
    rw[List.getElem?_map] at hj
    obtain⟨c0,h0,rfl⟩:=Option.map_eq_some_iff.1 hj
    obtain⟨z,h1,h2⟩:=fc.2 j c0 h0
    exact⟨z,h1,h _ _ h2⟩⟩
theorem Inv.GD(I:Inv w0 Mf g st a w)(x y:Nat):∃g',g'.n=g.n∧Inv w0 Mf g' (st.GD x y) a w:=by
 unfold St.GD
 split
 case h_2=>exact⟨g,rfl,I⟩
 rename_i r hx
 split
 case h_2=>exact⟨g,rfl,I⟩
 rename_i hy
 have hxy:x≠y:=fun e=>by subst e;rw[hx] at hy;cases hy
 generalize R0:({ az:=st.az.map fun s=>(s.1,s.2.map (Sc.vt x y)),boxes:=st.boxes.map fun b=>(b.1,b.2.map (Sc.vt x y)),roots:=bc (st.roots.filter fun b=> !(Nat.beq b.1 x)) y (.live r) }:St)=aI
 have vp:aI.az=st.az.map fun s=>(s.1,s.2.map (Sc.vt x y)):=by rw[← R0]
 have Ha:aI.boxes=st.boxes.map fun b=>(b.1,b.2.map (Sc.vt x y)):=by rw[← R0]
 have oE:∀n,ak aI.roots n=if n=y then some (.live r) else if n=x then none else ak st.roots n:=by
  intro n
  rw[← R0]
  simp only[aJ,ua]
 have hg:∀n,n≠y→(g.vt x y).rv n=g.rv n∧(g.vt x y).rf n=g.rf n:=fun n hn=>by simp[Gh.vt,hn]
 have UD:(g.vt x y).rv y=g.rv x∧(g.vt x y).rf y=g.rf x:=by simp[Gh.vt]
 have mg:∀b,(ak aI.boxes b).isSome=(ak st.boxes b).isSome:=fun b=>by rw[Ha,lZ];cases ak st.boxes b<;>rfl
 have fJ:∀id ver iv,cJ st id ver iv→id≠y:=fun id ver iv h e=>by subst e;unfold cJ at h;rw[hy] at h;exact h
 have Hb:∀id ver iv,cJ st id ver iv→cJ aI (rn x y id) ver iv:=by
  intro id ver iv h
  have dP:=fJ id ver iv h
  rw[G9]
  unfold cJ at h ⊢
  by_cases e:id=x
  ·subst e
   rw[hx] at h
   rw[if_pos rfl,oE,if_pos rfl]
   exact h
  ·rw[if_neg e,oE,if_neg dP,if_neg e];exact h
 have vh:∀id ver iv p r',id≠y→Vx aI (rn x y id) ver iv p r'→Vx st id ver iv p r':=by
  intro id ver iv p r' dP ⟨h1,h2,h3⟩
  refine⟨?_,h2,h3⟩
  rw[G9] at h1
  by_cases e:id=x
  ·subst e
   rw[if_pos rfl,oE,if_pos rfl] at h1
   rw[hx];exact h1
  ·rw[if_neg e,oE,if_neg dP,if_neg e] at h1;exact h1
 have PN:∀id,id≠y→(g.vt x y).rv (rn x y id)=g.rv id:=by
  intro id dP
  rw[G9]
  by_cases e:id=x
  ·subst e;rw[if_pos rfl];exact UD.1
  ·rw[if_neg e];exact (hg id dP).1
 have B9:∀c u,bf w g st c u→bf w (g.vt x y) aI (Sc.vt x y c) u:=by
  intro c u ⟨h1,h2⟩
  refine⟨h1,?_⟩
  cases c with
  |h id ver iv p=>
   have dP:=fJ _ _ _ h2.1
   exact⟨Hb _ _ _ h2.1,fun r' jf=>by rw[PN id dP];exact h2.2 r' (vh _ _ _ _ _ dP jf)⟩
  |vw id ver lo hi=>
   have dP:=fJ _ _ _ h2.1
   exact⟨Hb _ _ _ h2.1,fun r' jf=>by rw[PN id dP];exact h2.2 r' (vh _ _ _ _ _ dP jf)⟩
  |pe id ver iv p i off=>
   have dP:=fJ _ _ _ h2.1
   exact⟨Hb _ _ _ h2.1,fun r' jf=>by rw[PN id dP];exact h2.2 r' (vh _ _ _ _ _ dP jf)⟩
  |pt b off=>exact⟨h2.1,by rw[mg];exact h2.2⟩
  |fq f bs=>exact⟨h2.1,fun b hb=>by rw[mg];exact h2.2 b hb⟩
  |_=>exact h2
 have dO:∀id,aT aI id→(id=y∧aT st x)∨(id≠y∧id≠x∧aT st id):=by
  intro id ⟨r',h1,h2⟩
  rw[oE] at h1
  by_cases e:id=y
  ·rw[if_pos e] at h1;cases h1
   exact .inl ⟨e,r,hx,h2⟩
  ·rw[if_neg e] at h1
   by_cases e2:id=x
   ·rw[if_pos e2] at h1;cases h1
   ·rw[if_neg e2] at h1;exact .inr ⟨e,e2,r',h1,h2⟩
 have Nl:∀id,aT aI id→∃Zw,aT st Zw∧(g.vt x y).rf id=g.rf Zw∧∀aK,aT aI aK→(g.vt x y).rf aK=g.rf Zw→True:=fun id h=>by
  rcases dO id h with ⟨rfl,h1⟩ | ⟨h1,_,h2⟩
  ·exact⟨x,h1,UD.2,fun _ _ _=>trivial⟩
  ·exact⟨id,h2,(hg id h1).2,fun _ _ _=>trivial⟩
 have nh:∀b,bz aI b→bz st b:=fun b h=>by unfold bz at h ⊢;rwa [mg] at h
 refine⟨g.vt x y,rfl,?_⟩
 exact {
  az:=fun s sv h=>by
   rw[vp,lZ] at h
   obtain⟨sv0,h0,rfl⟩:=Option.map_eq_some_iff.1 h
   obtain⟨u,hu,hr⟩:=I.az s sv0 h0
   exact⟨u,hu,hr.Ae B9⟩
  boxes:=fun b z h=>by
   rw[Ha,lZ] at h
   obtain⟨z0,h0,rfl⟩:=Option.map_eq_some_iff.1 h
   obtain⟨us,el,h1,h2⟩:=I.boxes b z0 h0
   exact⟨us,el,h1,h2.Ae B9⟩
  roots:=fun id r' h=>by
   rw[oE] at h
   by_cases e:id=y
   ·rw[if_pos e] at h;cases h
    subst e
    have:=I.roots x r hx
    unfold aX at this ⊢
    rw[UD.1,UD.2];exact this
   ·rw[if_neg e] at h
    by_cases e2:id=x
    ·rw[if_pos e2] at h;cases h
    ·rw[if_neg e2] at h
     have:=I.roots id r' h
     unfold aX at this ⊢
     rw[(hg id e).1,(hg id e).2];exact this
  apart:={
   rr:=fun id aK k h h' h1 h2=>by
    rcases dO id h with ⟨rfl,h3⟩ | ⟨h3,h4,h5⟩<;>rcases dO aK h' with ⟨rfl,h6⟩ | ⟨h6,h7,h8⟩
    ·rfl
    ·rw[UD.2] at h1;rw[(hg aK h6).2] at h2
     exact (h7 (I.apart.rr aK x k h8 h3 h2 h1)).elim
    ·rw[UD.2] at h2;rw[(hg id h3).2] at h1
     exact (h4 (I.apart.rr id x k h5 h6 h1 h2)).elim
    ·rw[(hg id h3).2] at h1;rw[(hg aK h6).2] at h2
     exact I.apart.rr id aK k h5 h8 h1 h2
   rb:=fun id b h h'=>by obtain⟨i0,h1,h2,_⟩:=Nl id h;rw[h2];exact I.apart.rb i0 b h1 (nh b h')
   bb:=fun b b' h h'=>I.apart.bb b b' (nh b h) (nh b' h')
   ew:=fun id k h hk=>by obtain⟨i0,h1,h2,_⟩:=Nl id h;rw[h2] at hk;exact I.apart.ew i0 k h1 hk
   fI:=fun b h=>I.apart.fI b (nh b h)
   cj:=fun id k h hk=>by obtain⟨i0,h1,h2,_⟩:=Nl id h;rw[h2] at hk;exact I.apart.cj i0 k h1 hk
   dN:=fun b h=>I.apart.dN b (nh b h)
   er:=fun id k h hk=>by obtain⟨i0,h1,h2,_⟩:=Nl id h;rw[h2] at hk;exact I.apart.er i0 k h1 hk
   da:=I.apart.da
   bM:=I.apart.bM }
  kept:=I.kept
  defers:=I.defers
  size:=I.size
  base:=⟨I.base.wl,I.base.ap,I.base.ro⟩ }
theorem Inv.renamed:∀(xs:List (Nat×Nat)){g:Gh}{st:St},Inv w0 Mf g st a w→∃g',g'.n=g.n∧Inv w0 Mf g' (st.renamed xs) a w
 | [],g,st,I=>⟨g,rfl,I⟩
 |x::xs,g,st,I=>by
  obtain⟨g1,h1,I1⟩:=I.GD x.1 x.2
  obtain⟨g2,h2,I2⟩:=Inv.renamed xs I1
  exact⟨g2,h2.trans h1,I2⟩
theorem Inv.tidy(k:Kp)(I:Inv w0 Mf g st a w):∃g',g'.n=g.n∧Inv w0 Mf g' (k.tidy st) a w:=by
 unfold Kp.tidy
 obtain⟨g1,h1,I1⟩:=Inv.oA k.lists (I.clean k.az)
 obtain⟨g2,h2,I2⟩:=Inv.frozen k.Vp I1
 obtain⟨g3,h3,I3⟩:=Inv.renamed k.Vq I2
 exact⟨g3,h3.trans (h2.trans h1),I3⟩
end Go.Gm
namespace Go.Gm
open Go
variable {R : Type} {P : Program} {E : Env} {w0 : World} {Mf : Nat → Prop}
def ub(N:Nat)(ps:List Nat)(l:List Oper):Bool:=l.all fun o=>match o.dst with | some d=>Nat.blt d N&& !cB d ps | none=>true
def codeOk(N:Nat)(ps:List Nat):Code→Bool
 | .region _ ops _=>ub N ps ops.toList
 | .seq a b=>codeOk N ps a&&codeOk N ps b
 | .cond _ x y=>codeOk N ps x&&codeOk N ps y
 | .block _ c=>codeOk N ps c
 | .loop c=>codeOk N ps c
 |_=>true
def Ex.out:Ex→Exit | .normal=> .normal | .exit id=> .exit id | .ret=> .ret
theorem least{p:Nat→Prop}:∀{m:Nat},p m→∃m,p m∧∀k,p k→m≤k:=by
 intro m
 induction m using Nat.strongRecOn with
 |_ m ih=>
  intro h
  by_cases hk:∃k,k<m∧p k
  ·obtain⟨k,cc,hp⟩:=hk;exact ih k cc hp
  ·exact⟨m,h,fun k hp=>Nat.le_of_not_lt fun cc=>hk ⟨k,cc,hp⟩⟩
open Classical in
noncomputable def nC(p:Nat→Prop):Nat:=if h:∃m,p m then Classical.choose (least h.choose_spec) else 0
theorem nD{p:Nat→Prop}{m:Nat}(h:p m):p (nC p)∧nC p≤m:=by
 have h':∃m,p m:=⟨m,h⟩
 unfold nC
 rw[dif_pos h']
 have:=Classical.choose_spec (least h'.choose_spec)
 exact⟨this.1,this.2 m h⟩
def Hc(ps:List Nat)(us:Nat→Option Value)(tmps:Array Value):Prop:=∀j∈ps,tmps[j]? =us j
theorem yd{N:Nat}{ps:List Nat}{us:Nat→Option Value}{l:List Oper}(h:ub N ps l=true):(∀ o∈l,ny (Hc ps us) o)∧∀o∈l,∀d,o.dst=some d→d<N:=by
 simp only[ub,List.all_eq_true] at h
 refine⟨fun o ho a v hJ j hj=> ?_,fun o ho d hd=> ?_⟩
 ·have:=h o ho
  cases hd:o.dst with
  |none=>simp only[Act.put];exact hJ j hj
  |some d=>
   rw[hd] at this
   simp only[Bool.and_eq_true,Bool.not_eq_true'] at this
   have dP:d≠j:=fun e=>by subst e;rw[cd.2 hj] at this;cases this.2
   simp only[Act.put,Array.getElem?_setIfInBounds_ne dP]
   exact hJ j hj
 ·have:=h o ho
  rw[hd] at this
  simp only[Bool.and_eq_true] at this
  have:=this.1
  rw[Nat.blt_eq] at this
  exact this
theorem Hd(hE:E.Ok P)(hN:E.jV){keep:Nat→Kp}{rounds:Nat}{F:Fx}{ps:List Nat}{us:Nat→Option Value}:
    ∀(_:sP P F.wl)(c:Code){R:Type}{k:Kx R}{r:R}{g:Gh}{st:St}{a:Act}{w:World}{Q:Exit→Act→World→Prop},codeOk F.sz ps c=true→ev E keep rounds c st k=some r→g.n=F→Inv w0 Mf g st a w→Hc ps us a.tmps→
 (∀ e g' aI a' w',k e aI=some r→g'.n=F→Inv w0 Mf g' aI a' w'→Hc ps us a'.tmps→Q e.out a' w')→c.wp P Q a w:=by
 intro hW c
 induction c with
 |skip=>
  intro R k r g st a w Q _ h hg I hJ hK
  exact wp_skip (hK .normal g st a w h hg I hJ)
 |region id ops draw=>
  intro R k r g st a w Q hc h hg I hJ hK
  simp only[codeOk] at hc
  obtain⟨h1,h2⟩:=yd (us:=us) hc
  exact vF hE hN (by rw[hg];exact hW) h1 hJ I (fun o ho d hd=>by rw[hg];exact h2 o ho d hd) h fun g' aI a' w' hk mw I' pT=>by
   obtain⟨g2,h2,I2⟩:=I'.tidy (keep id)
   exact hK .normal g2 _ a' w' hk (h2.trans (mw.trans hg)) I2 pT
 |seq x y ihx ihy=>
  intro R k r g st a w Q hc h hg I hJ hK
  simp only[codeOk,Bool.and_eq_true] at hc
  refine wp_seq (ihx hc.1 h hg I hJ fun e g' aI a' w' hk mw I' pT=> ?_)
  cases e with
  |normal=>exact ihy hc.2 hk mw I' pT hK
  |exit id=>exact hK (.exit id) g' aI a' w' hk mw I' pT
  |ret=>exact hK .ret g' aI a' w' hk mw I' pT
 |cond x t e iht ihe=>
  intro R k r g st a w Q hc h hg I hJ hK
  simp only[codeOk,Bool.and_eq_true] at hc
  simp only[ev] at h
  obtain⟨b,h,hb⟩:=I.getBool h
  refine wp_cond hb ?_
  cases b with
  |true=>exact iht hc.1 h hg I hJ hK
  |false=>exact ihe hc.2 h hg I hJ hK
 |block id c ih=>
  intro R k r g st a w Q hc h hg I hJ hK
  simp only[codeOk] at hc
  refine wp_block (ih hc h hg I hJ fun e g' aI a' w' hk mw I' pT=> ?_)
  cases e with
  |normal=>exact hK .normal g' aI a' w' hk mw I' pT
  |ret=>exact hK .ret g' aI a' w' hk mw I' pT
  |exit aK=>
   simp only at hk
   show if aK=id then Q .normal a' w' else Q (.exit aK) a' w'
   cases hb:Nat.beq aK id with
   |true=>
    rw[hb] at hk
    rw[if_pos (gB hb)]
    exact hK .normal g' aI a' w' hk mw I' pT
   |false=>
    rw[hb] at hk
    have dP:aK≠id:=fun e=>by subst e;simp at hb
    rw[if_neg dP]
    exact hK (.exit aK) g' aI a' w' hk mw I' pT
 |loop c ih=>
  intro R k r g st a w Q hc h hg I hJ hK
  simp only[codeOk] at hc
  simp only[ev] at h
  let p:Act→World→Nat→Prop:=fun a w m=>∃g st,iter (fun st k=>ev E keep rounds c st k) m st k=some r∧g.n=F∧Inv w0 Mf g st a w∧Hc ps us a.tmps
  refine wp_loop (fun a w=>∃m,p a w m) (fun a w=>nC (p a w)) ⟨rounds,g,st,h,hg,I,hJ⟩ fun a w ⟨m,hm⟩=> ?_
  obtain⟨⟨g,st,h,hg,I,hJ⟩,_⟩:=nD (p:=p a w) hm
  generalize hmm:nC (p a w)=mm at h
  cases mm with
  |zero=>simp only[iter] at h;cases h
  |succ mm=>
   simp only[iter] at h
   refine ih hc h hg I hJ fun e g' aI a' w' hk mw I' pT=> ?_
   cases e with
   |normal=>
    have hp:p a' w' mm:=⟨g',aI,hk,mw,I',pT⟩
    exact⟨⟨mm,hp⟩,Nat.lt_of_le_of_lt (nD hp).2 (by show mm<_;omega)⟩
   |exit id=>exact hK (.exit id) g' aI a' w' hk mw I' pT
   |ret=>exact hK .ret g' aI a' w' hk mw I' pT
 |exit id=>
  intro R k r g st a w Q _ h hg I hJ hK
  exact wp_exit (hK (.exit id) g st a w h hg I hJ)
 |ret=>
  intro R k r g st a w Q _ h hg I hJ hK
  exact wp_ret (hK .ret g st a w h hg I hJ)
 |_=>intro R k r g st a w Q _ h;simp only[ev] at h;cases h
end Go.Gm
namespace Go.Gm
open Go
section ev
variable {R : Type}
def lB(j:Nat)(m:Am)(d:Dt)(st:St)(k:St→Option R):Option R:=
  match m,d with
 | .ro,.d t x=>eG false st j (64*j) [false] [.d t x] fun cs st _=>match cs with | [c]=>k { st with az:=bc st.az j (.c c) } | _=>none
 | .jK,.d t x=>eG true st j (64*j) [false] [.d t x] fun cs st _=>match cs with | [c]=>k { st with az:=bc st.az j (.c c) } | _=>none
 | .mut,.d (.sl t) x=>eG true st j (64*j) [false] [.d (.sl t) x] fun cs st _=>match cs with | [c]=>k { st with az:=bc st.az j (.c c) } | _=>none
 | .bX,.d t x=>eG true st j (64*j) [true] [.d t x] fun cs st _=>match cs with | [c]=>k { st with az:=bc st.az j (.c c) } | _=>none
 | .sG,.d t x=>k { st with az:=bc st.az j (.c (.one (.rp t x 0))) }
 | .kp,.d t x=>(xt t (Dz (enc t x))).bind fun c=>k { st with az:=bc st.az j (.c c) }
 | .fn,.fq f ys=>k { st with az:=bc st.az j (.c (.one (.j5 f ys))) }
 |_,_=>none
def entry:Nat→List Am→List Dt→St→(St→Option R)→Option R
 |_,[],[],st,k=>k st
 |j,m::ms,d::ds,st,k=>lB j m d st fun st=>entry (j+1) ms ds st k
 |_,_,_,_,_=>none
end ev
variable {R : Type} {P : Program} {E : Env} {w0 w : World} {Mf : Nat → Prop} {g : Gh} {st : St} {a : Act}
structure He (g:Gh) (st:St) (g':Gh) (aI:St) (F:Nat→Prop):Prop where
 n:g'.n=g.n
 ro:g'.ro=g.ro
 own:∀id,aT aI id→(aT st id∧g'.rf id=g.rf id)∨∀k,g'.rf id k→F k
 box:∀b,bz aI b→(bz st b∧g'.bx b=g.bx b)∨F (g'.bx b)
theorem He.free{g':Gh}{aI:St}{F:Nat→Prop}(h:He g st g' aI F){k:Nat}(hf:fx w0 Mf g st k)(hk : ¬F k):fx w0 Mf g' aI k:={
 r:=fun id hi hr=>by
  rcases h.own id hi with ⟨h1,h2⟩ | h1
  ·rw[h2] at hr;exact hf.r id h1 hr
  ·exact hk (h1 k hr)
 ro:=by rw[h.ro];exact hf.ro
 b:=fun b hb e=>by
  rcases h.box b hb with ⟨h1,h2⟩ | h1
  ·rw[h2] at e;exact hf.b b h1 e
  ·rw[e] at h1;exact hk h1
 fV:=hf.fV }
theorem Inv.Cu(I:Inv w0 Mf g st a w){d id:Nat}{t:Ty}{x:El t}{u:Value}{F:Nat→Prop}(hv:gk w F t x u)(hf:∀k,F k→fx w0 Mf g st k∧k<w.heap.size){k:List Cm→St→Dl→Option R}{r:R}
 (h:eG true st d id [false] [.d t x] k=some r):∃c g' aI δ,k [c] aI δ=some r∧Inv w0 Mf g' aI a w∧He g st g' aI F∧gH w g' aI c u:=by
 obtain⟨vs,eM,fy⟩:=hv
 obtain⟨Fs,hO,M7,dp⟩:=fy.list
 simp only[Gm.eG] at h
 obtain⟨ss,m,g1,br,u1,h,I1,G1,hc⟩:=Inv.qR I hO (fun y hy=>gv hy) M7 (fun F' hF n hn=>hf n (dp F' hF n hn)) h
 obtain⟨c,u7,h⟩:=aR h
 obtain⟨u',eI,u9⟩:=Form.of u7 (ka.arr hc)
 have:=eM.uniq eI
 subst this
 refine⟨c,g1,br,_,h,I1,⟨G1.n,G1.ro,fun id hi=> ?_,fun b hb=> ?_⟩,u9⟩
 ·exact (G1.own id hi).imp (fun h=>h) fun h k hk=>let ⟨F',hF,mb⟩:=h k hk;dp F' hF k mb
 ·refine .inl ⟨?_,by rw[G1.bx]⟩
  rw[G1.eq] at hb;exact hb
theorem Inv.Nn(I:Inv w0 Mf g st a w){d id:Nat}{t:Ty}{x:El t}{u:Value}{F:Nat→Prop}(hv:qv g.n.wl w F t x u)(hf:∀k,F k→fx w0 Mf g st k∧k<w.heap.size){k:List Cm→St→Dl→Option R}{r:R}
 (h:eG true st d id [true] [.d t x] k=some r):∃c g' aI δ,k [c] aI δ=some r∧Inv w0 Mf g' aI a w∧He g st g' aI F∧gH w g' aI c u:=by
 obtain⟨b,vs,el,rfl,MT,hb,fy⟩:=hv
 simp only[Gm.eG] at h
 split at h
 case h_2=>cases h
 rename_i xO
 obtain⟨ss,m,g1,br,u1,h,I1,G1,hc⟩:=Inv.qo I fy (fun y hy=>gv hy) (fun n hn=>hf n hn.1) h
 have vn:ak br.boxes d=none:=by rw[G1.eq];exact xO
 obtain⟨B0,_⟩:=hf b MT
 have I2:=I1.zE (d:=d) (nb:=b) (t:=t) vn hb (ka.arr hc) (fun aK hi h5=>by
   rcases G1.own aK hi with ⟨h6,h7⟩ | h6
   ·rw[h7] at h5;exact B0.r aK h6 h5
   ·exact (h6 b h5).2 rfl) (by rw[G1.ro];exact B0.ro) (fun b' fl=>by rw[G1.bx];rw[G1.eq] at fl;exact B0.b b' fl) B0.fV
 refine⟨_,_,_,_,h,I2,⟨G1.n,G1.ro,fun id hi=> ?_,fun b' fl=> ?_⟩,?_⟩
 ·exact (G1.own id hi).imp (fun h=>h) fun h k hk=>(h k hk).1
 ·by_cases e:b'=d
  ·subst e
   refine .inr ?_
   simp only[Gh.dR,if_true];exact MT
  ·refine .inl ⟨?_,?_⟩
   ·simp only[bz,bQ _ _ e,G1.eq] at fl;exact fl
   ·simp only[Gh.dR,e,if_false];rw[G1.bx]
 ·exact⟨rfl,by simp[Gh.dR],by simp[bj]⟩
inductive lC:List Am→List (Nat→Prop)→Nat→Prop where
 | here {m ms F Fs k} (hm:m.reads=false) (h:F k):lC (m::ms) (F::Fs) k
 | there {m ms F Fs k} (h:lC ms Fs k):lC (m::ms) (F::Fs) k
theorem lC.any{ms:List Am}{Fs:List (Nat→Prop)}{k:Nat}(h:lC ms Fs k):∃F∈Fs,F k:=by
 induction h with
 |here _ h=>exact⟨_,by simp,h⟩
 |there _ ih=>obtain⟨F,hF,h⟩:=ih;exact⟨F,by simp[hF],h⟩
theorem lC.none{ms:List Am}(h:ms.all Am.reads=true){Fs:List (Nat→Prop)}{k:Nat}: ¬lC ms Fs k:=by
 intro hg
 induction hg with
 |here hm _=>simp only[List.all_cons,Bool.and_eq_true] at h;rw[hm] at h;cases h.1
 |there _ ih=>simp only[List.all_cons,Bool.and_eq_true] at h;exact ih h.2
theorem lD{ROa:Nat→Prop}:∀{ms:List Am}{ds:List Dt}{us:List Value}{Fs:List (Nat→Prop)}{j:Nat}{g:Gh}{st:St}{k:St→Option R}{r:R},Inv w0 Mf g st a w→(∀(i:Nat) u,us[i]? =some u→a.tmps[j+i]? =some u)→
    cE g.n.wl w ROa ms ds us Fs→bH Fs→(∀ n,lC ms Fs n→fx w0 Mf g st n∧n<w.heap.size)→g.ro=ROa→entry j ms ds st k=some r→∃g' aI,k aI=some r∧g'.n=g.n∧Inv w0 Mf g' aI a w
 | [],ds,us,Fs,j,g,st,k,r,I,oZ,hA,hp,hf,dh,h=>by
  cases hA
  exact⟨g,st,h,rfl,I⟩
 |m::ms,mF,zQ,Fs0,j,g,st,k,r,I,oZ,hA,hp,hf,dh,h=>by
  cases hA with
  |cons qT Ms=>
  rename_i d ds u us F Fs
  obtain⟨xJ,tI⟩:=List.pairwise_cons.1 hp
  simp only[entry] at h
  have hu:a.tmps[j]? =some u:=oZ 0 u rfl
  have VP:∀(i:Nat) v,us[i]? =some v→a.tmps[j+1+i]? =some v:=fun i v hv=>by
   have:=oZ (i+1) v (by simpa using hv)
   rw[Nat.add_assoc,Nat.add_comm 1 i];exact this
  -- what is read
  have rd:∀{sv:Sv}{k':St→Option R},k'=(fun st=>entry (j+1) ms ds st k)→dX w g st sv u→k' { st with az:=bc st.az j sv }=some r→∃g' aI,k aI=some r∧g'.n=g.n∧Inv w0 Mf g' aI a w:=by
   intro sv k' e hs h
   subst e
   exact lD (I.note hu hs) VP Ms tI (fun n hn=>let ⟨h1,h2⟩:=hf n (.there hn);⟨⟨h1.r,h1.ro,h1.b,h1.fV⟩,h2⟩) dh h
  -- what is handed over or lent
  have mv:m.reads=false→∀{c:Cm}{g1:Gh}{br:St}{k':St→Option R},k'=(fun st=>entry (j+1) ms ds st k)→Inv w0 Mf g1 br a w→He g st g1 br F→gH w g1 br c u→k' { br with az:=bc br.az j (.c c) }=some r→
    ∃g' aI,k aI=some r∧g'.n=g.n∧Inv w0 Mf g' aI a w:=by
   intro hm c g1 br k' e I1 C1 hc h
   subst e
   obtain⟨g',aI,h1,h2,h3⟩:=lD (g:=g1) (I1.note hu (sv:= .c c) hc) VP (by rw[C1.n];exact Ms) tI (fun n hn=>by
    obtain⟨B2,cc⟩:=hf n (.there hn)
    have:=C1.free B2 (fun hk=>by
     obtain⟨G,hG,hg⟩:=hn.any
     exact xJ G hG n hk hg)
    exact⟨⟨this.r,this.ro,this.b,this.fV⟩,cc⟩) (by rw[C1.ro];exact dh) h
   exact⟨g',aI,h1,h2.trans C1.n,h3⟩
  cases m with
  |ro=>
   cases d with
   |fq _ _=>cases qT
   |d t x=>
    simp only[lB] at h
    have hv:lh w ROa t x u:=qT
    have hR:gl g.n.wl w false [false] [.d t x] [u] [ROa]:= .val (by simpa using hv) .nil
    obtain⟨n3,δ,h,_,_,hc⟩:=qS (g:=g) (st:=st) hR (fun G hG n hn=>by
     have:G=ROa:=by simpa using hG
     subst this;rw[dh];exact hn) h
    cases n3 with
    |nil=>exact hc.elim
    |cons c cs=>
     cases cs with
     |nil=>exact rd rfl (sv:= .c c) hc.1 h
     |cons _ _=>exact hc.2.elim
  |jK=>
   cases d with
   |fq _ _=>cases qT
   |d t x=>
    simp only[lB] at h
    obtain⟨c,g1,br,δ,h,I1,C1,hc⟩:=I.Cu qT (fun n hn=>hf n (.here rfl hn)) h
    exact mv rfl rfl I1 C1 hc h
  | «mut» =>
   cases d with
   |fq _ _=>cases qT
   |d t x=>
    obtain⟨e,xs,heq,hO⟩:=qT
    cases heq
    simp only[lB] at h
    have Hf:cO u=true:=by
     obtain⟨av,h0,fw⟩:=hO
     rcases fw.1 [] _ rfl with ⟨_,h⟩ | ⟨_,_,_,_,_,h,_⟩<;>rw[h0] at h<;>subst h<;>rfl
    have hv:gk w F (.sl e) xs u:=by
     refine⟨#[u],by simp[Form,e8,Hf],fun j=>if j=0 then F else fun _=>False,fun j k hk=> ?_,fun j j' k hk mb=> ?_,by simp[enc],fun j c hc=> ?_⟩
     ·dsimp only at hk
      split at hk
      ·exact hk
      ·exact hk.elim
     ·dsimp only at hk mb
      by_cases e1:j=0
      ·by_cases e2:j'=0
       ·omega
       ·simp[e2] at mb
      ·simp[e1] at hk
     ·cases j with
      |zero=>
       simp only[enc,List.getElem?_cons_zero,Option.some.injEq] at hc
       subst hc
       exact⟨u,rfl,by simpa [fP] using hO⟩
      |succ j=>simp[enc] at hc
    obtain⟨c,g1,br,δ,h,I1,C1,hc⟩:=I.Cu hv (fun n hn=>hf n (.here rfl hn)) h
    exact mv rfl rfl I1 C1 hc h
  |sG=>
   cases d with
   |fq _ _=>cases qT
   |d t x=>
    simp only[lB] at h
    refine rd rfl (sv:= .c (.one (.rp t x 0))) ?_ h
    have VQ:gG w ROa t x 0 u:=qT
    refine⟨?_,?_⟩
    ·obtain⟨b,o,cs,el,fz,e,_⟩:=VQ;rw[e];rfl
    ·show gG w g.ro t x 0 u
     rw[dh];exact VQ
  |bX=>
   cases d with
   |fq _ _=>cases qT
   |d t x=>
    simp only[lB] at h
    obtain⟨c,g1,br,δ,h,I1,C1,hc⟩:=I.Nn qT (fun n hn=>hf n (.here rfl hn)) h
    exact mv rfl rfl I1 C1 hc h
  |Mz=>cases h
  |kp=>
   cases d with
   |fq _ _=>cases qT
   |d t x=>
    simp only[lB] at h
    obtain⟨vs,eM,fy⟩:=(qT:PD g.n.wl t x u)
    obtain⟨c,u7,h⟩:=aR h
    obtain⟨u',eI,u9⟩:=Form.of u7 (qQ (w:=w) (g:=g) (st:=st) fy fun y hy=>gv hy)
    have:=eM.uniq eI
    subst this
    exact rd rfl (sv:= .c c) u9 h
  |fn=>
   cases d with
   |d t x=>cases qT
   |fq f ys=>
    simp only[lB] at h
    obtain⟨ps,e,hl,hq⟩:=qT
    refine rd rfl (sv:= .c (.one (.j5 f ys))) ⟨by rw[e];rfl,ps,e,hl,fun i y q hy U5=> ?_⟩ h
    rw[dh];exact hq i y q hy U5
end Go.Gm
namespace Go.Gm
open Go
section ev
variable {R : Type}
def fT(E:Env)(st:St)(own:Bool):List ResultVar→List Bool→List Nat→(List (Am×Nat×Sv)→Option R)→Option R
 | [],[],[],k=>k []
 | .tmp t::rs,p::ps,T::Ts,k=>(ak st.az t).bind fun s=>fT E st own rs ps Ts fun l=>k ((cond p .bX (cond own .jK .ro),T,s)::l)
 | .cell x T'::rs,false::ps,_::Ts,k=>match ak st.az x with
  |some (.c (.one (.pt b 0)))=>(ak st.boxes b).bind fun y=>(E.code T').bind fun t=>cond (Nat.beq (ao t) y.cs.length)
    ((xt t y.cs).bind fun c=>fT E st own rs ps Ts fun l=>k ((cond own .jK .ro,T',.c c)::l)) none
  |_=>none
 |_,_,_,_=>none
def kM(st:St):Nat→List Am→(List (Am×Nat×Sv)→Option R)→Option R
 |_,[],k=>k []
 |j,.mut::ms,k=>(ak st.az j).bind fun s=>kM st (j+1) ms fun l=>k ((.mut,0,s)::l)
 |j,.bX::ms,k=>(ak st.az j).bind fun s=>kM st (j+1) ms fun l=>k ((.bX,0,s)::l)
 |j,_::ms,k=>kM st (j+1) ms k
def ct:List Am→List Dt→List Dt→Bool
 | [],[],[]=>true
 | .bX::ms,.d t0 _::mF,.d t _::ds=>Nat.beq (ao t) (ao t0)&&ct ms mF ds
 | .mut::ms,_::mF,.d (.sl _) _::ds=>ct ms mF ds
 | .mut::_,_,_=>false
 | .bX::_,_,_=>false
 |_::ms,_::mF,ds=>ct ms mF ds
 |_,_,_=>false
def stays:Nat→List Am→List Nat
 |_,[]=>[]
 |j,.mut::ms=>j::stays (j+1) ms
 |j,.bX::ms=>j::stays (j+1) ms
 |j,_::ms=>stays (j+1) ms
def rA(E:Env)(bL:List Am)(res:List Bool)(own:Bool)(Mv:List ResultVar)(Ts:List Nat)(ds:List Dt)(st:St)(k:Kt R):Option R:=
  fT E st own Mv res Ts fun l1=>kM st 0 bL fun l2=>
    cond (own||(bL.all Am.reads&&((res.all fun p=> !p)&&l1.all fun a=>a.2.2.cells.all fun c=>c.names.1.isEmpty)))
 (dL E (l1++l2) st fun outs _ _ _=>cond (ct bL ds (outs.drop l1.length)) (k outs) none) none
def aO(E:Env)(keep:Nat→Kp)(rounds:Nat)(body:Code)(bL:List Am)(res:List Bool)(own:Bool)(Mv:List ResultVar)(Ts:List Nat)(ds:List Dt)(k:Kt R):Option R:=
  entry 0 bL ds ⟨[],[],[]⟩ fun st=>ev E keep rounds body st fun e st=>match e with
  | .exit _=>none
  |_=>rA E bL res own Mv Ts ds st k
end ev
end Go.Gm
