/- The G-machine, part 3: an evaluator of translated code on typed values, and that it is sound. No conditions. -/
import Derived.Test.YtalnkjjnohgjkaaGreatGm2
import Derived.Orders
namespace Go.Gm
open Go
variable {wl : World} {R : Type} {P : Program} {E : Env} {w0 w w' : World} {Mf : Nat → Prop} {g : Gh} {st aF : St} {a : Act}
theorem Form.uniq{t:Ty}{u v:Value}{us:Array Value}(h:Form t u us)(h':Form t v us):u=v:=by
 unfold Form at h h'
 split at h
 ·rename_i jh;simp only[jh,if_true] at h';rw[h,h']
 ·rename_i jh;simp only[jh] at h';have:=h.1.symm.trans h'.1;simpa using this
structure Res (w:World) (g:Gh) (st:St) (g':Gh) (bz:St) (d:Dl):Prop where
 n:g'.n=g.n
 ay:bz.ay=st.ay
 roots:bz.roots=cj st.roots d.roots
 boxes:bz.boxes=cj st.boxes d.boxes
 map:∀c v,bg w g st c v→bg w g' bz c v
def Lp(w:World)(g:Gh)(st:St):List Cm→List Value→Prop
 | [],[]=>True
 |c::cs,u::us=>jc w g st c u∧Lp w g st cs us
 |_,_=>False
theorem Lp.map{g':Gh}{aF:St}(hm:∀c u,bg w g st c u→bg w g' aF c u):∀{cs:List Cm}{us:List Value},Lp w g st cs us→Lp w g' aF cs us
 | [],[],_=>trivial
 | [],_::_,h=>h.elim
 |_::_,[],h=>h.elim
 |_::_,_::_,h=>⟨h.1.map hm,Lp.map hm h.2⟩
theorem iK{t:Ty}{x:El t}{y:Value}(h : .v y∈enc t x):cR y=true:=by
 have:=vh t x
 rw[List.all_eq_true] at this
 exact this _ h
theorem Inv.sV:∀{ps:List Bool}{ds:List Dt}{us:List Value}{Gs:List (Nat→Prop)}{g:Gh}{st:St}{d id:Nat}{k:List Cm→St→Dl→Option R}{r:R},Inv w0 Mf g st a w→iB g.n.wl w true ps ds us Gs→bS Gs→
 (∀ G∈Gs,∀n,G n→fY w0 Mf g st n∧n<w.heap.size)→eH true st d id ps ds k=some r→
    ∃sN g' bz δ,k sN bz δ=some r∧Inv w0 Mf g' bz a w∧Res w g st g' bz δ∧Lp w g' bz sN us
 | [],ds,us,Gs,g,st,d,id,k,r,I,hr,hp,hf,h=>by
  cases hr
  exact⟨[],g,st,{},h,I,⟨rfl,rfl,rfl,rfl,fun _ _ h=>h⟩,trivial⟩
 |false::ps,ds,us,Gs,g,st,d,id,k,r,I,hr,hp,hf,h=>by
  cases hr with
  |val hv hs=>
  rename_i t x ds u us G Gs
  simp only[if_true] at hv
  obtain⟨uX,tL⟩:=List.pairwise_cons.1 hp
  obtain⟨vs,eU,e8⟩:=hv
  obtain⟨Fs,hO,Tl,eC⟩:=e8.list
  simp only[Gm.eH] at h
  obtain⟨ss,m,g1,bz,u1,h,I1,G1,hc⟩:=Inv.vO I hO (fun y hy=>iK hy) Tl (fun F hF n hn=>hf G (by simp) n (eC F hF n hn)) h
  obtain⟨c,AB,h⟩:=aT h
  obtain⟨u',eL,AE⟩:=Form.of AB (mT.arr hc)
  have:=eU.uniq eL
  subst this
  obtain⟨sN,g',qu,δ,h1,I2,R2,EC⟩:=Inv.sV I1 (by rw[G1.n];exact hs) tL (fun G' qT n hn=>by
   obtain⟨GS,bU⟩:=hf G' (by simp[qT]) n hn
   refine⟨⟨fun aJ hi h5=> ?_,by rw[G1.ro];exact GS.ro,fun b hb=>by rw[G1.bx];rw[G1.eq] at hb;exact GS.b b hb,GS.ib⟩,bU⟩
   rcases G1.own aJ hi with ⟨h6,h7⟩ | h6
   ·rw[h7] at h5;exact GS.r aJ h6 h5
   ·obtain⟨F,hF,hk⟩:=h6 n h5
    exact uX G' qT n (eC F hF n hk) hn) h
  refine⟨_,g',qu,_,h1,I2,⟨R2.n.trans G1.n,by rw[R2.ay,G1.eq],by rw[R2.roots,G1.eq,bn],by rw[R2.boxes,G1.eq],fun c v qS=>R2.map c v (G1.map c v qS)⟩,AE.map R2.map,EC⟩
 |true::ps,ds,us,Gs,g,st,d,id,k,r,I,hr,hp,hf,h=>by
  cases hr with
  |ptr hv hs=>
  rename_i t x ds u us G Gs
  obtain⟨uX,tL⟩:=List.pairwise_cons.1 hp
  obtain⟨b,vs,el,rfl,S8,hb,e8⟩:=hv.2
  simp only[Gm.eH] at h
  split at h
  case h_2=>cases h
  rename_i CA
  obtain⟨ss,m,g1,bz,u1,h,I1,G1,hc⟩:=Inv.vl I e8 (fun y hy=>iK hy) (fun n hn=>hf G (by simp) n hn.1) h
  have AP:au bz.boxes d=none:=by rw[G1.eq];exact CA
  obtain⟨GQ,_⟩:=hf G (by simp) b S8
  have I2:=I1.EA (d:=d) (nb:=b) (t:=t) AP hb (mT.arr hc) (fun aJ hi h5=>by
    rcases G1.own aJ hi with ⟨h6,h7⟩ | h6
    ·rw[h7] at h5;exact GQ.r aJ h6 h5
    ·exact (h6 b h5).2 rfl) (by rw[G1.ro];exact GQ.ro) (fun b' fI=>by rw[G1.bx];rw[G1.eq] at fI;exact GQ.b b' fI) GQ.ib
  have G7:∀c v,bg w g1 bz c v→bg w (g1.dM d b) { bz with boxes:=bd bz.boxes d ⟨t,ss⟩ } c v:=fun c v hc=>⟨hc.1,hc.2.dM AP⟩
  obtain⟨sN,g',qu,δ,h1,I3,R3,hc3⟩:=Inv.sV I2 (by show iB g1.n.wl w true ps ds us Gs;rw[G1.n];exact hs) tL (fun G' qT n hn=>by
   obtain⟨GS,bU⟩:=hf G' (by simp[qT]) n hn
   refine⟨⟨fun aJ hi h5=> ?_,by show ¬g1.ro n;rw[G1.ro];exact GS.ro,fun b' fI e=> ?_,GS.ib⟩,bU⟩
   ·rcases G1.own aJ hi with ⟨h6,h7⟩ | h6
    ·have h5':g1.rf aJ n:=h5
     rw[h7] at h5';exact GS.r aJ h6 h5'
    ·exact uX G' qT n (h6 n h5).1 hn
   ·by_cases e':b'=d
    ·subst e'
     simp only[Gh.dM,if_true] at e
     subst e
     exact uX G' qT b S8 hn
    ·simp only[Gh.dM,e',if_false] at e
     rw[G1.bx] at e
     refine GS.b b' ?_ e
     simp only[bB,b6 _ _ e',G1.eq] at fI
     exact fI) h
  refine⟨_,g',qu,_,h1,I3,⟨R3.n.trans G1.n,by rw[R3.ay,G1.eq],by rw[R3.roots,G1.eq,bn],by rw[R3.boxes,G1.eq];rfl,fun c v qS=>R3.map c v (G7 c v (G1.map c v qS))⟩,?_,hc3⟩
  exact jc.map R3.map (x:= .one (.pt d 0)) ⟨rfl,by simp[Gh.dM],by simp[bo]⟩
theorem Lq{Pr:Nat→Prop}(hPr:∀k,Pr k→g.ro k):∀{cs:List Cv}{us:List Value}{id:Nat}{k:List Sc→Nat→St→List (Nat×Rt)→Option R}{r:R},jg w Pr cs us→(∀ x,.v x∈cs→cR x=true)→vk false st id cs k=some r→
    ∃ss m,k ss m st []=some r∧mT w g st ss us
 | [],us,id,k,r,hr,hf,h=>by
  cases us with
  |nil=>exact⟨[],id,h,trivial⟩
  |cons u us=>exact hr.elim
 | .v x::cs,us,id,k,r,hr,hf,h=>by
  cases us with
  |nil=>exact hr.elim
  |cons u us=>
   obtain⟨ss,m,h1,h2⟩:=Lq hPr hr.2 (fun x hx=>hf x (by simp[hx])) h
   have hu:u=x:=hr.1
   subst hu
   exact⟨_,m,h1,⟨hf u (by simp),rfl⟩,h2⟩
 | .l t xs::cs,us,id,k,r,hr,hf,h=>by
  cases us with
  |nil=>exact hr.elim
  |cons u us=>
   simp only[vk] at h
   replace h:=(W4 h).2
   simp only[cond_false] at h
   obtain⟨ss,m,h1,h2⟩:=Lq hPr hr.2 (fun x hx=>hf x (by simp[hx])) h
   have dj:gC w g.ro t xs u:=gC.mono hPr hr.1
   refine⟨_,m,h1,⟨?_,dj⟩,h2⟩
   obtain⟨av,h0,fX⟩:=dj
   obtain⟨ad,cap,e,_⟩:=fX [] _ rfl
   rw[h0] at e;subst e;rfl
theorem Cj.l{Pr:Nat→Prop}{cs:List Cv}{us:Array Value}(h:Cj w Pr cs us):jg w Pr cs us.toList:=by
 have key:∀{cs:List Cv}{us:List Value},us.length=cs.length→(∀(j:Nat) c,cs[j]? =some c→∃z,us[j]? =some z∧pL w Pr c z)→jg w Pr cs us:=by
  intro cs
  induction cs with
  |nil=>intro us hl _;cases us with | nil=>trivial | cons _ _=>simp at hl
  |cons c cs ih=>
   intro us hl hr
   cases us with
   |nil=>simp at hl
   |cons u us=>
    refine⟨?_,ih (by simpa using hl) fun j c' hj=>by simpa using hr (j+1) c' (by simpa using hj)⟩
    obtain⟨z,hz,hc⟩:=hr 0 c rfl
    simp only[List.getElem?_cons_zero,Option.some.injEq] at hz;subst hz;exact hc
 exact key (by simpa using h.1) fun j c hj=>by simpa using h.2 j c hj
theorem vP:∀{ps:List Bool}{ds:List Dt}{us:List Value}{Gs:List (Nat→Prop)}{d id:Nat}{k:List Cm→St→Dl→Option R}{r:R},iB wl w false ps ds us Gs→(∀ G∈Gs,∀n,G n→g.ro n)→eH false st d id ps ds k=some r→
    ∃sN δ,k sN st δ=some r∧δ.roots=[]∧δ.boxes=[]∧Lp w g st sN us
 | [],ds,us,Gs,d,id,k,r,hr,hf,h=>by
  cases hr
  exact⟨[],{},h,rfl,rfl,trivial⟩
 |false::ps,ds,us,Gs,d,id,k,r,hr,hf,h=>by
  cases hr with
  |val hv hs=>
  rename_i t x ds u us G Gs
  simp only[Bool.false_eq_true,if_false] at hv
  obtain⟨vs,eU,e8⟩:=hv
  simp only[Gm.eH] at h
  obtain⟨ss,m,h,hc⟩:=Lq (hf G (by simp)) e8.l (fun y hy=>iK hy) h
  obtain⟨c,AB,h⟩:=aT h
  obtain⟨u',eL,AE⟩:=Form.of AB (mT.arr hc)
  have:=eU.uniq eL
  subst this
  obtain⟨sN,δ,h1,h2,h3,h4⟩:=vP hs (fun G' qT=>hf G' (by simp[qT])) h
  exact⟨_,_,h1,by simp[h2],by simp[h3],AE,h4⟩
 |true::ps,ds,us,Gs,d,id,k,r,hr,hf,h=>by
  cases hr with
  |ptr hv hs=>cases hv.1
end Go.Gm
namespace Go.Gm
open Go
variable {R : Type} {P : Program} {E : Env} {w0 w w' : World} {Mf : Nat → Prop} {g : Gh} {st aF : St} {a : Act} {Q : Exit → Act → World → Prop}
  {o:Oper} {k:Dl→Option R} {r:R} {K:Act→World→Prop}
theorem Inv.Lr(I:Inv w0 Mf g st a w){b:Nat}(h:bB st b):g.bx b<w.heap.size:=by
 obtain⟨x,hx⟩:=Option.isSome_iff_exists.1 h
 obtain⟨us,el,h1,_⟩:=I.boxes b x hx
 exact (Array.getElem?_eq_some_iff.1 h1).1
theorem Inv.gG(I:Inv w0 Mf g st a w){bz:St}{bs:List Bk}{d:Dl}{H:Nat→Prop}(L:AO g w st bz bs d H){n:Nat}(hn:H n):CB w0 Mf g bz bs n∧n<w.heap.size:=by
 refine⟨⟨fun id hi=>L.off n hn id hi,fun dj=> ?_,fun b hb e=> ?_,?_⟩,?_⟩
 ·rcases L.src n hn with ⟨id,h1,h2⟩ | ⟨b,h1,_,_,h4⟩
  ·exact I.apart.eu id n h1 h2 dj
  ·exact I.apart.gD b h1.at (h4▸dj)
 ·rcases L.src n hn with ⟨id,h1,h2⟩ | ⟨b',h1,_,h3,h4⟩
  ·exact (I.apart.rb id b h1 ((L.box b).1 hb) (e▸h2)).elim
  ·have:=I.apart.bb b b' ((L.box b).1 hb) h1.at (by rw[e,h4])
   subst this;exact h3
 ·rcases L.src n hn with ⟨id,h1,h2⟩ | ⟨b,h1,_,_,h4⟩
  ·exact I.apart.cp id n h1 h2
  ·rw[← h4];exact I.apart.dL b h1.at
 ·rcases L.src n hn with ⟨id,h1,h2⟩ | ⟨b,h1,_,_,h4⟩
  ·exact I.apart.ew id n h1 h2
  ·rw[← h4];exact I.Lr h1.at
theorem mw.sub{bz:St}{ms:List Am}{us:List Value}{Fs:List (Nat→Prop)}{bs:List Bk}{Hs:List (Nat→Prop)}(h:mw w g bz ms us Fs bs Hs)(hp:bS Hs):bS Fs∧(∀ n,Any Fs n→Any Hs n)∧lB (Any Fs) Fs Hs:=by
 have key:bS Fs∧(∀ n,Any Fs n→Any Hs n):=by
  induction h with
  |nil=>exact⟨List.Pairwise.nil,fun n h=>h⟩
  |cons h hs ih=>
   obtain⟨uX,tL⟩:=List.pairwise_cons.1 hp
   obtain⟨h1,h2⟩:=ih tL
   refine⟨List.pairwise_cons.2 ⟨fun G hG n hn hg=> ?_,h1⟩,fun n ⟨G,hG,hn⟩=> ?_⟩
   ·obtain⟨H',hH,hh⟩:=h2 n ⟨G,hG,hg⟩
    exact uX H' hH n (h.sub n hn) hh
   ·rcases List.mem_cons.1 hG with rfl | hG
    ·exact⟨_,by simp,h.sub n hn⟩
    ·obtain⟨H',hH,hh⟩:=h2 n ⟨G,hG,hn⟩
     exact⟨H',by simp[hH],hh⟩
 refine⟨key.1,key.2,?_⟩
 have gen:∀(X:Nat→Prop),(∀ n,X n→Any Fs n∨ ¬Any Hs n)→lB X Fs Hs:=by
  clear key
  induction h with
  |nil=>intro X _;trivial
  |cons h hs ih=>
   rename_i m ms u us F Fs bk bs H Hs
   obtain⟨uX,tL⟩:=List.pairwise_cons.1 hp
   intro X hX
   refine⟨fun n hx hh=> ?_,ih tL X fun n hx=> ?_⟩
   ·rcases hX n hx with ⟨G,hG,hg⟩ | hn
    ·rcases List.mem_cons.1 hG with rfl | hG
     ·exact hg
     ·have eC:∀ {ms us Fs bs Hs},mw w g bz ms us Fs bs Hs→∀n,Any Fs n→Any Hs n:=by
       intro ms us Fs bs Hs hh
       induction hh with
       |nil=>exact fun n h=>h
       |cons h hs ih=>
        rintro n ⟨G,hG,hn⟩
        rcases List.mem_cons.1 hG with rfl | hG
        ·exact⟨_,by simp,h.sub n hn⟩
        ·obtain⟨H',hH,hh⟩:=ih n ⟨G,hG,hn⟩
         exact⟨H',by simp[hH],hh⟩
      obtain⟨H',hH,hh'⟩:=eC hs n ⟨G,hG,hg⟩
      exact (uX H' hH n hh hh').elim
    ·exact (hn ⟨H,by simp,hh⟩).elim
   ·rcases hX n hx with ⟨G,hG,hg⟩ | hn
    ·rcases List.mem_cons.1 hG with rfl | hG
     ·refine .inr fun ⟨H',hH,hh⟩=>uX H' hH n (h.sub n hg) hh
     ·exact .inl ⟨G,hG,hg⟩
    ·exact .inr fun ⟨H',hH,hh⟩=>hn ⟨H',by simp[hH],hh⟩
 exact gen (Any Fs) fun n h=> .inl h
def k9(w:World)(g:Gh)(st:St):List (Nat×Sv)→List Value→Prop
 | [],[]=>True
 |x::l,u::us=>dO w g st x.2 u∧k9 w g st l us
 |_,_=>False
theorem k9.zip:∀{ms:List Am}{l:List (Nat×Sv)}{us:List Value},ms.length=l.length→k9 w g st l us→ArgRel w g st (ms.zip l) us∧(ms.zip l).map (·.1)=ms∧∀x∈ms.zip l,x.2∈l
 | [],[],us,_,h=>by cases us<;>first | exact⟨trivial,rfl,fun x h=>by simp at h⟩ | exact h.elim
 | [],_::_,_,h,_=>by simp at h
 |_::_,[],_,h,_=>by simp at h
 |m::ms,(T,s)::l,us,hl,h=>by
  cases us with
  |nil=>exact h.elim
  |cons u us=>
   obtain⟨h1,h2,h3⟩:=k9.zip (ms:=ms) (l:=l) (by simpa using hl) h.2
   refine⟨⟨h.1,h1⟩,by simp[h2],fun x hx=> ?_⟩
   simp only[List.zip_cons_cons,List.mem_cons] at hx
   rcases hx with rfl | hx
   ·simp
   ·exact List.mem_cons_of_mem _ (h3 x hx)
def zt(args:List (Nat×Sv)):List Nat:=(args.map fun a=>(a.2.cells.map fun c=>c.names.2).flatten).flatten
theorem I9{args:List (Nat×Sv)}{x:Nat×Sv}(hx:x∈args){c:Sc}(hc:c∈x.2.cells){id:Nat}(hi:id∈c.names.2):id∈zt args:=by
 unfold zt
 simp only[List.mem_flatten,List.mem_map]
 exact⟨_,⟨x,hx,rfl⟩,List.mem_flatten.2 ⟨_,List.mem_map.2 ⟨c,hc,rfl⟩,hi⟩⟩
def Reach(g:Gh)(bz:St)(own:Bool)(ids:List Nat)(n:Nat):Prop:=
  g.ro n∨(own=false∧∃id∈ids,aS bz id∧g.rf id n)∨(own=true∧((∃ id,aS bz id∧g.rf id n)∨∃b,nd bz b∧g.bx b=n))
theorem CC{own:Bool}{args:List (Nat×Sv)}(pO:own=true∨∀x∈args,∀c∈x.2.cells,c.names.1=[]){x:Nat×Sv}(hx:x∈args):RdP g st (Reach g st own (zt args)) x.2:={
 ro:=fun k=> .inl
 r:=fun c hc id hi cQ k hk=>by
  cases own
  ·exact .inr (.inl ⟨rfl,id,I9 hx hc hi,cQ,hk⟩)
  ·exact .inr (.inr ⟨rfl,.inl ⟨id,cQ,hk⟩⟩)
 b:=by
  cases own
  ·exact .inl fun c hc=>(pO.resolve_left (by simp)) x hx c hc
  ·exact .inr ⟨fun b x hx ⟨c,hc,hd⟩=> .inr (.inr ⟨rfl,.inr ⟨b,⟨x,hx,c,hc,hd⟩,rfl⟩⟩),fun id cQ k hk=> .inr (.inr ⟨rfl,.inl ⟨id,cQ,hk⟩⟩)⟩ }
theorem Inv.reach(I:Inv w0 Mf g st a w){bz:St}(I1:Inv w0 Mf g bz a w){bs:List Bk}{d:Dl}{H:Nat→Prop}(L:AO g w st bz bs d H){own:Bool}{ids:List Nat}{n:Nat}(h:Reach g bz own ids n): ¬H n∧n<w.heap.size:=by
 have root:∀id,aS bz id→g.rf id n→ ¬H n∧n<w.heap.size:=fun id h1 h2=>⟨fun hn=>L.off n hn id h1 h2,I1.apart.ew id n h1 h2⟩
 rcases h with h | ⟨_,id,_,h1,h2⟩ | ⟨_,⟨id,h1,h2⟩ | ⟨b,h1,h2⟩⟩
 ·exact⟨fun hn=>(I.gG L hn).1.ro h,I1.apart.db n h⟩
 ·exact root id h1 h2
 ·exact root id h1 h2
 ·refine⟨fun hn=> ?_,by rw[← h2];exact I1.Lr h1.at⟩
  have:=(I.gG L hn).1.b b h1.at h2
  exact (L.uu b this).2 h1
end Go.Gm
namespace Go.Gm
open Go
variable {wl : World} {R : Type} {P : Program} {E : Env} {w0 w w' : World} {Mf : Nat → Prop} {g : Gh} {st aF : St} {a : Act} {Q : Exit → Act → World → Prop}
  {o:Oper} {k:Dl→Option R} {r:R} {K:Act→World→Prop}
theorem gX.flat{F:Nat→Prop}{t:Ty}{x:El t}{j:Nat}{c:Cv}(hc:(enc t x)[j]? =some c){u:Value}(h:gX w F c u):cR u=true:=by
 cases c with
 |v y=>
  have hu:u=y:=h
  subst hu;exact iK (List.mem_of_getElem? hc)
 |l t' ys=>exact jB.flat h
theorem vm.size{sh:Bool}{F:Nat→Prop}{cs:List Cv}{us:Array Value}(h:vm wl sh w F cs us):us.size=cs.length:=by
 cases sh
 ·obtain⟨_,_,_,h,_⟩:=h;exact h
 ·exact h.1
theorem vm.flat{sh:Bool}{F:Nat→Prop}{t:Ty}{x:El t}{us:Array Value}(h:vm wl sh w F (enc t x) us){j:Nat}{v:Value}(hj:us[j]? =some v)(hl:j<(enc t x).length):cR v=true:=by
 cases sh
 ·obtain⟨_,_,_,_,hr⟩:=h
  obtain⟨z,hz,hc⟩:=hr j _ (List.getElem?_eq_getElem hl)
  rw[hj] at hz;cases hz
  exact hc.flat (List.getElem?_eq_getElem hl)
 ·obtain⟨z,hz,hc⟩:=h.2 j _ (List.getElem?_eq_getElem hl)
  rw[hj] at hz;cases hz
  revert hc
  generalize mP:(enc t x)[j]=c
  intro hc
  cases c with
  |v y=>
   have hu:v=y:=hc
   subst hu;exact iK (List.mem_of_getElem? (show (enc t x)[j]? =some (.v v) by rw[← mP];exact List.getElem?_eq_getElem hl))
  |l t' ys=>exact Kl.flat hc
theorem mw.row{bz:St}{ROa:Nat→Prop}{ms:List Am}{us:List Value}{Fs:List (Nat→Prop)}{bs:List Bk}{Hs:List (Nat→Prop)}(h:mw w g bz ms us Fs bs Hs){ins outs:List Dt}{Bs:List (Nat→Prop)}(hA:cP wl w ROa ms ins us Fs)
 (hb:ey wl w' ms ins us outs Bs) {b:Nat} (hm : .box b∈bs):∃(EP Tm:Array Value)(el0 el1:Nat),w.heap[g.bx b]? =some (.cells EP el0 (0,0))∧w'.heap[g.bx b]? =some (.cells Tm el1 (0,0))∧Tm.size=EP.size∧
      ∀(j:Nat) v,Tm[j]? =some v→cR v=true:=by
 induction h generalizing ins outs Bs with
 |nil=>simp at hm
 |cons h hs ih=>
  rename_i m ms u us F Fs bk bs H Hs
  cases hA with
  |cons vQ SF=>
  cases m with
  | «mut» =>
   obtain⟨id,r,p,s,rfl,_⟩:=h
   cases hb with
   |skip h1 h2=>exact h1.elim
   | «mut» h1 h2=>exact ih SF h2 (by simpa using hm)
  |bG=>
   obtain⟨b',rfl,_,_,hu,rfl,hF⟩:=h
   cases hb with
   |skip h1 h2=>exact h1.elim
   |bG h1 ht h2=>
    rcases List.mem_append.1 hm with hm | hm
    ·simp only[List.mem_singleton,Bk.box.injEq] at hm
     subst hm
     subst hu
     obtain⟨b0,EP,el0,e0,_,hb0,hr0⟩:=vQ
     obtain⟨b1,Tm,el1,e1,_,zu,SG⟩:=h1
     simp only[Value.pointer.injEq,Option.some.injEq,Addr.mk.injEq,and_true] at e0 e1
     rw[← e0] at hb0
     rw[← e1] at zu
     have YG:=hr0.size
     have po:=SG.size
     refine⟨EP,Tm,el0,el1,hb0,zu,by rw[po,YG,bl,bl,ht],fun j v hj=> ?_⟩
     have bU:j<Tm.size:=by
      rcases Nat.lt_or_ge j Tm.size with h' | h'
      ·exact h'
      ·simp[Array.getElem?_eq_none h'] at hj
     exact SG.flat hj (by omega)
    ·exact ih SF h2 hm
  |_=>
   obtain⟨rfl,_⟩:=h
   cases hb with
   |skip h1 h2=>exact ih SF h2 (by simpa using hm)
end Go.Gm
namespace Go.Gm
open Go
variable {R : Type} {P : Program} {E : Env} {w0 w w' : World} {Mf : Nat → Prop} {g : Gh} {st aF : St} {a : Act} {Q : Exit → Act → World → Prop}
  {o:Oper} {k:Dl→Option R} {r:R} {K:Act→World→Prop}
theorem Inv.Ja(I:Inv w0 Mf g st a w){bz:St}(I1:Inv w0 Mf g bz a w){ms:List Am}{us:List Value}{Fs:List (Nat→Prop)}{bs:List Bk}{Hs:List (Nat→Prop)}{d:Dl}(L:AO g w st bz bs d (Any Hs))
 (hH:mw w g bz ms us Fs bs Hs) (KK:bS Hs) {ROa:Nat→Prop} {ins outs:List Dt} {Bs:List (Nat→Prop)} (hA:cP g.n.wl w ROa ms ins us Fs) (hb:ey g.n.wl w' ms ins us outs Bs) (jD:Kept w w' (Any Fs)):
    Inv w0 Mf g bz a w':=by
 obtain⟨Tl,eC,hOL⟩:=hH.sub KK
 have cM:∀n,Any Fs n→CB w0 Mf g bz bs n∧n<w.heap.size:=fun n hn=>I.gG L (eC n hn)
 refine I1.called jD.same (fun n h1 h2=>(cM n h2).1.ro h1) (fun id n h1 h2 h3=>(cM n h3).1.r id h1 h2) (fun b x hx=> ?_) (I1.kept.step jD.os jD.tape jD.output jD.same fun n hn=>(cM n hn).1.ib)
 by_cases hX:Any Fs (g.bx b)
 ·have hm:=(cM _ hX).1.b b (by simp[bB,hx]) rfl
  obtain⟨EP,Tm,el0,el1,h0,h1,h2,h3⟩:=hH.row hA hb hm
  obtain⟨us2,Yt,h4,h5⟩:=I1.boxes b x hx
  rw[h0] at h4
  simp only[Option.some.injEq,Obj.cells.injEq] at h4
  exact .inr ⟨(L.uu b hm).2,Tm,el1,h1,by rw[h2,h4.1];exact h5.1,h3⟩
 ·exact .inl hX
theorem Inv.CD(I:Inv w0 Mf g st a w){n:Nat}(h:w.heap.size≤n)(bs:List Bk):CB w0 Mf g st bs n:={
 r:=fun id h1 h2=>by have:=I.apart.ew id n h1 h2;omega
 ro:=fun h1=>by have:=I.apart.db n h1;omega
 b:=fun b h1 e=>by have:=I.Lr h1;omega
 ib:= .inl (Nat.le_trans I.kept.same.1 h) }
theorem Inv.Jb(I:Inv w0 Mf g st a w){bz:St}(I1:Inv w0 Mf g bz a w){ms:List Am}{us:List Value}{Fs:List (Nat→Prop)}{bs:List Bk}{Hs:List (Nat→Prop)}{d:Dl}(L:AO g w st bz bs d (Any Hs))
 (hH:mw w g bz ms us Fs bs Hs) (KK:bS Hs) (ob:bs.Pairwise fun b c=>b.key≠c.key) {ROa:Nat→Prop} {ins outs:List Dt} {Bs:List (Nat→Prop)} (hA:cP g.n.wl w ROa ms ins us Fs) (hb:ey g.n.wl w' ms ins us outs Bs) (jD:Kept w w' (Any Fs))
 (YM:bS Bs) (hB:∀B∈Bs,∀k,B k→Any Fs k∨w.heap.size≤k) (Ls:∀B∈Bs,∀k,B k→k<w'.heap.size) {kk:St→Dl→Option R} {r:R} (h:Gm.gB bz bs outs kk=some r):
    ∃g' qu d1,kk qu d1=some r∧Inv w0 Mf g' qu a w'∧ri w' g bz g' qu bs d1 (fun n=>Any Bs n∨I6 Fs Hs n):=by
 obtain⟨Tl,eC,hOL⟩:=hH.sub KK
 refine Inv.gB (X:=Any Fs) jD.same (I.Ja I1 L hH KK hA hb jD) hH hb ob YM KK hOL (fun B hm k hk=>⟨hB B hm k hk,Ls B hm k hk⟩) (fun H hm k hk=>(I.gG L (H:=Any Hs) ⟨H,hm,hk⟩).2) (fun n hn=> ?_) h
 rcases hn with ⟨B,hm,hk⟩ | hn
 ·rcases hB B hm n hk with h1 | h1
  ·exact (I.gG L (eC n h1)).1
  ·exact I1.CD h1 bs
 ·exact (I.gG L hn.any).1
theorem lT{α:Type}{l l':List (Nat×α)}(h:au l=au l')(L:List (Nat×α)):au (cj l L)=au (cj l' L):=by
 funext n;rw[dV,dV L l',h]
theorem vR{w':World}{g':Gh}{bz qu:St}{bs:List Bk}{d d1:Dl}{H F:Nat→Prop}(L:AO g w st bz bs d H)(G:ri w' g bz g' qu bs d1 F):au qu.roots=au (cj st.roots (d.roots++d1.roots)):=by
 funext id
 rw[G.roots,bn,dV,dV d1.roots (cj st.roots d.roots)]
 by_cases hk:∃r p,Bk.root id r p∈bs
 ·obtain⟨r,p,hm⟩:=hk
  obtain⟨x,hx⟩:=Option.isSome_iff_exists.1 (G.key id r p hm)
  rw[hx];rfl
 ·rw[L.roots id fun r p hm=>hk ⟨r,p,hm⟩]
theorem vS{w':World}{g':Gh}{bz qu:St}{bs:List Bk}{d d1:Dl}{H F:Nat→Prop}(L:AO g w st bz bs d H)(G:ri w' g bz g' qu bs d1 F):au qu.boxes=au (cj st.boxes (d.boxes++d1.boxes)):=by
 rw[G.boxes,bn]
 exact lT (funext L.boxes) _
def YQ:List Cm→Sv | [r]=> .c r | rs=> .yZ rs
theorem Lp.pack{bz:St}{sN:List Cm}{us:List Value}(h:Lp w g bz sN us):dO w g bz (YQ sN) (vq us):=by
 have len:∀{sN:List Cm}{us:List Value},Lp w g bz sN us→us.length=sN.length:=by
  intro sN
  induction sN with
  |nil=>intro us h;cases us with | nil=>rfl | cons _ _=>exact h.elim
  |cons c sN ih=>intro us h;cases us with | nil=>exact h.elim | cons u us=>simp[ih h.2]
 have get:∀{sN:List Cm}{us:List Value},Lp w g bz sN us→∀(j:Nat) x,sN[j]? =some x→∃z,us[j]? =some z∧jc w g bz x z:=by
  intro sN
  induction sN with
  |nil=>intro us h j x hj;simp at hj
  |cons c sN ih=>
   intro us h j x hj
   cases us with
   |nil=>exact h.elim
   |cons u us=>
    cases j with
    |zero=>simp only[List.getElem?_cons_zero,Option.some.injEq] at hj;subst hj;exact⟨u,rfl,h.1⟩
    |succ j=>simpa using ih h.2 j x (by simpa using hj)
 have hl:=len h
 match sN,us,h,hl with
 | [c],[u],h,_=>exact h.1
 | [],[],h,_=>exact⟨#[],rfl,rfl,fun j x hj=>by simp at hj⟩
 |c1::c2::cs,u1::u2::us,h,hl=>exact⟨(u1::u2::us).toArray,rfl,by simpa using hl,fun j x hj=>by simpa using get h j x hj⟩
theorem Inv.finish(hK:Then w0 Mf g st k r K){g3:Gh}{Xk:St}(I:Inv w0 Mf g3 Xk a w')(hn:g3.n=g.n)(hd:∀d,o.dst=some d→d<g.n.sz)(AQ:Xk.ay=st.ay){rs:List (Nat×Rt)}{bx:List (Nat×Bx)}
    (hr:au Xk.roots=au (cj st.roots rs)) (hb:au Xk.boxes=au (cj st.boxes bx)) {sv:Sv} {v:Value} (hs:dO w' g3 Xk sv v) (h:k { slot:=o.dst.map fun q=>(q,sv),boxes:=bx,roots:=rs }=some r):K (a.put o.dst v) w':=by
 have I1:=I.Et (dst:=o.dst) (fun d h=>by rw[hn];exact hd d h) hs
 refine hK _ g3 _ _ h hn (I1.congr ?_ ?_ ?_)
 ·cases ly:o.dst with
  |none=>simp only[St.apply,Option.map_none,AQ]
  |some d=>simp only[St.apply,Option.map_some,AQ]
 ·simp only[St.apply,cj];exact hb
 ·simp only[St.apply,cj];exact hr
theorem qv:∀{sh:List Nat}{args lU:List (Nat×Sv)}{us:List Value},k9 w g st args us→Ax sh args=some lU→∃vs,k9 w g st lU vs∧zh sh vs=us
  | [],args,lU,us,h,he=>by cases he;exact⟨us,h,rfl⟩
  |0::sh,[],_,_,_,he=>by cases he
  |0::sh,a::l,lU,us,h,he=>by
    cases us with
    |nil=>exact h.elim
    |cons u us=>
      simp only[Ax] at he
      obtain⟨r,hr,he⟩:=Option.bind_eq_some_iff.1 he
      cases he
      obtain⟨vs,h1,h2⟩:=qv h.2 hr
      exact⟨u::vs,⟨h.1,h1⟩,by simp only[zh,h2]⟩
  | (n+1)::sh,[],_,_,_,he=>by cases he
  | (n+1)::sh,(T,s)::l,lU,us,h,he=>by
    cases us with
    |nil=>exact h.elim
    |cons u us=>
      cases s with
      |yZ _=>cases he
      |c x=>
      cases x with
      |one _=>cases he
      |agg cs=>
      simp only[Ax] at he
      obtain⟨hlen,he⟩:=bh he
      have hlen:=iC hlen
      obtain⟨r,hr,he⟩:=Option.bind_eq_some_iff.1 he
      cases he
      obtain⟨vs,h1,h2⟩:=qv h.2 hr
      obtain⟨zs,hu,fq⟩:=h.1
      have Xh:zs.toList.length=n+1:=by rw[← hlen];simpa using fq.1
      have cells:∀(cs:List Sc)(zs:List Value),mT w g st cs zs→∀{l:List (Nat×Sv)}{us:List Value},k9 w g st l us→k9 w g st (cs.map (fun c=>(0,.c (.one c)))++l) (zs++us):=by
        intro cs
        induction cs with
        |nil=>intro zs hz l us hl;cases zs with | nil=>exact hl | cons _ _=>exact hz.elim
        |cons c cs ih=>intro zs hz l us hl;cases zs with | nil=>exact hz.elim | cons z zs=>exact⟨hz.1,ih zs hz.2 hl⟩
      refine⟨zs.toList++vs,cells cs zs.toList fq.l h1,?_⟩
      simp only[zh]
      rw[List.take_left' Xh,List.drop_left' Xh,h2,hu]
theorem Inv.lq(hE:E.Ok P)(hW:yy P g.n.wl)(I:Inv w0 Mf g st a w)(hd:∀d,o.dst=some d→d<g.n.sz){fn:Nat}{args:List (Nat×Sv)}{us:List Value}(ik:k9 w g st args us)(h:lq E o fn args st k=some r)(hK:Then w0 Mf g st k r K):
    Calls P fn us.toArray w fun e w'=>∃v,e = .returned v∧K (a.put o.dst v) w':=by
 unfold Gm.lq at h
 obtain⟨sp,K1,h⟩:=Option.bind_eq_some_iff.1 h
 obtain⟨lU,hex,h⟩:=Option.bind_eq_some_iff.1 h
 obtain⟨us',jH,adg⟩:=qv ik hex
 subst adg
 clear hex ik
 revert jH h
 generalize lU=Xl
 intro h ik
 obtain⟨hc,h⟩:=bh h
 simp only[Bool.and_eq_true,Bool.or_eq_true,List.all_eq_true,List.isEmpty_iff] at hc
 obtain⟨hlen,pO⟩:=hc
 have hlen:=iC hlen
 obtain⟨hAR,vC,AR⟩:=k9.zip hlen ik
 obtain⟨bz,I1,hh⟩:=I.dH hAR h
 obtain⟨ds,bs,d,Fs,Hs,h,hA,hH,L,KK,ob⟩:=hh (Reach g bz sp.own (zt Xl)) (fun x hx _=>CC pO (AR x hx))
 rw[vC] at hA hH
 obtain⟨Tl,eC,hOL⟩:=hH.sub KK
 refine Calls.mono ((hE.spec fn sp K1).1 ds _ r h g.n.wl w us' (Any Fs) (Reach g bz sp.own (zt Xl)) Fs hW (fun b o hb=>let ⟨h2,h3⟩:=I.base.wl b o hb;⟨.inl (I.base.ro b h2),I.kept.same.get h3 (I.base.ap b h2)⟩) hA Tl (fun F hF k hk=>⟨F,hF,hk⟩)
  (fun n hn hx=>(I.reach I1 L hn).1 (eC n hx)) (fun n hn=>(I.reach I1 L hn).2) (fun n hn=>(I.gG L (eC n hn)).2)) ?_
 rintro e w' ⟨outs,h,adh⟩
 obtain⟨rs,Gs,Bs,he,yK,hBk,YM,adi,adj,ahS,hGB,IQ,Ls⟩:=adh.out
 obtain⟨g2,qu,d1,h,I2,G2⟩:=I.Jb I1 L hH KK ob hA hBk adh.kept YM adi Ls h
 have cM:∀G∈Gs,∀n,G n→(Any Fs n∨w.heap.size≤n)→fY w0 Mf g2 qu n:=by
  intro G hG n hn gZ
  have hf:CB w0 Mf g bz bs n:=gZ.elim (fun h=>(I.gG L (eC n h)).1) fun h=>I1.CD h bs
  refine⟨fun id hi n7=> ?_,by rw[G2.ro];exact hf.ro,fun b hb e=> ?_,hf.ib⟩
  ·rcases G2.own id hi with ⟨h1,h2⟩ | h1
   ·rw[h2] at n7;exact hf.r id h1 n7
   ·rcases h1 n n7 with ⟨B,hB,hk⟩ | adk
    ·exact hGB G hG B hB n hn hk
    ·rcases gZ with hx | hx
     ·exact hOL.rem adk hx
     ·have:=(I.gG L adk.any).2;omega
  ·rw[G2.bx] at e
   have hm:=hf.b b ((G2.box b).1 hb) e
   obtain⟨⟨B,hB,hk⟩,_⟩:=hH.box hBk hm
   rw[e] at hk
   exact hGB G hG B hB n hn hk
 cases ez:sp.own
 ·simp only[ez,cond_false] at h yK
  obtain⟨g3,Xk,u0,h,I3,Z⟩:=Inv.freeze I2 h
  -- all that the results lead to is read alone from now on
  let RO:Nat→Prop:=fun n=>g3.ro n∨Any Gs n
  have jA:∀G∈Gs,∀n,G n→g3.ro n∨w.heap.size≤n:=by
   intro G hG n hn
   rcases ahS ez G hG n hn with h1 | h1
   ·rcases h1 with h1 | ⟨_,id,h2,h3,h4⟩ | ⟨h2,_⟩
    ·exact .inl (Z.ro n (by rw[G2.ro];exact h1))
    ·obtain⟨r',h5,h6⟩:=h3
     obtain⟨h7,h8,_⟩:=G2.live id r' h5
     exact .inl (Z.all id h2 ⟨r',h7,h6⟩ n (by rw[h8];exact h4))
    ·rw[ez] at h2;cases h2
   ·exact .inr h1
  have hf3:∀G∈Gs,∀n,G n→w.heap.size≤n→fY w0 Mf g2 qu n:=fun G hG n hn h1=>cM G hG n hn (.inr h1)
  have I4:Inv w0 Mf { g3 with ro:=RO } Xk a w':=I3.KU (G:=RO) (fun k=> .inl)
   (fun id n h1 h2 h3=>by
    rcases h3 with h3 | ⟨G,hG,hk⟩
    ·exact I3.apart.eu id n h1 h2 h3
    ·rcases jA G hG n hk with h4 | h4
     ·exact I3.apart.eu id n h1 h2 h4
     ·obtain⟨h5,h6⟩:=Z.own id h1
      rw[h6] at h2
      exact (hf3 G hG n hk h4).r id h5 h2)
   (fun b hb h3=>by
    rcases h3 with h3 | ⟨G,hG,hk⟩
    ·exact I3.apart.gD b hb h3
    ·rcases jA G hG _ hk with h4 | h4
     ·exact I3.apart.gD b hb h4
     ·refine (hf3 G hG _ hk h4).b b ?_ (by rw[Z.bx])
      rw[Z.eq] at hb;exact hb)
   (fun n h3=>by
    rcases h3 with h3 | ⟨G,hG,hk⟩
    ·exact I3.apart.db n h3
    ·exact IQ G hG n hk)
   (fun n h3=>by
    rcases h3 with h3 | ⟨G,hG,hk⟩
    ·exact I3.apart.bY n h3
    ·rcases jA G hG n hk with h4 | h4
     ·exact I3.apart.bY n h4
     ·exact .inr (.inl (Nat.le_trans I.kept.same.1 h4)))
  obtain⟨sN,δ,h,e1,e2,AB⟩:=vP (w:=w') (g:={ g3 with ro:=RO }) yK (fun G hG n hn=> .inr ⟨G,hG,hn⟩) h
  refine⟨_,he,Inv.finish hK I4 (Z.n.trans G2.n) hd (by rw[Z.eq];simp only;rw[G2.ay,L.ay]) ?_ ?_ AB.pack h⟩
  ·rw[Z.eq,e1]
   simp only[List.append_nil,bn]
   exact lT (by rw[vR L G2,bn]) _
  ·rw[Z.eq,e2]
   simp only[List.append_nil]
   exact vS L G2
 ·simp only[ez,cond_true] at h yK
  obtain⟨hpG,adl⟩:=adj ez
  obtain⟨sN,g3,Xk,δ,h,I3,R3,AB⟩:=Inv.sV I2 (by rw[G2.n];exact yK) hpG (fun G hG n hn=>⟨cM G hG n hn (adl G hG n hn),IQ G hG n hn⟩) h
  refine⟨_,he,Inv.finish hK I3 (R3.n.trans G2.n) hd (by rw[R3.ay,G2.ay,L.ay]) ?_ ?_ AB.pack h⟩
  ·rw[R3.roots]
   simp only[List.nil_append,bn]
   exact lT (by rw[vR L G2,bn]) _
  ·rw[R3.boxes]
   simp only[bn]
   exact lT (by rw[vS L G2,bn]) _
theorem Lt{fn:Nat}{args:Array Value}(df:(execOp a.eval o).run P w = .ok (.enter fn args) w)(h:Calls P fn args w fun e w'=>∃v,e = .returned v∧K (a.put o.dst v) w'):o.wp P a w K Q:=by
 unfold Oper.wp
 rw[df,Oper.upon_enter]
 refine Calls.mono h fun e w' ⟨v,he,hk⟩=> ?_
 subst he;exact hk
theorem AS{fn : Nat}{args : Array Value}{f : Func}(hf : P.funcs[fn]? = some f)(hb : f.body.isSome) (hn : f.name ≠ "runtime.NumGoroutine") : (callFunc fn args).run P w = .ok (.enter fn args) w := by
 have fI:f.body.isNone=false:=by cases h:f.body<;>simp_all
 have KR : (f.name == "runtime.NumGoroutine") = false := by simpa using hn
 have pv:f.body≠none:=by intro e;simp[e] at hb
 simp[callFunc,hf,pv,hn]
theorem k9.of:∀{xs:List Operand}{Ts:List Nat}{ss:List Sv},Ts.length=ss.length→ss.length=xs.length→(∀(j:Nat) s,ss[j]? =some s→∃x,xs[j]? =some x∧dO w g st s (a.eval x))→k9 w g st (Ts.zip ss) (xs.map a.eval)
 | [],Ts,ss,h1,h2,_=>by
  cases ss with
  |nil=>cases Ts with | nil=>trivial | cons _ _=>simp at h1
  |cons _ _=>simp at h2
 |x::xs,Ts,ss,h1,h2,h=>by
  cases ss with
  |nil=>simp at h2
  |cons s ss=>
   cases Ts with
   |nil=>simp at h1
   |cons T Ts=>
    refine⟨?_,k9.of (by simpa using h1) (by simpa using h2) fun j s' hj=>by simpa using h (j+1) s' (by simpa using hj)⟩
    obtain⟨x',oi,hr⟩:=h 0 s rfl
    simp only[List.getElem?_cons_zero,Option.some.injEq] at oi
    subst oi;exact hr
theorem k9.append:∀{l m:List (Nat×Sv)}{us vs:List Value},k9 w g st l us→k9 w g st m vs→k9 w g st (l++m) (us++vs)
 | [],m,us,vs,h,hm=>by cases us with | nil=>exact hm | cons _ _=>exact h.elim
 |x::l,m,us,vs,h,hm=>by
  cases us with
  |nil=>exact h.elim
  |cons u us=>exact⟨h.1,k9.append h.2 hm⟩
theorem k9.boxes:∀{bs:List Nat},(∀ b∈bs,(au st.boxes b).isSome)→k9 w g st (bs.map fun b=>(0,.c (.one (.pt b 0)))) (bs.map fun b=>Value.pointer (some ⟨g.bx b,0,none⟩))
 | [],_=>trivial
 |b::bs,h=>⟨⟨rfl,rfl,h b (by simp)⟩,k9.boxes fun b hb=>h b (by simp[hb])⟩
theorem k9.rps:∀{ys:List (Σ t:Ty,El t)}{ps:List Value},ps.length=ys.length→(∀(i:Nat)(y:Σ t:Ty,El t)(q:Value),ys[i]? =some y→ps[i]? =some q→jC w g.ro y.1 y.2 0 q)→
    k9 w g st (ys.map fun y=>(0,.c (.one (.rp y.1 y.2 0)))) ps
 | [],[],_,_=>trivial
 | [],_::_,h,_=>by simp at h
 |_::_,[],h,_=>by simp at h
 |y::ys,p::ps,h,hr=>by
  have h0:=hr 0 y p rfl rfl
  refine⟨⟨?_,h0⟩,k9.rps (by simpa using h) fun i y' q hy hq=>hr (i+1) y' q (by simpa using hy) (by simpa using hq)⟩
  obtain⟨b,o,cs,el,fz,e,_⟩:=h0
  subst e;rfl
theorem CF(hE:E.Ok P)(hW:yy P g.n.wl)(I:Inv w0 Mf g st a w)(hd:∀d,o.dst=some d→d<g.n.sz)(hK:Then w0 Mf g st k r K){c:Call}{f:Operand}(b9:o.op = .call c)(K9:c.callee = .value f)
 (h:eZ E o st k=some r):o.wp P a w K Q:=by
 simp only[eZ,b9,K9] at h
 replace h:=I.fV h;obtain⟨cf,h,hcf⟩:=h
 have go:∀(fn:Nat)(ou:List Value)(extra:List (Nat×Sv)),a.eval f = .func (.func fn) #[] ou.toArray→k9 w g st extra ou→
   (mR st c.args.toList fun ss=>cond (Nat.beq c.argTypes.toList.length ss.length) (Gm.lq E o fn (c.argTypes.toList.zip ss++extra) st k) none)=some r→o.wp P a w K Q:=by
  intro fn ou extra hf hx h
  obtain⟨ss,h,hl,hs⟩:=I.mR h
  obtain⟨hlen,h⟩:=bh h
  have YR:=(k9.of (a:=a) (iC hlen) hl hs).append hx
  have adn:=I.lq hE hW hd YR h hK
  have ado:∃sp,E.spec fn=some sp:=by
   unfold Gm.lq at h
   obtain⟨sp,K1,_⟩:=Option.bind_eq_some_iff.1 h
   exact⟨sp,K1⟩
  obtain⟨sp,K1⟩:=ado
  obtain⟨_,fd,h1,h2,h3⟩:=hE.spec fn sp K1
  refine Lt (fn:=fn) (args:=(c.args.toList.map a.eval++ou).toArray) ?_ adn
  have:=AS (P:=P) (w:=w) (args:=(c.args.toList.map a.eval++ou).toArray) h1 h2 h3
  have e:c.args.map a.eval++ou.toArray=(c.args.toList.map a.eval++ou).toArray:=by apply Array.ext';simp
  simp only[execOp,b9,resolve,K9,hf,Deferred.ofValue,Sem.run_bind,Sem.run_pure,Result.andThen_ok,invoke,Array.empty_append,e,this]
 split at h
 ·rename_i fn bs
  obtain⟨hu,W6⟩:=hcf.2
  refine go fn (bs.map fun b=> .pointer (some ⟨g.bx b,0,none⟩)) _ hu ?_ h
  exact k9.boxes W6
 ·rename_i fn ys
  obtain⟨ps,hu,hl,hp⟩:=hcf.2
  exact go fn ps _ hu (k9.rps hl hp) h
 ·cases h
end Go.Gm
namespace Go.Gm
open Go
variable {R : Type} {P : Program} {E : Env} {w0 w : World} {Mf : Nat → Prop} {g : Gh} {st : St} {a : Act} {Q : Exit → Act → World → Prop}
  {o:Oper} {k:Dl→Option R} {r:R} {K:Act→World→Prop}
theorem mZ(hE:E.Ok P)(hW:yy P g.n.wl)(I:Inv w0 Mf g st a w)(hd:∀d,o.dst=some d→d<g.n.sz)(hK:Then w0 Mf g st k r K)
 (h:eZ E o st k=some r):o.wp P a w K Q:=by
 cases b9:o.op with
 |move x=>exact KW I hd hK (.inl b9) (by simpa only[eZ,b9] using h)
 |assign x=>exact KW I hd hK (.inr b9) (by simpa only[eZ,b9] using h)
 |pick c x y=>exact Yn I hd hK b9 h
 |alloc T=>exact SY hE I hd hK b9 h
 |box T x=>exact acP hE I hd hK b9 h
 |build T ps=>exact S6 hE I hd hK b9 h
 |buildSlice T n ps=>exact AJ hE I hd hK b9 h
 |load T x=>exact Yr hE I hd hK b9 h
 |store T x y=>exact S9 hE I hK b9 h
 |nilCheck x=>exact Ev I hd hK b9 h
 |binOp op T x y T'=>exact SS hE I hd hK b9 h
 |unOp op T x=>exact Yo I hd hK b9 h
 |convert S T x=>exact II hE I hd hK b9 h
 |makeFunc fn first ou=>exact Ew I hd hK b9 h
 |makeSlice T n m=>exact Cw hE I hd hK b9 h
 |slice T x lo hi mx=>
  cases mx with
  |none=>exact SV hE I hd hK b9 h
  |some _=>simp only[eZ,b9] at h;cases h
 |fieldAddr T x f=>exact Cp hE I hd hK b9 h
 |field T x f=>exact SW hE I hd hK b9 h
 |indexAddr T x i=>exact Cq hE I hd hK b9 h
 |index T x i=>exact SU hE I hd hK b9 h
 |extract x i=>exact IG I hd hK b9 h
 |call c=>
  cases hc:c.callee with
  |value f=>exact CF hE hW I hd hK b9 hc h
  |invoke _ _=>simp only[eZ,b9,hc] at h;cases h
  |builtin b=>
   cases b with
   |len=>exact acM hE I hd hK b9 hc h
   |append=>exact K8 hE I hd hK b9 hc h
   |min=>exact acN I hd hK b9 hc h
   |max=>exact acO I hd hK b9 hc h
   |clear=>exact Ta hE I hK b9 hc h
   |_=>simp only[eZ,b9,hc,eY] at h;cases h
 |_=>simp only[eZ,b9] at h;cases h
end Go.Gm
namespace Go.Gm
open Go
inductive Ex where
 | normal | exit (id:Nat) | ret
abbrev Kx(R:Type):=Ex→St→Option R
def Sc.fix(st:St):Sc→Sc
 | .h id ver iv p=>match au st.roots id with | some (.live r)=>cond (Nat.beq r.ver ver&&ja r iv p) (.h id 0 0 p) .dead | _=> .dead
 | .vw id ver lo hi=>match au st.roots id with | some (.live r)=>cond (Nat.beq r.ver ver) (.vw id 0 lo hi) .dead | _=> .dead
 | .pe id ver iv p i off=>match au st.roots id with | some (.live r)=>cond (Nat.beq r.ver ver&&ja r iv p) (.pe id 0 0 p i off) .dead | _=> .dead
 |c=>c
def Cm.map(f:Sc→Sc):Cm→Cm | .one c=> .one (f c) | .agg cs=> .agg (cs.map f)
def Sv.map(f:Sc→Sc):Sv→Sv | .c x=> .c (x.map f) | .yZ vs=> .yZ (vs.map (Cm.map f))
def cE(n:Nat):List Nat→Bool | []=>false | m::r=>cond (Nat.beq n m) true (cE n r)
def Sc.boxed(bs:List Nat):Sc→Sc
 | .pt b off=>cond (cE b bs) (.pt b off) .dead
 | .fi f cs=>cond (cs.all fun b=>cE b bs) (.fi f cs) .dead
 |c=>c
def St.named(ay:List (Nat×Sv)):List Nat×List Nat:=
  let ns:=(ay.map fun s=>(s.2.cells.map Sc.names)).flatten
 ((ns.map (·.1)).flatten,(ns.map (·.2)).flatten)
def m0(boxes:List (Nat×Bx)):List Nat×List Nat:=
  let ns:=(boxes.map fun s=>(s.2.cs.map Sc.names)).flatten
 ((ns.map (·.1)).flatten,(ns.map (·.2)).flatten)
def Rt.ER:Rt→Rt | .live x=> .live ⟨x.t,x.md.norm,0,[],x.xs⟩ | _=> .gone 0
def St.clean(keep:List Nat)(st:St):St:=
  let ay:=(st.ay.filter fun s=>cE s.1 keep).map fun s=>(s.1,s.2.map (Sc.fix st))
  let b0:=(St.named ay).1
  let b1:=(m0 (st.boxes.filter fun b=>cE b.1 b0)).1
  let boxes:=(st.boxes.filter fun b=>cE b.1 b0||cE b.1 b1)
  let bs:=boxes.map (·.1)
  let ay:=ay.map fun s=>(s.1,s.2.map (Sc.boxed bs))
  let boxes:=boxes.map fun b=>(b.1,(⟨b.2.t,b.2.cs.map fun c=>(c.fix st).boxed bs⟩:Bx))
  let rs:=(St.named ay).2++(m0 boxes).2
  { ay,boxes
    roots:=(st.roots.filter fun r=>cE r.1 rs).map fun r=>(r.1,r.2.ER) }
structure Mk where
 box:Bool
 ro:Bool
 s:Nat
 j:Nat
 t:Ty
structure Kp where
 ay:List Nat
 lists:List Mk
 adp:List Nat
 adq:List (Nat×Nat)
def Mk.id(m:Mk):Nat:=64*m.s+m.j
def Mk.cell(m:Mk):Sc:=cond m.ro (.ro m.t []) (.h m.id 0 0 [])
def Mk.roots(m:Mk)(roots:List (Nat×Rt)):List (Nat×Rt):=cond m.ro roots (bd roots m.id (.live ⟨m.t,.deep,0,[],[]⟩))
def Mk.free(m:Mk)(st:St):Bool:=m.ro||(match au st.roots m.id with | none=>true | some _=>false)
def Jc:Option Sc→Bool | some .nl=>true | _=>false
def St.CG(st:St)(m:Mk):St:=
  cond (m.free st)
 (cond m.box
 (match au st.boxes m.s with
       |some x=>cond (Jc x.cs[m.j]?) { st with boxes:=bd st.boxes m.s ⟨x.t,x.cs.set m.j m.cell⟩,roots:=m.roots st.roots } st
       |none=>st)
      (match au st.ay m.s with
       |some (.c (.one .nl))=>{ st with ay:=bd st.ay m.s (.c (.one m.cell)),roots:=m.roots st.roots }
       |some (.c (.agg cs))=>cond (Jc cs[m.j]?) { st with ay:=bd st.ay m.s (.c (.agg (cs.set m.j m.cell))),roots:=m.roots st.roots } st
       |_=>st)) st
def St.sW(st:St):List Mk→St
 | []=>st
 |m::ms=>(st.CG m).sW ms
def St.Lu(st:St)(id:Nat):St:=match au st.roots id with
 |some (.live r)=>cond r.md.cV st { st with roots:=bd st.roots id (.live ⟨r.t,.B5,r.ver,r.log,r.xs⟩) }
 |_=>st
def St.sh1(st:St)(id:Nat):St:=match au st.roots id with
 |some (.live ⟨t,.deep,ver,log,[]⟩)=>{ st with roots:=bd st.roots id (.live ⟨t,.n6,ver,log,[]⟩) }
 |_=>st
def St.pt1(st:St)(id:Nat):St:=match au st.roots id with
 |some (.live ⟨t,.deep,ver,log,xs⟩)=>{ st with roots:=bd st.roots id (.live ⟨t,.part (.cur 0 0),ver,log,xs⟩) }
 |_=>st
def St.Lv(st:St)(id:Nat):St:=cond (Nat.ble 1000000000 id) (cond (Nat.ble 2000000000 id) (st.pt1 (id-2000000000)) (st.sh1 (id-1000000000))) (st.Lu id)
def St.frozen(st:St):List Nat→St
 | []=>st
 |i::is=>(st.Lv i).frozen is
def rn(a b n:Nat):Nat:=cond (Nat.beq n a) b n
def Sc.AT(a b:Nat):Sc→Sc
 | .h id ver iv p=> .h (rn a b id) ver iv p
 | .vw id ver lo hi=> .vw (rn a b id) ver lo hi
 | .pe id ver iv p i off=> .pe (rn a b id) ver iv p i off
 |c=>c
def Bx.map(f:Sc→Sc)(x:Bx):Bx:=⟨x.t,x.cs.map f⟩
def St.Lw(st:St)(a b:Nat):St:=match au st.roots a with
  |some (.live r)=>match au st.roots b with
    |none=>{ ay:=st.ay.map fun s=>(s.1,s.2.map (Sc.AT a b)),boxes:=st.boxes.map fun x=>(x.1,x.2.map (Sc.AT a b)),roots:=bd (st.roots.filter fun x=> !(Nat.beq x.1 a)) b (.live r) }
    |some _=>st
  |_=>st
def St.renamed(st:St):List (Nat×Nat)→St
 | []=>st
 |x::xs=>(st.Lw x.1 x.2).renamed xs
def Kp.tidy(k:Kp)(st:St):St:=(((st.clean k.ay).sW k.lists).frozen k.adp).renamed k.adq
structure nu where
 s:List Nat
 b:List Nat
 r:List Nat
 d:Option Nat
 m:List Nat:=[]
def uY(d:Option Nat)(n:Nat):Bool:=match d with | some m=>Nat.beq n m | none=>false
def nu.AU(u:nu)(n:Nat):Bool:=cE n u.s
def nu.hasB(u:nu)(n:Nat):Bool:=cE n u.b||uY u.d n
def nu.oc(u:nu)(n:Nat):Bool:=cE n u.r||(cE (n/64) u.b||uY u.d (n/64))
def nu.Tn(u:nu)(n:Nat):Bool:=cE n u.m
def tmpsOf(xs:List Operand):List Nat:=xs.filterMap fun | .tmp t=>some t | _=>none
def fQ(ops:Array Oper)(o:Oper):Option Nat:=match o.guard with | none=>none | some (j,_)=>(ops[j]?).bind (·.dst)
def Lx(o:Oper):Bool:=match o.op with | .move _ | .assign _=>true | _=>false
def bJ(ops:Array Oper)(st:St)(o:Oper):nu:=
  let s:=tmpsOf o.op.operands.toList++(fQ ops o).toList
  let ns:=(s.map fun t=>match au st.ay t with | some v=>v.cells.map Sc.names | none=>[]).flatten
  let b0:=(ns.map (·.1)).flatten
  let r0:=(ns.map (·.2)).flatten
  { s,b:=b0,r:=r0++(b0.map (qV st)).flatten,d:=some (o.dst.getD 0) }
def lV(st:St):Operand→Option Sc
 | .tmp t=>match au st.ay t with | some (.c (.one c))=>some c | _=>none
 |_=>none
def vT(st:St)(o:Oper):Option (List Nat):=match o.op with
 | .fieldAddr _ x _=>match lV st x with | some (.pt _ _)=>some [] | _=>none
 | .load _ x=>match lV st x with | some (.pt _ _)=>some [] | _=>none
 | .slice _ x _ _ none=>match lV st x with | some (.h id _ _ [])=>some [id] | _=>none
 | .nilCheck x=>match lV st x with | some (.pt _ _)=>some [] | _=>none
 | .store _ x _=>match lV st x with | some (.pt _ _)=>some [] | _=>none
 |_=>none
def eM(ops:Array Oper)(st:St)(o:Oper):nu:=
  cond (Lx o) { s:=tmpsOf o.op.operands.toList++(fQ ops o).toList,b:=[],r:=[],d:=some (o.dst.getD 0) }
    (match vT st o with | some m=>{ s:=(bJ ops st o).s,b:=(bJ ops st o).b,r:=[],d:=some (o.dst.getD 0),m } | none=>bJ ops st o)
def Ly:Sc→Bool | .nl=>true | .h _ _ _ []=>true | _=>false
def AV(st:St)(o:Oper)(d:Dl):List Nat:=match o.op with
 | .call c=>match c.callee,c.args.toList with
  | .builtin .append,[s,x]=>match lV st s,lV st x,d.roots with
   |some s,some (.vw id _ _ _),(n,.live _)::rest=>cond (Ly s&&(Nat.beq n id&&(!rest.isEmpty&& !cE id (rest.map (·.1))))) [id] []
   |_,_,_=>[]
  |_,_=>[]
 |_=>[]
def G8:Md→List (Nat×Nat)→Bool | .deep,_=>true | .part (.hole p0),p=>Nat.blt p.length p0.length | _,_=>false
def fZ(E:Env)(st:St)(o:Oper):Option (Bool×Nat):=cond o.guard.isNone (match o.op with
 | .indexAddr _ x _=>match lV st x with | some (.h _ _ _ _)=>some (false,0) | _=>none
 | .store T x y=>cond o.dst.isNone ((E.code T).bind fun t=>match lV st x with
  |some (.pe id ver iv p _ off)=>lp st id ver iv p fun r=>cond (G8 r.md p) ((sub r.t r.xs p).bind fun s=>cond (Nat.ble (off+ar t) (ar s.t))
    (dv st y fun sv=>(fp t sv).bind fun cs=>cond (Nat.beq cs.length (ar t)) (some (true,id)) none) none) none
  |_=>none) none
 |_=>none) none
structure Rec where
 i:Nat
 u:nu
 d:Dl
 ms:List Nat
 lt:Option (Bool×Nat)
def Dl.oF(d:Dl):List Nat:=match d.slot with | some (s,_)=>[s] | none=>[]
def Dl.vU(d:Dl):List Nat:=d.boxes.map (·.1)
def Dl.my(d:Dl):List Nat:=d.roots.map (·.1)
def Rec.clear(x y:Rec):Bool:=
 (x.d.oF.all fun n=> !(cE n y.d.oF||y.u.AU n))&&
 ((x.d.vU.all fun n=> !(cE n y.d.vU||y.u.hasB n))&&
 (x.d.my.all fun n=> !(cE n y.d.my||(y.u.oc n||cond (y.u.Tn n) (!cE n x.ms) false))))
def lC:List Oper→List Nat→List Nat
 | [],acc=>acc
 |o::r,acc=>lC r (acc++[o.after.toList.foldl (fun s e=>cond (Region.binds .any e) (s ||| (2^e.on ||| acc.getD e.on 0)) s) 0])
def eE(ops:Array Oper):List Nat:=lC ops.toList []
def ES(ah:List Nat)(x y:Rec):Bool:=
  cond (Nat.blt x.i y.i) (Nat.testBit (ah.getD y.i 0) x.i||(x.clear y&&y.clear x)) true
def oG(ops:Array Oper)(rs:List Rec):Bool:=rs.all fun x=>rs.all fun y=>ES (eE ops) x y
def rj:Nat→List Oper→Bool
 |_,[]=>true
 |i,o::r=>(o.after.toList.all fun e=> !Region.binds .any e||Nat.blt e.on i)&&rj (i+1) r
section ev
variable {R : Type}
def St.dM(st:St)(g:Nat)(b:Bool):St:={ st with ay:=bd st.ay g (.c (.one (.v (.bool b)))) }
def mz(o:Oper):Dl:={ slot:=o.dst.map fun d=>(d,.yZ []) }
def evO(E:Env)(ops:Array Oper)(o:Oper)(st:St)(k:St→Dl→Option R):Option R:=
  match o.guard with
  |none=>eZ E o st (k st)
  |some (_,want)=>(fQ ops o).bind fun g=>
      match au st.ay g with
      |some (.c (.one (.v (.bool b))))=>
        cond b (let st:=st.dM g true;cond want (eZ E o st (k st)) (k st (mz o)))
               (let st:=st.dM g false;cond want (k st (mz o)) (eZ E o st (k st)))
      |some (.yZ [])=>k st (mz o)
      |_=>none
def G9(E:Env)(ops:Array Oper):List Oper→St→(St→Option R)→Option R
 | [],st,k=>k st
 |o::r,st,k=>evO E ops o st fun st d=>G9 E ops r (st.apply d) k
def AW(E:Env)(ops:Array Oper):Nat→List Oper→List Rec→St→(List Rec→St→Option R)→Option R
 |_,[],rs,st,k=>k rs st
 |i,o::r,rs,st,k=>evO E ops o st fun st d=>AW E ops (i+1) r (⟨i,eM ops st o,d,AV st o d,fZ E st o⟩::rs) (st.apply d) k
def jJ(W:List Nat)(o:Oper):Oper:={ o with after:=o.after++(W.map fun i=>({ on:=i,ground:= .data }:Edge)).toArray }
def cT(ops:Array Oper)(j:Nat)(W:List Nat):Array Oper:=ops.modify j (jJ W)
def Xm(ah:List Nat)(rs:List Rec):Option Nat:=(rs.reverse.find? fun y=>rs.any fun x=> !(ES ah x y)).map (·.i)
def Ha(ah:List Nat)(j:Nat):List Nat:=(List.range j).filter fun i=> !(Nat.testBit (ah.getD j 0) i)
def CH(xs:List Nat)(id:Nat)(x:Rec):Bool:=
 (match x.lt with | some (false,_)=>true | some (true,aJ)=> !(Nat.beq aJ id) | none=>false)&&
 ((x.d.oF.all fun n=> !(cE n xs))&&(x.d.my.all fun n=> !(Nat.beq n id)))
def ET(ops:Array Oper)(rs:List Rec)(j:Nat)(W:List Nat):Bool:=
  match ops[j]? with
 |none=>false
 |some oj=>(rs.all fun y=> !(Nat.beq y.i j)||(match y.lt with
   |some (true,id)=>rs.all fun x=> !(cE x.i W)||CH (tmpsOf oj.op.operands.toList) id x
   |_=>false))&&
  (W.all fun i=>match ops[i]? with | some o=>(match o.dst with | some d=> !(cE d (tmpsOf oj.op.operands.toList)) | none=>true) | none=>false)&&
  ((List.range ops.size).all fun i=>cE i W||(Nat.beq i j||(Nat.testBit ((eE ops).getD j 0) i||W.all fun v=>Nat.testBit ((eE ops).getD i 0) v)))
def AX(ops:Array Oper)(rs:List Rec):Bool:=match Xm (eE ops) rs with
 |some j=>oG (cT ops j (Ha (eE ops) j)) rs&&ET ops rs j (Ha (eE ops) j)
 |none=>false
def vV(E:Env)(ops:Array Oper)(draw:Bool)(st:St)(k:St→Option R):Option R:=
  cond draw (AW E ops 0 ops.toList [] st fun rs st=>cond (rj 0 ops.toList&&(oG ops rs||AX ops rs)) (k st) none) (G9 E ops ops.toList st k)
def iter(body:St→(Kx R)→Option R):Nat→St→(Kx R)→Option R
 |0,_,_=>none
 |n+1,st,k=>body st fun e st=>match e with
   | .normal=>iter body n st k
   |e=>k e st
def ev(E:Env)(keep:Nat→Kp)(n:Nat):Code→St→(Kx R)→Option R
 | .skip,st,k=>k .normal st
 | .region id ops draw,st,k=>vV E ops draw st fun st=>k .normal ((keep id).tidy st)
 | .seq a b,st,k=>ev E keep n a st fun e st=>match e with
   | .normal=>ev E keep n b st k
   |e=>k e st
 | .cond c x y,st,k=>getBool st c fun b=>cond b (ev E keep n x st k) (ev E keep n y st k)
 | .block id c,st,k=>ev E keep n c st fun e st=>match e with
   | .exit aJ=>cond (Nat.beq aJ id) (k .normal st) (k (.exit aJ) st)
   |e=>k e st
 | .loop c,st,k=>iter (fun st k=>ev E keep n c st k) n st k
 | .exit id,st,k=>k (.exit id) st
 | .ret,st,k=>k .ret st
 |_,_,_=>none
end ev
end Go.Gm
namespace Go.Gm
open Go
def Spec.mA(s:Spec):Prop:=∀ds,∃q:Option (List Dt),∀(R:Type)(k:Kt R),s.fn ds k=q.bind k
def Env.mA(E:Env):Prop:=∀f s,E.spec f=some s→s.mA
def tM(u:nu)(c:Sc):Prop:=∀id∈c.names.2,u.oc id=true
def CIn(u:nu)(c:Sc):Prop:=(∀ b∈c.names.1,cE b u.b=true)∧tM u c
def EU(u:nu)(s:Sv):Prop:=∀c∈s.cells,CIn u c
structure Ag (u:nu) (st aF:St):Prop where
 s:∀n,u.AU n=true→au aF.ay n=au st.ay n
 b:∀n,u.hasB n=true→au aF.boxes n=au st.boxes n
 r:∀n,u.oc n=true→au aF.roots n=au st.roots n
 cs:∀n,u.AU n=true→∀v,au st.ay n=some v→EU u v
 cb:∀n,cE n u.b=true→∀x,au st.boxes n=some x→∀c∈x.cs,tM u c
variable {R R' : Type} {ρ : Option R → Option R' → Prop} {u : nu} {st aF : St} {E : Env} {o : Oper}
theorem dC.{v} {α:Type v} (h0:ρ none none) {q:Option α} {f:α→Option R} {f':α→Option R'} (h:∀x,q=some x→ρ (f x) (f' x)):ρ (q.bind f) (q.bind f'):=by
 cases q with
 |none=>exact h0
 |some x=>exact h x rfl
theorem bZ.{v} {α:Type v} (h0:ρ none none) {q:Option α} {f:α→Option R} {f':α→Option R'} (h:∀x,q=some x→ρ (f x) (f' x)):ρ (q.bind f) (q.bind f'):=by
 cases q with
 |none=>exact h0
 |some x=>exact h x rfl
theorem lW{b:Bool}{x y:Option R}{x' y':Option R'}(h:b=true→ρ x x')(h':b=false→ρ y y'):ρ (cond b x y) (cond b x' y'):=by
 cases b with
 |true=>exact h rfl
 |false=>exact h' rfl
theorem bE(h0:ρ none none){b:Bool}{x:Option R}{x':Option R'}(h:b=true→ρ x x'):ρ (cond b x none) (cond b x' none):=lW h fun _=>h0
theorem nu.rl{n:Nat}(h:cE n u.b=true):u.hasB n=true:=by simp[nu.hasB,h]
theorem vW{α:Type}{l l':List (Nat×α)}{n:Nat}(h:au l' n=au l n)(m:Nat)(v:α):au (bd l' m v) n=au (bd l m v) n:=by
 rw[aH,aH,h]
theorem Ag.b7(A:Ag u st aF)(id:Nat)(x:Rt):Ag u { st with roots:=bd st.roots id x } { aF with roots:=bd aF.roots id x }:=
 ⟨A.s,A.b,fun n hn=>vW (A.r n hn) id x,A.cs,A.cb⟩
theorem Ag.dM(A:Ag u st aF)(b:Nat)(x:Bx)(hx:∀c∈x.cs,tM u c):Ag u { st with boxes:=bd st.boxes b x } { aF with boxes:=bd aF.boxes b x }:=
 ⟨A.s,fun n hn=>vW (A.b n hn) b x,A.r,A.cs,fun n hn y hy=>by
    simp only[aH] at hy
    split at hy
    · cases hy;exact hx
    · exact A.cb n hn y hy⟩
theorem rm{v:Value}{c:Sc}(h:k6 v=some c):CIn u c:=by
 unfold k6 at h
 split at h<;>first | (cases h;exact⟨by simp[Sc.names],by simp[tM,Sc.names]⟩) | cases h
theorem pX:∀{vs:List Value}{cs:List Sc},iA vs=some cs→∀c∈cs,CIn u c
 | [],cs,h=>by cases h;simp
 |v::vs,cs,h=>by
  simp only[iA] at h
  obtain⟨c,hc,h⟩:=Option.bind_eq_some_iff.1 h
  obtain⟨ds,hd,h⟩:=Option.bind_eq_some_iff.1 h
  cases h
  intro x hx
  rcases List.mem_cons.1 hx with rfl | hx
  ·exact rm hc
  ·exact pX hd x hx
theorem EV{v:Value}{s:Sv}(h:pf v=some s):EU u s:=by
 unfold pf at h
 split at h
 ·obtain⟨cs,hc,h⟩:=Option.bind_eq_some_iff.1 h
  cases h
  exact pX hc
 ·obtain⟨c,hc,h⟩:=Option.bind_eq_some_iff.1 h
  cases h
  intro x hx
  simp[Sv.cells,Cm.cells] at hx
  subst hx
  exact rm hc
def Ef(u:nu)(x:Operand):Prop:=∀t,x = .tmp t→u.AU t=true
theorem jk(h0:ρ none none)(A:Ag u st aF){x:Operand}(hx:Ef u x){k:Sv→Option R}{k':Sv→Option R'}(hk:∀s,EU u s→ρ (k s) (k' s)):ρ (dv st x k) (dv aF x k'):=by
 cases x with
 |tmp t=>simp only[dv];rw[A.s t (hx t rfl)];exact dC h0 fun v hv=>hk v (A.cs t (hx t rfl) v hv)
 |const v=>simp only[dv];exact dC h0 fun s hs=>hk s (EV hs)
 |func f=>simp only[dv];exact hk _ (by intro c hc;simp[Sv.cells,Cm.cells] at hc;subst hc;exact⟨by simp[Sc.names],by simp[tM,Sc.names]⟩)
 |global _=>exact h0
theorem jK(h0:ρ none none)(A:Ag u st aF){x:Operand}(hx:Ef u x){k:Sc→Option R}{k':Sc→Option R'}(hk:∀c,CIn u c→ρ (k c) (k' c)):ρ (fV st x k) (fV aF x k'):=
  jk h0 A hx fun s hs=>by
    split
    · rename_i c
      have hc:=hs c (by simp[Sv.cells,Cm.cells])
      refine hk c.soft ?_
      cases c<;>exact hc
    · exact h0
theorem lD(h0:ρ none none)(A:Ag u st aF){x:Operand}(hx:Ef u x){k:Value→Option R}{k':Value→Option R'}(hk:∀c,ρ (k c) (k' c)):ρ (j9 st x k) (j9 aF x k'):=
  jK h0 A hx fun c _=>by split<;>first | exact h0 | exact hk _
theorem Jd(h0:ρ none none)(A:Ag u st aF){x:Operand}(hx:Ef u x){k:Bool→Option R}{k':Bool→Option R'}(hk:∀c,ρ (k c) (k' c)):ρ (getBool st x k) (getBool aF x k'):=
  lD h0 A hx fun c=>by split<;>first | exact h0 | exact hk _
theorem oH(h0:ρ none none)(A:Ag u st aF){x:Operand}(hx:Ef u x){k:Int→Option R}{k':Int→Option R'}(hk:∀c,ρ (k c) (k' c)):ρ (getInt st x k) (getInt aF x k'):=
  lD h0 A hx fun c=>by split<;>first | exact h0 | exact hk _
theorem lE(h0:ρ none none)(A:Ag u st aF){id ver:Nat}(hi:u.oc id=true){k:cC→Option R}{k':cC→Option R'}(hk:∀c,ρ (k c) (k' c)):ρ (kz st id ver k) (kz aF id ver k'):=by
 unfold kz
 rw[A.r id hi]
 split
 ·exact bE h0 fun _=>hk _
 ·exact h0
theorem j7(h0:ρ none none)(A:Ag u st aF){id ver iv:Nat}{p:Path}(hi:u.oc id=true){k:cC→Option R}{k':cC→Option R'}(hk:∀c,ρ (k c) (k' c)):ρ (lp st id ver iv p k) (lp aF id ver iv p k'):=
  lE h0 A hi fun c=>bE h0 fun _=>hk _
theorem EW(h0:ρ none none)(A:Ag u st aF){c:Sc}(hc:tM u c){q:Option Ty}{k:Cv→Option R}{k':Cv→Option R'}(hk:∀c,ρ (k c) (k' c)):ρ (pK st c q k) (pK aF c q k'):=by
 unfold pK
 split<;>first
  | exact h0
  | exact hk _
  |exact j7 h0 A (hc _ (by simp[Sc.names])) fun c=>bE h0 fun _=>bZ h0 fun _ _=>hk _
  |exact lE h0 A (hc _ (by simp[Sc.names])) fun c=>bE h0 fun _=>hk _
theorem Hb(h0:ρ none none)(A:Ag u st aF):∀{cs:List Sc}{qs:List (Option Ty)}(_:∀c∈cs,tM u c){k:List Cv→Option R}{k':List Cv→Option R'}(_:∀c,ρ (k c) (k' c)),ρ (Eo st cs qs k) (Eo aF cs qs k')
 | [],[],_,_,_,hk=>hk _
 | [],_::_,_,_,_,_=>h0
 |_::_,[],_,_,_,_=>h0
 |c::cs,q::qs,hc,k,k',hk=>EW h0 A (hc c (by simp)) fun x=>Hb h0 A (fun c h=>hc c (by simp[h])) fun xs=>hk _
theorem kg{t:Ty}{s:Sv}{cs:List Sc}(h:fp t s=some cs):∀c∈cs,c∈s.cells:=by
 unfold fp at h
 split at h<;>cases h<;>simp[Sv.cells,Cm.cells]
theorem Lz(h0:ρ none none)(A:Ag u st aF){t:Ty}{s:Sv}(hs:EU u s){k:El t→Option R}{k':El t→Option R'}(hk:∀c,ρ (k c) (k' c)):ρ (sP st t s k) (sP aF t s k'):=
  bZ h0 fun cs fq=>Hb h0 A (fun c h=>(hs c (kg fq c h)).2) fun xs=>dC h0 fun y _=>hk y
theorem uZ(h0:ρ none none)(A:Ag u st aF){c:Sc}(hc:tM u c){q:Option Ty}{k:Cv→Bool→St→List (Nat×Rt)→Option R}{k':Cv→Bool→St→List (Nat×Rt)→Option R'}
 (hk:∀x d s s' v,Ag u s s'→ρ (k x d s v) (k' x d s' v)):ρ (kE st c q k) (kE aF c q k'):=by
 unfold kE
 split<;>first
  | exact h0
  | exact hk _ _ _ _ _ A
  |exact lE h0 A (hc _ (by simp[Sc.names])) fun c=>bE h0 fun _=>lW (fun _=>hk _ _ _ _ _ A) fun _=>hk _ _ _ _ _ (A.b7 _ _)
theorem CI(h0:ρ none none)(A:Ag u st aF){c:Sc}(hc:tM u c){q:Option Ty}{k:Cv→Bool→St→List (Nat×Rt)→Option R}{k':Cv→Bool→St→List (Nat×Rt)→Option R'}
 (hk:∀x d s s' v,Ag u s s'→ρ (k x d s v) (k' x d s' v)):ρ (ml st c q k) (ml aF c q k'):=by
 unfold ml
 split
 ·exact j7 h0 A (hc _ (by simp[Sc.names])) fun r=>bE h0 fun _=>bZ h0 fun s _=>hk _ _ _ _ _ (A.b7 _ _)
 ·exact uZ h0 A hc hk
theorem To(h0:ρ none none)(A:Ag u st aF){c:Sc}(hc:tM u c){q:Option Ty}{k:Cv→Bool→St→List (Nat×Rt)→Option R}{k':Cv→Bool→St→List (Nat×Rt)→Option R'}
 (hk:∀x d s s' v,Ag u s s'→ρ (k x d s v) (k' x d s' v)):ρ (ze st c q k) (ze aF c q k'):=by
 unfold ze
 split
 ·exact lE h0 A (hc _ (by simp[Sc.names])) fun r=>lW (fun _=>hk _ _ _ _ _ (A.b7 _ _)) fun _=>uZ h0 A hc hk
 ·exact CI h0 A hc hk
theorem Hc(h0:ρ none none):∀{st aF:St}(_:Ag u st aF){cs:List Sc}{qs:List (Option Ty)}(_:∀c∈cs,tM u c){k:List Cv→Bool→St→List (Nat×Rt)→Option R}{k':List Cv→Bool→St→List (Nat×Rt)→Option R'}
 (_:∀x d s s' v,Ag u s s'→ρ (k x d s v) (k' x d s' v)),ρ (tC st cs qs k) (tC aF cs qs k')
 |_,_,A,[],[],_,_,_,hk=>hk _ _ _ _ _ A
 |_,_,_,[],_::_,_,_,_,_=>h0
 |_,_,_,_::_,[],_,_,_,_=>h0
 |_,_,A,c::cs,q::qs,hc,k,k',hk=>CI h0 A (hc c (by simp)) fun x d s s' v A=>Hc h0 A (fun c h=>hc c (by simp[h])) fun _ _ _ _ _ A=>hk _ _ _ _ _ A
theorem AY(h0:ρ none none):∀{st aF:St}(_:Ag u st aF){cs:List Sc}{qs:List (Option Ty)}(_:∀c∈cs,tM u c){k:List Cv→Bool→St→List (Nat×Rt)→Option R}{k':List Cv→Bool→St→List (Nat×Rt)→Option R'}
 (_:∀x d s s' v,Ag u s s'→ρ (k x d s v) (k' x d s' v)),ρ (qp st cs qs k) (qp aF cs qs k')
 |_,_,A,[],[],_,_,_,hk=>hk _ _ _ _ _ A
 |_,_,_,[],_::_,_,_,_,_=>h0
 |_,_,_,_::_,[],_,_,_,_=>h0
 |_,_,A,c::cs,q::qs,hc,k,k',hk=>uZ h0 A (hc c (by simp)) fun x d s s' v A=>AY h0 A (fun c h=>hc c (by simp[h])) fun _ _ _ _ _ A=>hk _ _ _ _ _ A
theorem Tp(h0:ρ none none)(A:Ag u st aF){t:Ty}{s:Sv}(hs:EU u s){k:El t→Bool→St→List (Nat×Rt)→Option R}{k':El t→Bool→St→List (Nat×Rt)→Option R'}
 (hk:∀x d s s' v,Ag u s s'→ρ (k x d s v) (k' x d s' v)):ρ (zc st t s k) (zc aF t s k'):=
  bZ h0 fun cs fq=>AY h0 A (fun c h=>(hs c (kg fq c h)).2) fun xs d s s' v A=>dC h0 fun y _=>hk _ _ _ _ _ A
theorem LA(h0:ρ none none)(A:Ag u st aF){t:Ty}{s:Sv}(hs:EU u s){k:El t→Bool→St→List (Nat×Rt)→Option R}{k':El t→Bool→St→List (Nat×Rt)→Option R'}
 (hk:∀x d s s' v,Ag u s s'→ρ (k x d s v) (k' x d s' v)):ρ (sQ st t s k) (sQ aF t s k'):=
  bZ h0 fun cs fq=>Hc h0 A (fun c h=>(hs c (kg fq c h)).2) fun xs d s s' v A=>dC h0 fun y _=>hk _ _ _ _ _ A
theorem vX(h0:ρ none none)(A:Ag u st aF){id:Nat}(hi:u.oc id=true){t:Ty}{md:Md}{xs:List (El t)}{k:cC→Option R}{k':cC→Option R'}(hk:∀c,ρ (k c) (k' c)):ρ (mkRoot st id t md xs k) (mkRoot aF id t md xs k'):=by
 unfold mkRoot
 rw[A.r id hi]
 split<;>first | exact h0 | exact hk _
theorem sX(h0:ρ none none)(A:Ag u st aF){id:Nat}(hi:u.oc id=true){t:Ty}{md:Md}{xs:List (El t)}{k:cC→Option R}{k':cC→Option R'}(hk:∀c,ρ (k c) (k' c)):ρ (kL st id t md xs k) (kL aF id t md xs k'):=by
 unfold kL
 rw[A.r id hi]
 split
 ·exact bE h0 fun _=>hk _
 ·exact vX h0 A hi hk
def Eg(u:nu)(b:Nat):Prop:=(cE b u.b||uY u.d b)=true
theorem Eg.r{b id:Nat}(h:Eg u b)(hi:id/64=b):u.oc id=true:=by
 subst hi;unfold Eg at h;simp only[nu.oc,h,Bool.or_true]
theorem Eg.b{b:Nat}(h:Eg u b):u.hasB b=true:=h
theorem LB{id:Nat}(h:Nat.beq (id%64) 63=false):(id+1)/64=id/64:=by
 have h:id%64≠63:=fun e=>by rw[e] at h;cases h
 omega
theorem vY(h0:ρ none none){b:Nat}(hb:Eg u b){own:Bool}:∀{cs:List Cv}{st aF:St}(_:Ag u st aF){id:Nat}(_:id/64=b){k:List Sc→Nat→St→List (Nat×Rt)→Option R}{k':List Sc→Nat→St→List (Nat×Rt)→Option R'}
 (_:∀ss n s s' v,Ag u s s'→n/64=b→(∀ c∈ss,tM u c)→ρ (k ss n s v) (k' ss n s' v)),ρ (vk own st id cs k) (vk own aF id cs k')
 | [],_,_,A,id,hi,_,_,hk=>hk _ _ _ _ _ A hi (by simp)
 | .v x::cs,_,_,A,id,hi,k,k',hk=>vY h0 hb A hi (k:=fun ss n st u=>k (.v x::ss) n st u) (k':=fun ss n st u=>k' (.v x::ss) n st u) fun ss n s s' v A hn hs=>hk (.v x::ss) n s s' v A hn (by
   intro c hc;rcases List.mem_cons.1 hc with rfl | hc
   ·simp[tM,Sc.names]
   ·exact hs c hc)
 | .l t xs::cs,_,_,A,id,hi,_,_,hk=>lW (fun _=>h0) fun h64=>lW
   (fun _=>vX h0 A (hb.r hi) fun r=>vY h0 hb (A.b7 _ _) ((LB h64).trans hi) fun ss n s s' v A hn hs=>hk (.h id r.ver 0 []::ss) n s s' ((id,.live r)::v) A hn (by
    intro c hc;rcases List.mem_cons.1 hc with rfl | hc
    ·intro i nz;simp[Sc.names] at nz;subst nz;exact hb.r hi
    ·exact hs c hc))
   (fun _=>vY h0 hb A ((LB h64).trans hi) fun ss n s s' v A hn hs=>hk (.ro t xs::ss) n s s' v A hn (by
    intro c hc;rcases List.mem_cons.1 hc with rfl | hc
    ·simp[tM,Sc.names]
    ·exact hs c hc))
theorem Tq{u:nu}{cs:List Cv}:∀c∈ID cs,tM u c:=by
 intro c hc
 obtain⟨x,_,rfl⟩:=List.mem_map.1 hc
 cases x<;>simp[tM,Sc.names]
theorem LC(h0:ρ none none){b:Nat}(hb:Eg u b){own:Bool}{t:Ty}{cs:List Cv}{st aF:St}(A:Ag u st aF){id:Nat}(hi:id/64=b){k:List Sc→Nat→St→List (Nat×Rt)→Option R}{k':List Sc→Nat→St→List (Nat×Rt)→Option R'}
 (hk:∀ss n s s' v,Ag u s s'→n/64=b→(∀ c∈ss,tM u c)→ρ (k ss n s v) (k' ss n s' v)):ρ (vl own st id t cs k) (vl own aF id t cs k'):=
  lW (fun _=>hk _ _ _ _ _ A hi Tq) fun _=>vY h0 hb A hi hk
theorem YS(h0:ρ none none){st aF:St}(A:Ag u st aF){t:Ty}{cs:List Sc}(hc:∀c∈cs,tM u c){k:List Cv→Bool→St→List (Nat×Rt)→Option R}{k':List Cv→Bool→St→List (Nat×Rt)→Option R'}
 (hk:∀x d s s' v,Ag u s s'→ρ (k x d s v) (k' x d s' v)):ρ (SP st t cs k) (SP aF t cs k'):=
  lW (fun _=>dC h0 fun _ _=>hk _ _ _ _ _ A) fun _=>AY h0 A hc hk
theorem LD(h0:ρ none none)(A:Ag u st aF){c:Sc}(hc:CIn u c){n:Nat}{k:List Sc→Option R}{k':List Sc→Option R'}(hk:∀c,ρ (k c) (k' c)):ρ (loadAt st c n k) (loadAt aF c n k'):=by
 unfold loadAt
 split
 ·rw[A.b _ (nu.rl (hc.1 _ (by simp[Sc.names])))]
  exact bZ h0 fun x _=>bE h0 fun _=>hk _
 ·exact j7 h0 A (hc.2 _ (by simp[Sc.names])) fun r=>bE h0 fun _=>bZ h0 fun s _=>bE h0 fun _=>hk _
 ·exact bE h0 fun _=>hk _
 ·exact h0
theorem CJ(h0:ρ none none)(A:Ag u st aF):∀{bs:List Nat}(_:∀b∈bs,cE b u.b=true){k:List (Σ t:Ty,El t)→Option R}{k':List (Σ t:Ty,El t)→Option R'}(_:∀c,ρ (k c) (k' c)),ρ (nw st bs k) (nw aF bs k')
 | [],_,_,_,hk=>hk _
 |b::bs,hb,k,k',hk=>by
  simp only[nw]
  rw[A.b b (nu.rl (hb b (by simp)))]
  exact bZ h0 fun x hx=>Hb h0 A (A.cb b (hb b (by simp)) x hx) fun cv=>dC h0 fun y _=>CJ h0 A (fun b h=>hb b (by simp[h])) fun ys=>hk _
def YT(u:nu):Bk→Prop | .root id _ _=>u.oc id=true | .box b=>cE b u.b=true
theorem zw(h0:ρ none none)(A:Ag u st aF){m:Am}{T:Nat}{s:Sv}(hs:EU u s){k:Dt→List Bk→St→Dl→Option R}{k':Dt→List Bk→St→Dl→Option R'}
 (hk:∀x b s s' d,Ag u s s'→(∀ y∈b,YT u y)→ρ (k x b s d) (k' x b s' d)):ρ (gh E m T s st k) (gh E m T s aF k'):=by
 have one:∀{c:Sc},EU u (.c (.one c))→CIn u c:=fun h=>h _ (by simp[Sv.cells,Cm.cells])
 unfold gh
 cases m
 ·exact dC h0 fun t _=>Lz h0 A hs fun x=>hk _ _ _ _ _ A (by simp)
 ·simp only
  split
  ·exact j7 h0 A ((one hs).2 _ (by simp[Sc.names])) fun r=>bE h0 fun _=>bZ h0 fun s _=>hk _ _ _ _ _ (A.b7 _ _) (by intro y hy;simp at hy;subst hy;exact (one hs).2 _ (by simp[Sc.names]))
  ·exact h0
 ·exact dC h0 fun t _=>Tp h0 A hs fun x d s s' v A=>bE h0 fun _=>hk _ _ _ _ _ A (by simp)
 ·simp only
  split
  ·rename_i b
   have hb:=(one hs).1 b (by simp[Sc.names])
   rw[A.b _ (nu.rl hb)]
   exact bZ h0 fun x hx=>Hb h0 A (A.cb b hb x hx) fun cv=>dC h0 fun y _=>hk _ _ _ _ _ A (by simp)
  ·exact hk _ _ _ _ _ A (by simp)
  ·exact h0
 ·simp only
  split
  ·rename_i b
   have hb:=(one hs).1 b (by simp[Sc.names])
   rw[A.b _ (nu.rl hb)]
   exact bZ h0 fun x hx=>YS h0 A (A.cb b hb x hx) fun cv d s s' v A=>bE h0 fun _=>dC h0 fun y _=>hk _ _ _ _ _ (A.dM b _ (by simp[tM,Sc.names])) (by intro y hy;simp at hy;subst hy;exact hb)
  ·exact h0
 ·simp only
  split
  ·exact CJ h0 A (fun b hb=>(one hs).1 b (by simpa [Sc.names] using hb)) fun ys=>hk _ _ _ _ _ A (by simp)
  ·exact hk _ _ _ _ _ A (by simp)
  ·exact h0
 ·simp only
  split
  ·exact hk _ _ _ _ _ A (by simp)
  ·exact h0
 ·exact dC h0 fun t _=>dC h0 fun cs _=>dC h0 fun cv _=>dC h0 fun x _=>hk _ _ _ _ _ A (by simp)
theorem qw(h0:ρ none none):∀{l:List (Am×Nat×Sv)}{st aF:St}(_:Ag u st aF)(_:∀a∈l,EU u a.2.2){k:List Dt→List Bk→St→Dl→Option R}{k':List Dt→List Bk→St→Dl→Option R'}
 (_:∀x b s s' d,Ag u s s'→(∀ y∈b,YT u y)→ρ (k x b s d) (k' x b s' d)),ρ (dH E l st k) (dH E l aF k')
  | [],_,_,A,_,_,_,hk=>hk _ _ _ _ _ A (by simp)
  | (m,T,s)::l,_,_,A,hl,k,k',hk=>by
    simp only[dH]
    split
    · exact qw h0 A (fun a h=>hl a (by simp[h])) fun xs bs s1 s1' d A hb=>zw h0 A (hl (m,T,s) (by simp)) fun x _ _ _ _ _ _=>hk _ _ _ _ _ A hb
    · exact zw h0 A (hl (m,T,s) (by simp)) fun x b s s' d A hb=>qw h0 A (fun a h=>hl a (by simp[h])) fun xs bs s s' d A fI=>hk (x::xs) (b++bs) _ _ _ A (by
        intro y hy;rcases List.mem_append.1 hy with hy | hy
        · exact hb y hy
        · exact fI y hy)
theorem qx(h0:ρ none none):∀{bs:List Bk}{ds:List Dt}{st aF:St}(_:Ag u st aF)(_:∀y∈bs,YT u y){k:St→Dl→Option R}{k':St→Dl→Option R'}
 (_:∀s s' d,Ag u s s'→ρ (k s d) (k' s' d)),ρ (gB st bs ds k) (gB aF bs ds k')
 | [],[],_,_,A,_,_,_,hk=>hk _ _ _ A
 | [],_::_,_,_,_,_,_,_,_=>h0
 | .root id r p::bs,[],_,_,_,_,_,_,_=>h0
 | .box b::bs,[],_,_,_,_,_,_,_=>h0
 | .root id r p::bs,.fi _ _::ds,_,_,_,_,_,_,_=>h0
 | .box b::bs,.fi _ _::ds,_,_,_,_,_,_,_=>h0
 | .root id r p::bs,.d t x::ds,st,aF,A,hb,k,k',hk=>by
  cases t
  case sl t=>
   exact dC h0 fun zs _=>qx h0 (A.b7 _ _) (fun y h=>hb y (by simp[h])) fun s s' d A=>hk _ _ _ A
  all_goals exact h0
 | .box b::bs,.d t x::ds,st,aF,A,hb,k,k',hk=>by
  have fI:cE b u.b=true:=hb (.box b) (by simp)
  have hD:Eg u b:=by simp[Eg,fI]
  exact LC h0 hD A (by omega) fun cs n s s' v A _ hc=>qx h0 (A.dM _ _ hc) (fun y h=>hb y (by simp[h])) fun s s' d A=>hk _ _ _ A
theorem vZ(h0:ρ none none){d:Nat}(hd:Eg u d){own:Bool}:∀{ps:List Bool}{ds:List Dt}{st aF:St}(_:Ag u st aF){id:Nat}(_:id/64=d){k:List Cm→St→Dl→Option R}{k':List Cm→St→Dl→Option R'}
 (_:∀c s s' d,Ag u s s'→ρ (k c s d) (k' c s' d)),ρ (eH own st d id ps ds k) (eH own aF d id ps ds k')
 | [],[],_,_,A,_,_,_,_,hk=>hk _ _ _ _ A
 | [],_::_,_,_,_,_,_,_,_,_=>h0
 |false::ps,[],_,_,_,_,_,_,_,_=>h0
 |true::ps,[],_,_,_,_,_,_,_,_=>h0
 |false::ps,.fi _ _::ds,_,_,_,_,_,_,_,_=>h0
 |true::ps,.fi _ _::ds,_,_,_,_,_,_,_,_=>h0
 |false::ps,.d t x::ds,_,_,A,id,hi,_,_,hk=>vY h0 hd A hi fun cs n s s' v A hn _=>bZ h0 fun c _=>vZ h0 hd A hn fun r s s' u' A=>hk _ _ _ _ A
 |true::ps,.d t x::ds,st,aF,A,id,hi,k,k',hk=>by
  simp only[eH]
  rw[A.b d hd.b]
  split
  ·exact LC h0 hd A hi fun cs n s s' v A hn hc=>vZ h0 hd (A.dM _ _ hc) hn fun r s s' u' A=>hk _ _ _ _ A
  ·exact h0
theorem v7(h0:ρ none none):∀{ids:List Nat}{st aF:St}(_:Ag u st aF)(_:∀i∈ids,u.oc i=true){k:St→List (Nat×Rt)→Option R}{k':St→List (Nat×Rt)→Option R'}
 (_:∀s s' d,Ag u s s'→ρ (k s d) (k' s' d)),ρ (freeze st ids k) (freeze aF ids k')
 | [],_,_,A,_,_,_,hk=>hk _ _ _ A
 |id::ids,st,aF,A,hi,k,k',hk=>by
  simp only[freeze]
  rw[A.r id (hi id (by simp))]
  split
  ·exact lW (fun _=>h0) fun _=>v7 h0 (A.b7 _ _) (fun i h=>hi i (by simp[h])) fun s s' d A=>hk _ _ _ A
  ·exact v7 h0 A (fun i h=>hi i (by simp[h])) hk
end Go.Gm
namespace Go.Gm
open Go
variable {R R' : Type} {ρ : Option R → Option R' → Prop} {u : nu} {st aF : St} {E : Env} {o : Oper}
theorem Je{l:List (Nat×Sv)}(hl:∀a∈l,EU u a.2):∀i∈((l.map fun a=>(a.2.cells.map fun c=>c.names.2).flatten).flatten),u.oc i=true:=by
 intro i hi
 simp only[List.mem_flatten,List.mem_map] at hi
 obtain⟨_,⟨a,ha,rfl⟩,hi⟩:=hi
 simp only[List.mem_flatten,List.mem_map] at hi
 obtain⟨_,⟨c,hc,rfl⟩,hi⟩:=hi
 exact (hl a ha c hc).2 i hi
theorem LF(h0:ρ none none){s:Spec}(hs:s.mA)(ds:List Dt){k:Kt R}{k':Kt R'}(hk:∀x,ρ (k x) (k' x)):ρ (s.fn ds k) (s.fn ds k'):=by
 obtain⟨q,hq⟩:=hs ds
 rw[hq,hq]
 exact bZ h0 fun x _=>hk x
theorem AZ:∀{sh:List Nat}{args lU:List (Nat×Sv)},Ax sh args=some lU→(∀ a∈args,EU u a.2)→∀a∈lU,EU u a.2
  | [],args,lU,he,h=>by cases he;exact h
  |0::sh,[],_,he,_=>by cases he
  |0::sh,x::l,lU,he,h=>by
    simp only[Ax] at he
    obtain⟨r,hr,he⟩:=Option.bind_eq_some_iff.1 he
    cases he
    intro a ha
    rcases List.mem_cons.1 ha with rfl | ha
    · exact h _ (by simp)
    · exact AZ hr (fun a ha=>h a (by simp[ha])) a ha
  | (n+1)::sh,[],_,he,_=>by cases he
  | (n+1)::sh,(T,s)::l,lU,he,h=>by
    cases s with
    |yZ _=>cases he
    |c x=>
    cases x with
    |one _=>cases he
    |agg cs=>
    simp only[Ax] at he
    obtain⟨hlen,he⟩:=bh he
    obtain⟨r,hr,he⟩:=Option.bind_eq_some_iff.1 he
    cases he
    intro a ha
    rcases List.mem_append.1 ha with ha | ha
    · obtain⟨c,hc,rfl⟩:=List.mem_map.1 ha
      intro c' tD
      have:c'=c:=by simpa [Sv.cells,Cm.cells] using tD
      subst this
      exact h (T,.c (.agg cs)) (by simp) _ (by simpa [Sv.cells,Cm.cells] using hc)
    · exact AZ hr (fun a ha=>h a (by simp[ha])) a ha
theorem CK(h0:ρ none none)(hN:E.mA)(A:Ag u st aF)(hd:Eg u (o.dst.getD 0)){fn:Nat}{args:List (Nat×Sv)}(ha:∀a∈args,EU u a.2){k:Dl→Option R}{k':Dl→Option R'}
 (hk:∀d,ρ (k d) (k' d)):ρ (lq E o fn args st k) (lq E o fn args aF k'):=by
  unfold lq
  refine bZ h0 fun sp K1=>bZ h0 fun lU hex=> ?_
  replace ha:=AZ hex ha
  refine bE h0 fun _=>qw h0 A (fun a h=> ?_) fun ds bs s s' d A hb=>LF h0 (hN _ _ K1) ds fun outs=>qx h0 A hb fun s s' d1 A=> ?_
  · obtain⟨m,T,s⟩:=a
    exact ha (T,s) (List.of_mem_zip h).2
  · have fin:∀(own:Bool){s s':St}(u0:List (Nat×Rt)),Ag u s s'→ρ (eH own s (o.dst.getD 0) (64*o.dst.getD 0) sp.res (outs.take sp.res.length) fun rs _ u'=>
            k { slot:=o.dst.map fun q=>(q,match rs with | [r]=> .c r | rs=> .yZ rs),boxes:=d.boxes++(d1.boxes++u'.boxes),roots:=d.roots++(d1.roots++(u0++u'.roots)) })
          (eH own s' (o.dst.getD 0) (64*o.dst.getD 0) sp.res (outs.take sp.res.length) fun rs _ u'=>
            k' { slot:=o.dst.map fun q=>(q,match rs with | [r]=> .c r | rs=> .yZ rs),boxes:=d.boxes++(d1.boxes++u'.boxes),roots:=d.roots++(d1.roots++(u0++u'.roots)) }):=
      fun own _ _ _ A=>vZ h0 hd A (by omega) fun _ _ _ _ _=>hk _
    cases sp.own with
    |true=>exact fin true [] A
    |false=>exact v7 h0 A (Je ha) fun s s' u0 A=>fin false u0 A
theorem A0(h0:ρ none none)(A:Ag u st aF){e:Ty}{c:Sc}(hc:tM u c){k:List (El e)→Bool→St→List (Nat×Rt)→Option R}{k':List (El e)→Bool→St→List (Nat×Rt)→Option R'}
 (hk:∀x d s s' v,Ag u s s'→ρ (k x d s v) (k' x d s' v)):ρ (lR st e c k) (lR aF e c k'):=by
 unfold lR
 split
 ·exact EW h0 A hc fun x=>dC h0 fun xs _=>hk _ _ _ _ _ A
 ·exact To h0 A hc fun x d s s' v A=>dC h0 fun xs _=>hk _ _ _ _ _ A
theorem EX(h0:ρ none none)(A:Ag u st aF)(hd:Eg u (o.dst.getD 0)){T:Nat}{s x:Sc}(hs:tM u s)(hx:tM u x){k:Dl→Option R}{k':Dl→Option R'}
 (hk:∀d,ρ (k d) (k' d)):ρ (mQ E o T s x st k) (mQ E o T s x aF k'):=by
 unfold mQ
 split
 ·split
  ·exact A0 h0 A hx fun ys d s s' v A=>bE h0 fun _=>sX h0 A (hd.r (by omega)) fun r=>hk _
  ·exact A0 h0 A hx fun ys d s s' v A=>lE h0 A (hs _ (by simp[Sc.names])) fun r=>lW (fun _=>h0) fun _=>dC h0 fun xs _=>bE h0 fun _=>hk _
  ·exact A0 h0 A hx fun ys d s s' v A=>j7 h0 A (hs _ (by simp[Sc.names])) fun r=>bE h0 fun _=>bZ h0 fun s _=>dC h0 fun xs _=>bE h0 fun _=>vX h0 A (hd.r (by omega)) fun r2=>hk _
  ·exact h0
 ·exact h0
theorem CL(h0:ρ none none)(A:Ag u st aF)(hd:Eg u (o.dst.getD 0)){b:Builtin}{c:Call}(hx:∀x∈c.args.toList,Ef u x){k:Dl→Option R}{k':Dl→Option R'}
 (hk:∀d,ρ (k d) (k' d)):ρ (eY E o b c st k) (eY E o b c aF k'):=by
 unfold eY
 split
 ·split
  ·rename_i he _
   exact jK h0 A (hx _ (by simp[he])) fun c hc=>by
    split
    ·exact bE h0 fun _=>hk _
    ·exact bZ h0 fun _ _=>hk _
    ·exact bZ h0 fun _ _=>hk _
    ·exact bZ h0 fun _ _=>j7 h0 A (hc.2 _ (by simp[Sc.names])) fun r=>bE h0 fun _=>bZ h0 fun s _=>hk _
    ·exact bZ h0 fun _ _=>lE h0 A (hc.2 _ (by simp[Sc.names])) fun r=>hk _
    ·exact h0
  ·exact h0
 ·split
  ·rename_i he _
   exact bZ h0 fun _ _=>jK h0 A (hx _ (by simp[he])) fun s hs=>jK h0 A (hx _ (by simp[he])) fun x hx=>EX h0 A hd hs.2 hx.2 hk
  ·exact h0
 ·split
  ·rename_i he
   exact lD h0 A (hx _ (by simp[he])) fun x=>lD h0 A (hx _ (by simp[he])) fun y=>bZ h0 fun z _=>hk _
  ·exact h0
 ·split
  ·rename_i he
   exact lD h0 A (hx _ (by simp[he])) fun x=>lD h0 A (hx _ (by simp[he])) fun y=>bZ h0 fun z _=>hk _
  ·exact h0
 ·split
  ·rename_i he _
   exact bE h0 fun _=>bZ h0 fun _ _=>jK h0 A (hx _ (by simp[he])) fun c hc=>by
    split
    ·exact lE h0 A (hc.2 _ (by simp[Sc.names])) fun r=>bE h0 fun _=>bZ h0 fun _ _=>hk _
    ·exact h0
  ·exact h0
 ·exact h0
theorem zx(h0:ρ none none)(A:Ag u st aF){T:Nat}:∀{ps:List (Nat×Operand)}{row:List Sc}(_:∀p∈ps,Ef u p.2){k:List Sc→Option R}{k':List Sc→Option R'}(_:∀c,ρ (k c) (k' c)),ρ (j4 E T st ps row k) (j4 E T aF ps row k')
  | [],_,_,_,_,hk=>hk _
  | (i,x)::ps,row,hp,k,k',hk=>by
    have hx:Ef u x:=hp (i,x) (by simp)
    simp only[j4]
    exact dC h0 fun (off,ft) _=>bZ h0 fun t _=>jk h0 A hx fun s _=>bZ h0 fun cs _=>bE h0 fun _=>zx h0 A (fun p h=>hp p (by simp[h])) hk
theorem zy(h0:ρ none none){e:Ty}:∀{ps:List (Nat×Operand)}{xs:List (El e)}{st aF:St}(_:Ag u st aF)(_:∀p∈ps,Ef u p.2){k:List (El e)→Bool→St→List (Nat×Rt)→Option R}{k':List (El e)→Bool→St→List (Nat×Rt)→Option R'}
 (_:∀x d s s' v,Ag u s s'→ρ (k x d s v) (k' x d s' v)),ρ (j5 e st ps xs k) (j5 e aF ps xs k')
  | [],_,_,_,A,_,_,_,hk=>hk _ _ _ _ _ A
  | (i,x)::ps,xs,_,_,A,hp,k,k',hk=>by
    have hx:Ef u x:=hp (i,x) (by simp)
    simp only[j5]
    exact jk h0 A hx fun s hs=>LA h0 A hs fun y d s s' v A=>bE h0 fun _=>zy h0 A (fun p h=>hp p (by simp[h])) fun _ _ _ _ _ A=>hk _ _ _ _ _ A
theorem u5(h0:ρ none none)(A:Ag u st aF):∀{xs:List Operand}(_:∀x∈xs,Ef u x){k:List Sv→Option R}{k':List Sv→Option R'}(_:∀ss,(∀ s∈ss,EU u s)→ρ (k ss) (k' ss)),ρ (mR st xs k) (mR aF xs k')
 | [],_,_,_,hk=>hk _ (by simp)
 |x::xs,hx,k,k',hk=>by
  simp only[mR]
  exact jk h0 A (hx x (by simp)) fun s hs=>u5 h0 A (fun x h=>hx x (by simp[h])) fun ss zj=>hk (s::ss) (by
   intro y hy;rcases List.mem_cons.1 hy with rfl | hy
   ·exact hs
   ·exact zj y hy)
theorem m8(h0:ρ none none)(A:Ag u st aF){x:Option Operand}{d:Int}(hx:∀y,x=some y→Ef u y){k:Int→Option R}{k':Int→Option R'}(hk:∀c,ρ (k c) (k' c)):ρ (fW st x d k) (fW aF x d k'):=by
 cases x with
 |none=>exact hk _
 |some x=>exact oH h0 A (hx x rfl) hk
theorem Jf(h0:ρ none none){op:BinOp}{tb:Bool}{x y:Value}{k:Value→Option R}{k':Value→Option R'}(hk:∀c,ρ (k c) (k' c)):ρ (zd op tb x y k) (zd op tb x y k'):=by
 unfold zd
 split
 ·split
  ·exact lW (fun _=>h0) fun _=>hk _
  ·exact lW (fun _=>h0) fun _=>hk _
  ·refine bE h0 fun _=> ?_
   split<;>first | exact hk _ | exact h0 | exact lW (fun _=>h0) fun _=>hk _
 ·split<;>first | exact hk _ | exact h0 | exact bE h0 fun _=>hk _
 ·split<;>first | exact h0 | exact bE h0 fun _=>hk _
 ·exact h0
theorem Xn(h0:ρ none none)(hN:E.mA)(A:Ag u st aF)(hd:Eg u (o.dst.getD 0))(hx:∀x∈o.op.operands.toList,Ef u x){k:Dl→Option R}{k':Dl→Option R'}
 (hk:∀d,ρ (k d) (k' d)):ρ (eZ E o st k) (eZ E o aF k'):=by
 have hB:=A.b _ hd.b
 unfold eZ
 split<;>rename_i b9<;>simp only[b9,Op.operands] at hx
 ·exact jk h0 A (hx _ (by simp)) fun s _=>hk _
 ·exact jk h0 A (hx _ (by simp)) fun s _=>hk _
 ·exact Jd h0 A (hx _ (by simp)) fun t=>lW (fun _=>jk h0 A (hx _ (by simp)) fun s _=>hk _) fun _=>jk h0 A (hx _ (by simp)) fun s _=>hk _
 ·refine bZ h0 fun t _=>dC h0 fun d S1=> ?_
  rw[S1] at hB;simp only[Option.getD_some] at hB;rw[hB]
  split
  ·exact hk _
  ·exact h0
 ·refine bZ h0 fun t _=>dC h0 fun d S1=> ?_
  rw[S1] at hB;simp only[Option.getD_some] at hB;rw[hB]
  split
  ·exact jk h0 A (hx _ (by simp)) fun s _=>bZ h0 fun cs _=>bE h0 fun _=>hk _
  ·exact h0
 ·exact bZ h0 fun t _=>bE h0 fun _=>zx h0 A (fun p hp=>hx _ (by simp only[Array.toList_map,List.mem_map];exact⟨p,hp,rfl⟩)) fun row=>hk _
 ·split
  ·exact bE h0 fun _=>zy h0 A (fun p hp=>hx _ (by simp only[Array.toList_map,List.mem_map];exact⟨p,hp,rfl⟩)) fun xs d s s' v A=>sX h0 A (hd.r (by omega)) fun r=>hk _
  ·exact h0
 ·exact bZ h0 fun t _=>jK h0 A (hx _ (by simp)) fun c hc=>LD h0 A hc fun cs=>bZ h0 fun c _=>hk _
 ·refine bE h0 fun _=>bZ h0 fun t _=>jK h0 A (hx _ (by simp)) fun c hc=>jk h0 A (hx _ (by simp)) fun s hs=>bZ h0 fun cs fq=>bE h0 fun _=> ?_
  split
  ·rw[A.b _ (nu.rl (hc.1 _ (by simp[Sc.names])))]
   exact bZ h0 fun y _=>bE h0 fun _=>hk _
  ·have hi:=hc.2 _ (List.mem_singleton.2 rfl:_∈(Sc.pe _ _ _ _ _ _).names.2)
   refine j7 h0 A hi fun r=> ?_
   split
   ·refine bE h0 fun _=> ?_
    split
    ·exact bZ h0 fun s0 _=>uZ h0 A (hs _ (kg fq _ (by simp))).2 fun cv d s s' v A=>bE h0 fun _=>lE h0 A hi fun r=>dC h0 fun ys _=>dC h0 fun zs _=>hk _
    ·exact h0
   ·exact bZ h0 fun s _=>bE h0 fun _=>AY h0 A (fun c h=>(hs c (kg fq c h)).2) fun cv d s s' v A=>lE h0 A hi fun r=>bE h0 fun _=>dC h0 fun y _=>dC h0 fun zs _=>hk _
  ·exact h0
 ·exact jK h0 A (hx _ (by simp)) fun c hc=>by
   split
   ·exact hk _
   ·exact j7 h0 A (hc.2 _ (by simp[Sc.names])) fun _=>hk _
   ·exact hk _
   ·exact hk _
   ·exact hk _
   ·exact h0
 ·exact jk h0 A (hx _ (by simp)) fun x _=>jk h0 A (hx _ (by simp)) fun y _=>by
   split
   ·exact Jf h0 fun z=>hk _
   ·refine bZ h0 fun _ _=> ?_
    split
    ·exact dC h0 fun e _=>hk _
    ·exact dC h0 fun e _=>hk _
    ·exact h0
   ·refine dC h0 fun _ _=>lW (fun _=>h0) fun _=> ?_
    split
    ·exact hk _
    ·exact hk _
    ·exact h0
   ·exact h0
 ·exact lD h0 A (hx _ (by simp)) fun x=>by
   split
   ·exact hk _
   ·exact hk _
   ·exact h0
 ·split
  ·exact lD h0 A (hx _ (by simp)) fun x=>by split<;>first | exact hk _ | exact h0
  ·exact lD h0 A (hx _ (by simp)) fun x=>by split<;>first | exact hk _ | exact h0
  ·exact lD h0 A (hx _ (by simp)) fun x=>by split<;>first | exact hk _ | exact h0
  ·exact jK h0 A (hx _ (by simp)) fun c hc=>EW h0 A hc.2 fun cv=>dC h0 fun xs _=>hk _
  ·exact h0
 ·split
  ·exact u5 h0 A (fun x h=>hx x (by simp[h])) fun ss _=>dC h0 fun bs _=>hk _
  ·exact h0
 ·split
  ·exact oH h0 A (hx _ (by simp)) fun n=>oH h0 A (hx _ (by simp)) fun m=>bE h0 fun _=>sX h0 A (hd.r (by omega)) fun r=>hk _
  ·exact h0
 ·rename_i T x lo hi
  have yA:∀y,lo=some y→Ef u y:=fun y hy=>hx _ (by simp[hy])
  have W5:∀y,hi=some y→Ef u y:=fun y hy=>hx _ (by simp[hy])
  exact jK h0 A (hx _ (by simp)) fun c hc=>by
   split
   ·exact bE h0 fun _=>m8 h0 A yA fun l=>m8 h0 A W5 fun h=>bE h0 fun _=>hk _
   ·exact bZ h0 fun _ _=>bE h0 fun _=>m8 h0 A yA fun l=>m8 h0 A W5 fun h=>bE h0 fun _=>hk _
   ·exact bZ h0 fun _ _=>lE h0 A (hc.2 _ (by simp[Sc.names])) fun r=>bE h0 fun _=>m8 h0 A yA fun l=>m8 h0 A W5 fun h=>bE h0 fun _=>hk _
   ·exact h0
 ·exact dC h0 fun (off,_) _=>jK h0 A (hx _ (by simp)) fun c hc=>by
   split
   ·exact hk _
   ·exact j7 h0 A (hc.2 _ (by simp[Sc.names])) fun _=>hk _
   ·exact hk _
   ·exact h0
 ·exact dC h0 fun (off,_) _=>bZ h0 fun t _=>jk h0 A (hx _ (by simp)) fun s _=>by
   split
   ·exact bE h0 fun _=>bZ h0 fun c _=>hk _
   ·exact h0
 ·exact jK h0 A (hx _ (by simp)) fun c hc=>oH h0 A (hx _ (by simp)) fun i=>bZ h0 fun e _=>by
   split
   ·exact bE h0 fun _=>bE h0 fun _=>hk _
   ·exact j7 h0 A (hc.2 _ (by simp[Sc.names])) fun r=>bE h0 fun _=>bZ h0 fun s _=>bE h0 fun _=>bE h0 fun _=>hk _
   ·exact lE h0 A (hc.2 _ (by simp[Sc.names])) fun r=>bE h0 fun _=>bE h0 fun _=>hk _
   ·exact h0
 ·exact lD h0 A (hx _ (by simp)) fun x=>oH h0 A (hx _ (by simp)) fun i=>by
   split
   ·exact bE h0 fun _=>hk _
   ·exact h0
 ·exact jk h0 A (hx _ (by simp)) fun s _=>by
   split
   ·exact bZ h0 fun c _=>hk _
   ·exact h0
 ·rename_i c
  split
  ·rename_i hc
   exact CL h0 A hd (fun x h=>hx x (by simp[Call.operands,hc,h])) hk
  ·rename_i f hc
   exact jK h0 A (hx f (by simp[Call.operands,hc])) fun cf hcf=>by
    split
    ·rename_i fn bs
     refine u5 h0 A (fun x h=>hx x (by simp[Call.operands,hc,h])) fun ss zj=>bE h0 fun _=>CK h0 hN A hd (fun a ha=> ?_) hk
     rcases List.mem_append.1 ha with ha | ha
     ·obtain⟨T,s⟩:=a;exact zj s (List.of_mem_zip ha).2
     ·simp only[List.mem_map] at ha
      obtain⟨b,hb,rfl⟩:=ha
      intro c tD
      simp[Sv.cells,Cm.cells] at tD
      subst tD
      exact⟨by intro b' fI;simp[Sc.names] at fI;subst fI;exact hcf.1 _ (by simpa [Sc.names] using hb),by simp[tM,Sc.names]⟩
    ·rename_i fn ys
     refine u5 h0 A (fun x h=>hx x (by simp[Call.operands,hc,h])) fun ss zj=>bE h0 fun _=>CK h0 hN A hd (fun a ha=> ?_) hk
     rcases List.mem_append.1 ha with ha | ha
     ·obtain⟨T,s⟩:=a;exact zj s (List.of_mem_zip ha).2
     ·simp only[List.mem_map] at ha
      obtain⟨b,hb,rfl⟩:=ha
      intro c tD
      simp[Sv.cells,Cm.cells] at tD
      subst tD
      exact⟨by simp[Sc.names],by simp[tM,Sc.names]⟩
    ·exact h0
  ·exact h0
 ·exact h0
end Go.Gm
namespace Go.Gm
open Go
variable {R : Type} {P : Program} {E : Env} {w0 w : World} {Mf : Nat → Prop} {g : Gh} {st bz qu : St} {a : Act} {Q : Exit → Act → World → Prop}
  {o:Oper} {ops:Array Oper} {K:Act→World→Prop}
structure rq (st aF:St):Prop where
 s:au st.ay=au aF.ay
 b:au st.boxes=au aF.boxes
 r:au st.roots=au aF.roots
theorem rq.refl(st:St):rq st st:=⟨rfl,rfl,rfl⟩
theorem rq.symm(h:rq st bz):rq bz st:=⟨h.s.symm,h.b.symm,h.r.symm⟩
theorem rq.inv(h:rq st bz)(I:Inv w0 Mf g st a w):Inv w0 Mf g bz a w:=I.congr h.s h.b h.r
theorem cg{n:Nat}:∀{l:List Nat},cE n l=true↔n∈l
 | []=>by simp[cE]
 |m::l=>by
  have ih:=cg (n:=n) (l:=l)
  cases h:Nat.beq n m with
  |true=>
   have:=Nat.eq_of_beq_eq_true h
   subst this
   simp[cE,h]
  |false=>
   have:n≠m:=fun e=>by subst e;simp at h
   simp[cE,h,ih,this]
theorem nu.sIn{st:St}{n:Nat}(hn:(bJ ops st o).AU n=true){v:Sv}(hv:au st.ay n=some v):EU (bJ ops st o) v:=by
 have hs:=cg.1 hn
 have hns:∀c∈v.cells,c.names∈((bJ ops st o).s.map fun t=>match au st.ay t with | some v=>v.cells.map Sc.names | none=>[]).flatten:=by
  intro c hc
  simp only[List.mem_flatten,List.mem_map]
  refine⟨v.cells.map Sc.names,⟨n,hs,by simp[hv]⟩,List.mem_map.2 ⟨c,hc,rfl⟩⟩
 intro c hc
 have:=hns c hc
 refine⟨fun b hb=>cg.2 ?_,fun id cS=> ?_⟩
 ·exact List.mem_flatten.2 ⟨c.names.1,List.mem_map.2 ⟨c.names,this,rfl⟩,hb⟩
 ·unfold nu.oc
  have:cE id (bJ ops st o).r=true:=cg.2 (List.mem_append.2 (.inl (List.mem_flatten.2 ⟨c.names.2,List.mem_map.2 ⟨c.names,this,rfl⟩,cS⟩)))
  rw[this];rfl
theorem nu.bIn{st:St}{n:Nat}(hn:cE n (bJ ops st o).b=true){x:Bx}(hx:au st.boxes n=some x):∀c∈x.cs,tM (bJ ops st o) c:=by
 intro c hc id cS
 unfold nu.oc
 have hn:=cg.1 hn
 have:cE id (bJ ops st o).r=true:=cg.2 (List.mem_append.2 (.inr (List.mem_flatten.2 ⟨qV st n,List.mem_map.2 ⟨n,hn,rfl⟩,by
  simp only[qV,hx,List.mem_flatten,List.mem_map]
  exact⟨_,⟨c,hc,rfl⟩,cS⟩⟩)))
 rw[this];rfl
theorem Ag.adu{st aF:St}(hs:∀n,(bJ ops st o).AU n=true→au aF.ay n=au st.ay n)(hb:∀n,(bJ ops st o).hasB n=true→au aF.boxes n=au st.boxes n)
 (hr:∀n,(bJ ops st o).oc n=true→au aF.roots n=au st.roots n):Ag (bJ ops st o) st aF:=
 ⟨hs,hb,hr,fun _ hn _ hv=>nu.sIn hn hv,fun _ hn _ hx=>nu.bIn hn hx⟩
theorem Ag.self(ops:Array Oper)(st:St)(o:Oper):Ag (bJ ops st o) st st:=Ag.adu (fun _ _=>rfl) (fun _ _=>rfl) fun _ _=>rfl
theorem LG{st:St}:∀x∈o.op.operands.toList,Ef (bJ ops st o) x:=by
 intro x hx t ht
 subst ht
 refine cg.2 ?_
 simp only[bJ,List.mem_append,tmpsOf,List.mem_filterMap]
 exact .inl ⟨_,hx,rfl⟩
theorem YU{st:St}{n:Nat}(h:fQ ops o=some n):(eM ops st o).AU n=true:=by
 refine cg.2 ?_
 unfold eM
 cases Lx o
 ·simp only[cond_false]
  split<;>simp[bJ,h]
 ·simp[h]
theorem LH{st:St}:Eg (bJ ops st o) (o.dst.getD 0):=by
 simp[Eg,bJ,uY]
theorem Hd(hN:E.mA)(o:Oper)(st:St)(k:Dl→Option R):eZ E o st k=(eZ E o st some).bind k:=
  Xn (ρ:=fun x y=>x=y.bind k) (u:=bJ #[] st o) rfl hN (Ag.self #[] st o) LH LG fun _=>rfl
def jl:Option Rt→Option Rt
 |some (.live r)=>some (.live ⟨r.t,.deep,r.ver,r.log,r.xs⟩)
 |y=>y
theorem Jg{id ver:Nat}(hb:jl (au bz.roots id)=jl (au st.roots id)){k:cC→Option R}(hk:∀(r:cC) md,k ⟨r.t,md,r.ver,r.log,r.xs⟩=k r):kz st id ver k=kz bz id ver k:=by
 unfold kz
 cases h0:au st.roots id with
 |none=>cases h1:au bz.roots id with
  |none=>rfl
  |some y=>rw[h0,h1] at hb;cases y<;>simp[jl] at hb
 |some x=>
  cases h1:au bz.roots id with
  |none=>rw[h0,h1] at hb;cases x<;>simp[jl] at hb
  |some y=>
   rw[h0,h1] at hb
   cases x<;>cases y<;>simp only[jl,Option.some.injEq,Rt.live.injEq,reduceCtorEq] at hb<;>try rfl
   rename_i r r'
   obtain⟨t,md,ver,log,xs⟩:=r
   obtain⟨t',md',K',ahT,xs'⟩:=r'
   simp only[cC.mk.injEq] at hb
   obtain⟨rfl,_,rfl,rfl,hx⟩:=hb
   cases hx
   have:=hk ⟨t',md,K',ahT,xs'⟩ md'
   simp only at this ⊢
   rw[this]
structure Agr (u:nu) (st aF:St):Prop where
 m:∀n,u.Tn n=true→jl (au aF.roots n)=jl (au st.roots n)
 s:∀n,u.AU n=true→au aF.ay n=au st.ay n
 b:∀n,u.hasB n=true→au aF.boxes n=au st.boxes n
 r:∀n,u.oc n=true→au aF.roots n=au st.roots n
theorem ru{x:Operand}(h:∀t,x = .tmp t→au bz.ay t=au st.ay t)(k:Sv→Option R):dv st x k=dv bz x k:=by
 cases x with
 |tmp t=>simp only[dv,h t rfl]
 |_=>rfl
theorem fv{x:Operand}{c:Sc}(h:lV st x=some c):∃t,x = .tmp t∧au st.ay t=some (.c (.one c)):=by
 unfold lV at h
 split at h
 ·split at h
  ·rename_i e;cases h;exact⟨_,rfl,e⟩
  ·cases h
 ·cases h
theorem v8{x:Option Operand}(h:∀t,x=some (.tmp t)→au bz.ay t=au st.ay t)(d:Int)(k:Int→Option R):fW st x d k=fW bz x d k:=by
 cases x with
 |none=>rfl
 |some y=>exact ru (fun t ht=>h t (by rw[ht])) _
theorem LI{m:List Nat}(hs:vT st o=some m)(A:Agr { s:=(bJ ops st o).s,b:=(bJ ops st o).b,r:=[],d:=some (o.dst.getD 0),m } st bz)(k:Dl→Option R):eZ E o st k=eZ E o bz k:=by
 have EK:∀x∈o.op.operands.toList,∀t,x = .tmp t→au bz.ay t=au st.ay t:=by
  intro x hx t ht
  refine A.s t (cg.2 ?_)
  simp only[bJ,List.mem_append,tmpsOf,List.mem_filterMap]
  exact .inl ⟨x,hx,by rw[ht]⟩
 unfold vT at hs
 split at hs<;>rename_i b9
 ·rw[b9] at EK
  split at hs
  ·rename_i e
   obtain⟨t,rfl,e0⟩:=fv e
   have e1:=EK (.tmp t) (by simp[Op.operands]) t rfl
   rw[e0] at e1
   simp only[eZ,b9,fV,dv,e0,e1,Option.bind_some,Sc.soft]
  ·cases hs
 ·rw[b9] at EK
  split at hs
  ·rename_i b off e
   obtain⟨t,rfl,e0⟩:=fv e
   have e1:=EK (.tmp t) (by simp[Op.operands]) t rfl
   rw[e0] at e1
   have hb:au bz.boxes b=au st.boxes b:=by
    refine A.b b ?_
    unfold nu.hasB
    have:cE b (bJ ops st o).b=true:=by
     refine cg.2 ?_
     simp only[bJ,b9,List.mem_flatten,List.mem_map]
     refine⟨[b],⟨([b],[]),⟨[([b],[])],⟨t,by simp[Op.operands,tmpsOf],by simp[e0,Sv.cells,Cm.cells,Sc.names]⟩,by simp⟩,rfl⟩,by simp⟩
    rw[this];rfl
   simp only[eZ,b9,fV,dv,e0,e1,Option.bind_some,Sc.soft,loadAt,hb]
  ·cases hs
 ·rw[b9] at EK
  split at hs
  ·rename_i id ver iv e
   obtain⟨t,rfl,e0⟩:=fv e
   have e1:=EK (.tmp t) (by simp[Op.operands]) t rfl
   rw[e0] at e1
   cases hs
   have hb:=A.m id (by simp[nu.Tn,cE])
   simp only[eZ,b9,fV,dv,e0,e1,Option.bind_some,Sc.soft]
   congr 1
   funext ee
   refine (Jg hb (fun r md=>rfl)).trans ?_
   congr 1
   funext r
   congr 1
   refine (v8 (fun t ht=>EK (.tmp t) (by subst ht;simp[Op.operands]) t rfl) _ _).trans ?_
   congr 1
   funext l
   exact v8 (fun t ht=>EK (.tmp t) (by subst ht;simp[Op.operands]) t rfl) _ _
  ·cases hs
 ·rw[b9] at EK
  split at hs
  ·rename_i e
   obtain⟨t,rfl,e0⟩:=fv e
   have e1:=EK (.tmp t) (by simp[Op.operands]) t rfl
   rw[e0] at e1
   simp only[eZ,b9,fV,dv,e0,e1,Option.bind_some,Sc.soft]
  ·cases hs
 ·rw[b9] at EK
  split at hs
  ·rename_i y _ b off e
   obtain⟨t,rfl,e0⟩:=fv e
   have e1:=EK (.tmp t) (by simp[Op.operands]) t rfl
   rw[e0] at e1
   have hb:au bz.boxes b=au st.boxes b:=by
    refine A.b b ?_
    unfold nu.hasB
    have:cE b (bJ ops st o).b=true:=by
     refine cg.2 ?_
     simp only[bJ,b9,List.mem_flatten,List.mem_map]
     refine⟨[b],⟨([b],[]),⟨[([b],[])],⟨t,by simp[Op.operands,tmpsOf],by simp[e0,Sv.cells,Cm.cells,Sc.names]⟩,by simp⟩,rfl⟩,by simp⟩
    rw[this];rfl
   simp only[eZ,b9,fV]
   congr 1
   congr 1
   funext t'
   simp only[dv,e0,e1,Option.bind_some,Sc.soft,hb]
   exact ru (fun t ht=>EK y (by simp[Op.operands]) t ht) _
  ·cases hs
 ·cases hs
theorem zz(hN:E.mA)(A:Agr (eM ops st o) st bz)(k:Dl→Option R):eZ E o st k=eZ E o bz k:=by
 cases hm:Lx o with
 |false=>
  cases hs:vT st o with
  |some m=>
   have e:eM ops st o={ s:=(bJ ops st o).s,b:=(bJ ops st o).b,r:=[],d:=some (o.dst.getD 0),m }:=by unfold eM;rw[hm,hs];rfl
   rw[e] at A
   exact LI hs A k
  |none=>
  have e:eM ops st o=bJ ops st o:=by unfold eM;rw[hm,hs];rfl
  rw[e] at A
  exact Xn (ρ:=fun x y=>x=y) rfl hN (Ag.adu A.s A.b A.r) LH LG fun _=>rfl
 |true=>
  have hs:∀x∈o.op.operands.toList,∀t,x = .tmp t→au bz.ay t=au st.ay t:=by
   intro x hx t ht
   refine A.s t ?_
   unfold eM
   rw[hm]
   refine cg.2 ?_
   simp only[cond_true,List.mem_append,tmpsOf,List.mem_filterMap]
   exact .inl ⟨x,hx,by rw[ht]⟩
  unfold Lx at hm
  cases b9:o.op with
  |move x=>
   rw[b9] at hs
   simp only[eZ,b9]
   exact ru (fun t ht=>hs x (by simp[Op.operands]) t ht) _
  |assign x=>
   rw[b9] at hs
   simp only[eZ,b9]
   exact ru (fun t ht=>hs x (by simp[Op.operands]) t ht) _
  |_=>rw[b9] at hm;cases hm
def Eh(E:Env)(ops:Array Oper)(o:Oper)(st:St)(d:Dl):Prop:=
  match o.guard with
 |none=>eZ E o st some=some d
 |some (_,want)=>∃n,fQ ops o=some n∧((∃ b,au st.ay n=some (.c (.one (.v (.bool b))))∧if b=want then eZ E o st some=some d else d=mz o)∨(au st.ay n=some (.yZ [])∧d=mz o))
theorem rq.dM{n:Nat}{b:Bool}(h:au st.ay n=some (.c (.one (.v (.bool b))))):rq st (st.dM n b):=by
 refine⟨?_,rfl,rfl⟩
 funext m
 simp only[St.dM,aH]
 split
 ·rename_i e;rw[e,h]
 ·rfl
theorem He(hN:E.mA){k:St→Dl→Option R}{r:R}(h:evO E ops o st k=some r):∃bz d,rq st bz∧k bz d=some r∧Eh E ops o bz d:=by
  unfold evO at h
  unfold Eh
  cases hg:o.guard with
  |none=>
    simp only[hg] at h ⊢
    rw[Hd hN] at h
    obtain⟨d,hd,hk⟩:=Option.bind_eq_some_iff.1 h
    exact⟨st,d,.refl st,hk,hd⟩
  |some jw=>
    obtain⟨j,want⟩:=jw
    simp only[hg] at h ⊢
    obtain⟨n,hn,h⟩:=Option.bind_eq_some_iff.1 h
    split at h
    · rename_i b hb
      have hS:=rq.dM hb
      have fI:au (st.dM n b).ay n=some (.c (.one (.v (.bool b)))):=by rw[← hS.s];exact hb
      have:∃d,rq st (st.dM n b)∧k (st.dM n b) d=some r∧∃b',au (st.dM n b).ay n=some (.c (.one (.v (.bool b'))))∧if b'=want then eZ E o (st.dM n b) some=some d else d=mz o:=by
        cases b<;>cases want<;>simp only[cond_true,cond_false] at h
        all_goals
          first
            | (rw[Hd hN] at h
               obtain⟨d,hd,hk⟩:=Option.bind_eq_some_iff.1 h
               exact⟨d,hS,hk,_,fI,by simpa using hd⟩)
            | exact⟨_,hS,h,_,fI,by simp⟩
      obtain⟨d,h1,h2,h3⟩:=this
      exact⟨st.dM n b,d,h1,h2,n,hn,.inl h3⟩
    · rename_i hb
      exact⟨st,_,.refl st,h,n,hn,.inr ⟨hb,rfl⟩⟩
    · cases h
theorem Eh.move(hN:E.mA){d:Dl}(h:Eh E ops o st d)(A:Agr (eM ops st o) st bz):Eh E ops o bz d:=by
 unfold Eh at *
 split at h
 ·rw[← zz hN A];exact h
 ·obtain⟨n,h1,h⟩:=h
  refine⟨n,h1,?_⟩
  rw[A.s n (YU h1),←zz hN A];exact h
theorem Oper.YV{K:Act→World→Prop}(h:o.wp P a w K Q):o.wp P a w (fun a' w'=>K a' w'∧∃v,a'.tmps=(a.put o.dst v).tmps) Q:=by
  unfold Oper.wp at *
  generalize (execOp a.eval o).run P w=r at *
  have ahU:∀(d:Deferred)(v:Value),(({ a with defers:=d::a.defers }:Act).put o.dst v).tmps=(a.put o.dst v).tmps:=fun d v=>by cases o.dst<;>rfl
  cases r with
  |ok n w'=>
    cases n<;>simp only[Oper.upon] at h ⊢ <;>
      first
        | exact⟨h,_,rfl⟩
        | exact⟨h,_,ahU _ _⟩
        |exact Calls.mono h (fun e w'' he=>by cases e<;>first | exact⟨he,_,rfl⟩ | exact he)
        |exact Rows.mono h (fun _ _ he=>⟨he,_,rfl⟩)
  |halt x w'=>cases x<;>simp only[Oper.upon] at h ⊢ <;>exact h
def ry(J:Array Value→Prop)(o:Oper):Prop:=∀(a:Act) v,J a.tmps→J (a.put o.dst v).tmps
theorem sY(hE:E.Ok P)(hW:yy P g.n.wl){J:Array Value→Prop}(Hf:ry J o)(hJ:J a.tmps)(I:Inv w0 Mf g st a w)(hd:∀d,o.dst=some d→d<g.n.sz){i:Nat}(hi:ops[i]? =some o){d:Dl}(h:Eh E ops o st d)
 (hK:∀g' a' w',g'.n=g.n→Inv w0 Mf g' (st.apply d) a' w'→J a'.tmps→K a' w'):wpOp P ops Q i K a w:=by
 unfold wpOp
 simp only[hi]
 have hT:Then w0 Mf g st some d (fun a' w'=>J a'.tmps→K a' w'):=fun δ g' a' w' h1 h2 h3=>by cases h1;exact hK g' a' w' h2 h3
 have fin:o.wp P a w (fun a' w'=>J a'.tmps→K a' w') Q→o.wp P a w K Q:=fun h=>Oper.wp_mono (fun a' w' ⟨h1,v,h2⟩=>h1 (by rw[h2];exact Hf a v hJ)) (Oper.YV h)
 have G5:d=mz o→K (a.put o.dst undef) w:=fun e=>by
  subst e
  exact hK g _ _ rfl (I.Et (s:= .yZ []) (v:=undef) hd ⟨#[],rfl,rfl,fun _ _ h=>by simp at h⟩) (Hf a _ hJ)
 unfold Eh at h
 cases hg:o.guard with
 |none=>
  simp only[hg] at h
  simp only[Region.wanted,hg,if_true]
  exact .inl (fin (mZ hE hW I hd hT h))
 |some jw=>
  obtain⟨j,want⟩:=jw
  simp only[hg] at h
  obtain⟨n,h1,h⟩:=h
  rcases h with ⟨b,h2,h3⟩ | ⟨h2,h3⟩
  ·have hy:yielded ops a.tmps j=some b:=by
    obtain⟨v,hv,hr⟩:=I.ay n _ h2
    have KI:v = .bool b:=hr.2
    subst KI
    simp only[fQ,hg] at h1
    simp only[yielded,h1,Option.bind_some,hv]
   simp only[Region.wanted,hg,hy]
   by_cases e:b=want
   ·simp only[e,if_true] at h3
    simp only[e,beq_self_eq_true,if_true]
    exact .inl (fin (mZ hE hW I hd hT h3))
   ·simp only[e,if_false] at h3
    have:(some b==some want)=false:=by simpa using e
    simp only[this,Bool.false_eq_true,if_false]
    exact G5 h3
  ·have hy:yielded ops a.tmps j=none:=by
    obtain⟨v,hv,us,hr,_⟩:=I.ay n _ h2
    subst hr
    simp only[fQ,hg] at h1
    simp only[yielded,h1,Option.bind_some,hv]
   simp only[Region.wanted,hg,hy]
   have:((none:Option Bool)==some want)=false:=rfl
   simp only[this,Bool.false_eq_true,if_false]
   exact G5 h3
theorem zA(hE:E.Ok P)(hN:E.mA){J:Array Value→Prop}(Hf:∀o∈ops.toList,ry J o){n:Fx}(hW:yy P n.wl)(hd:∀o∈ops.toList,∀d,o.dst=some d→d<n.sz){k:St→Option R}{r:R}
 (hK:∀g' aF a' w',k aF=some r→g'.n=n→Inv w0 Mf g' aF a' w'→J a'.tmps→Q .normal a' w'):
    ∀(l:List Oper)(i:Nat){g:Gh}{st:St}{a:Act}{w:World},ops.toList.drop i=l→G9 E ops l st k=some r→g.n=n→Inv w0 Mf g st a w→J a.tmps→wpOps P ops Q (List.range' i l.length) a w
 | [],i,g,st,a,w,hl,h,hn,I,hJ=>by
  simp only[List.length_nil,List.range'_zero,wpOps]
  exact hK g st a w h hn I hJ
 |o::l,i,g,st,a,w,hl,h,hn,I,hJ=>by
  have nz:ops.toList[i]? =some o:=by
   have:=congrArg (fun m=>m[0]?) hl
   simpa [List.getElem?_drop] using this
  have hi:ops[i]? =some o:=by simpa using nz
  simp only[List.length_cons,List.range'_succ,wpOps_cons]
  simp only[G9] at h
  obtain⟨bz,d,hS,hk,hD⟩:=He hN h
  refine sY hE (by rw[hn];exact hW) (Hf o (List.mem_of_getElem? nz)) hJ (hS.inv I) (fun d Jh=>by rw[hn];exact hd o (List.mem_of_getElem? nz) d Jh) hi hD fun g' a' w' KR I' u6=> ?_
  exact zA hE hN Hf hW hd hK l (i+1) (by rw[← List.drop_drop,hl];rfl) hk (KR.trans hn) I' u6
end Go.Gm
namespace Go.Gm
open Go
variable {R : Type} {P : Program} {E : Env} {w0 w : World} {Mf : Nat → Prop} {g : Gh} {st st0 bz qu : St} {a : Act} {Q : Exit → Act → World → Prop}
  {o:Oper} {ops:Array Oper} {K:Act→World→Prop}
section
variable {V : Type}
def yx(p:Rec→Bool)(f:Rec→Option V):List Rec→Option V→Option V
 | [],v=>v
 |x::L,v=>yx p f L (cond (p x) ((f x).or v) v)
theorem fw{p:Rec→Bool}{f:Rec→Option V}:∀{L M:List Rec}{v:Option V},yx p f (L++M) v=yx p f M (yx p f L v)
 | [],_,_=>rfl
 |_::L,_,_=>fw (L:=L)
theorem dW{p q:Rec→Bool}{f:Rec→Option V}:∀{L:List Rec}{v:Option V},(∀ x∈L,p x≠q x→f x=none)→yx p f L v=yx q f L v
 | [],_,_=>rfl
 |x::L,v,h=>by
  simp only[yx]
  have e:cond (p x) ((f x).or v) v=cond (q x) ((f x).or v) v:=by
   by_cases hpq:p x=q x
   ·rw[hpq]
   ·rw[h x (by simp) hpq];cases p x<;>cases q x<;>rfl
  rw[e]
  exact dW fun y hy=>h y (by simp[hy])
theorem m9{p:Rec→Bool}{f:Rec→Option V}:∀{L:List Rec}{v:Option V},(∀ x∈L,p x=true→f x=none)→yx p f L v=v
 | [],_,_=>rfl
 |x::L,v,h=>by
  simp only[yx]
  rw[m9 fun y hy=>h y (by simp[hy])]
  cases hp:p x with
  |true=>rw[h x (by simp) hp];rfl
  |false=>rfl
theorem oI{p q:Rec→Bool}{f:Rec→Option V}{x0:Rec}(hp:p x0=false)(EI:q x0=true):∀{L:List Rec}{v:Option V},x0∈L→(L.map (·.i)).Pairwise (· < ·)→
 (∀ x∈L,x.i≠x0.i→q x=p x)→(∀ x∈L,x0.i<x.i→p x=true→f x0=none∨f x=none)→yx q f L v=(f x0).or (yx p f L v)
 | [],_,h,_,_,_=>by simp at h
 |x::L,v,h,hs,hq,hc=>by
  have eK:(∀ y∈L,x.i<y.i)∧(L.map (·.i)).Pairwise (· < ·):=by simpa using hs
  simp only[yx]
  rcases List.mem_cons.1 h with rfl | hm
  ·rw[hp,EI]
   simp only[cond_true,cond_false]
   have e1:∀v,yx q f L v=yx p f L v:=fun v=>dW fun y hy dn=>absurd (hq y (by simp[hy]) (by have:=eK.1 y hy;omega)) dn
   rw[e1]
   cases hf:f x0 with
   |none=>rfl
   |some z=>
    simp only[Option.some_or]
    exact m9 fun y hy hpy=>(hc y (by simp[hy]) (eK.1 y hy) hpy).resolve_left (by simp[hf])
  ·have dn:x.i≠x0.i:=by have:=eK.1 x0 hm;omega
   rw[hq x (by simp) dn]
   exact oI hp EI hm eK.2 (fun y hy=>hq y (by simp[hy])) fun y hy=>hc y (by simp[hy])
end
def fS(n:Nat)(d:Dl):Option Sv:=match d.slot with | some (s,v)=>if n=s then some v else none | none=>none
def fB(n:Nat)(d:Dl):Option Bx:=au (cj [] d.boxes) n
def fR(n:Nat)(d:Dl):Option Rt:=au (cj [] d.roots) n
theorem Hg(st:St)(d:Dl)(n:Nat):au (st.apply d).ay n=(fS n d).or (au st.ay n):=by
 unfold fS St.apply
 cases d.slot with
 |none=>rfl
 |some sv=>
  obtain⟨s,v⟩:=sv
  simp only[aH]
  split<;>rfl
theorem Hh(st:St)(d:Dl)(n:Nat):au (st.apply d).boxes n=(fB n d).or (au st.boxes n):=dV d.boxes st.boxes n
theorem A1(st:St)(d:Dl)(n:Nat):au (st.apply d).roots n=(fR n d).or (au st.roots n):=dV d.roots st.roots n
theorem rz{α:Type}:∀{L l:List (Nat×α)}{n:Nat},n ∉ L.map (·.1)→au (cj l L) n=au l n
  | [],_,_,_=>rfl
  | (m,v)::L,l,n,h=>by
    simp only[List.map_cons,List.mem_cons,not_or] at h
    simp only[cj]
    rw[rz h.2,b6 _ _ h.1]
theorem LJ{n:Nat}{d:Dl}(h:n ∉ d.oF):fS n d=none:=by
 unfold fS;unfold Dl.oF at h
 split<;>rename_i e<;>simp only[e] at h
 ·simp only[List.mem_singleton] at h;simp[h]
 ·rfl
theorem Xo{n:Nat}{d:Dl}(h:n ∉ d.vU):fB n d=none:=by unfold fB;rw[rz h];rfl
theorem zB{n:Nat}{d:Dl}(h:n ∉ d.my):fR n d=none:=by unfold fR;rw[rz h];rfl
abbrev rS(n:Nat)(x:Rec):Option Sv:=fS n x.d
abbrev rB(n:Nat)(x:Rec):Option Bx:=fB n x.d
abbrev rR(n:Nat)(x:Rec):Option Rt:=fR n x.d
def rM(n:Nat)(x:Rec):Option (Option Rt):=cond (cE n x.ms) none ((fR n x.d).map fun y=>jl (some y))
def EY(st:St)(ms:List Nat)(d:Dl):Prop:=∀n,cE n ms=true→∃y,fR n d=some y∧jl (some y)=jl (au st.roots n)
theorem CM{x:Rec}(h:EY st x.ms x.d)(n:Nat):some (jl (au (st.apply x.d).roots n))=(rM n x).or (some (jl (au st.roots n))):=by
 rw[A1]
 unfold rM
 cases hm:cE n x.ms with
 |true=>
  obtain⟨y,h1,h2⟩:=h n hm
  rw[h1]
  simp only[Option.some_or,cond_true,Option.none_or,h2]
 |false=>
  cases h1:fR n x.d<;>simp
structure Lk (st0:St) (p:Rec→Bool) (L:List Rec) (st:St):Prop where
 s:∀n,au st.ay n=yx p (rS n) L (au st0.ay n)
 b:∀n,au st.boxes n=yx p (rB n) L (au st0.boxes n)
 r:∀n,au st.roots n=yx p (rR n) L (au st0.roots n)
 m:∀n,some (jl (au st.roots n))=yx p (rM n) L (some (jl (au st0.roots n)))
theorem Lk.same{p:Rec→Bool}{L:List Rec}(h:Lk st0 p L st)(hS:rq st bz):Lk st0 p L bz:=
 ⟨fun n=>by rw[← hS.s];exact h.s n,fun n=>by rw[← hS.b];exact h.b n,fun n=>by rw[← hS.r];exact h.r n,fun n=>by rw[← hS.r];exact h.m n⟩
theorem Lk.congr{p q:Rec→Bool}{L:List Rec}(h:Lk st0 p L st)(e:∀x∈L,p x=q x):Lk st0 q L st:=
 ⟨fun n=>(h.s n).trans (dW fun x hx dn=>absurd (e x hx) dn),fun n=>(h.b n).trans (dW fun x hx dn=>absurd (e x hx) dn),fun n=>(h.r n).trans (dW fun x hx dn=>absurd (e x hx) dn),fun n=>(h.m n).trans (dW fun x hx dn=>absurd (e x hx) dn)⟩
theorem Lk.eq{p:Rec→Bool}{L:List Rec}(h:Lk st0 p L st)(h':Lk st0 p L bz):rq st bz:=
 ⟨funext fun n=>(h.s n).trans (h'.s n).symm,funext fun n=>(h.b n).trans (h'.b n).symm,funext fun n=>(h.r n).trans (h'.r n).symm⟩
theorem Lk.snoc{L:List Rec}(h:Lk st0 (fun _=>true) L st)(x:Rec)(hx:EY st x.ms x.d):Lk st0 (fun _=>true) (L++[x]) (st.apply x.d):=
 ⟨fun n=>by rw[fw,Hg,h.s n];rfl,fun n=>by rw[fw,Hh,h.b n];rfl,fun n=>by rw[fw,A1,h.r n];rfl,fun n=>by rw[fw,CM hx,h.m n];rfl⟩
theorem Lk.more{p:Rec→Bool}{L:List Rec}(h:Lk st0 p L st){x:Rec}(hx:p x=false):Lk st0 p (L++[x]) st:=
 ⟨fun n=>by rw[fw];simp only[yx,hx,cond_false];exact h.s n,fun n=>by rw[fw];simp only[yx,hx,cond_false];exact h.b n,fun n=>by rw[fw];simp only[yx,hx,cond_false];exact h.r n,fun n=>by rw[fw];simp only[yx,hx,cond_false];exact h.m n⟩
theorem Tr{n:Nat}{y:Rt}{rest:List (Nat×Rt)}{d:Dl}(hd:d.roots=(n,y)::rest)(h:cE n (rest.map (·.1))=false):fR n d=some y:=by
 unfold fR
 rw[hd]
 simp only[cj]
 rw[rz (fun hm=>by rw[cg.2 hm] at h;cases h)]
 simp[aH]
theorem CN{e:Ty}{id ver lo hi:Nat}{k:List (El e)→Bool→St→List (Nat×Rt)→Option R}{r:R}(h:lR st e (.vw id ver lo hi) k=some r):
    ∃ys dd aF u,k ys dd aF u=some r∧∀n y rest,u=(n,Rt.live y)::rest→rest=[]∧n=id∧∃(x:cC)(md:Md),au st.roots id=some (.live x)∧y=⟨x.t,md,x.ver,x.log,x.xs⟩:=by
 unfold lR at h
 split at h
 ·simp only[pK] at h
  unfold kz at h
  split at h
  ·obtain⟨_,h⟩:=bh h
   obtain⟨_,h⟩:=bh h
   obtain⟨xs,_,h⟩:=Option.bind_eq_some_iff.1 h
   exact⟨_,_,_,_,h,fun _ _ _ hu=>by cases hu⟩
  ·cases h
 ·simp only[ze] at h
  unfold kz at h
  split at h
  ·rename_i x hx
   obtain⟨_,h⟩:=bh h
   simp only at h
   cases ht:x.md.tB lo 0 with
   |true=>
    rw[ht] at h
    obtain⟨xs,_,h⟩:=Option.bind_eq_some_iff.1 h
    refine⟨_,_,_,_,h,fun n y rest hu=> ?_⟩
    cases hu
    exact⟨rfl,rfl,x,_,hx,rfl⟩
   |false=>
    rw[ht] at h
    simp only[cond_false,kE,kz,hx] at h
    obtain⟨_,h⟩:=bh h
    obtain⟨_,h⟩:=bh h
    cases hf:x.md.cr with
    |true=>
     rw[hf] at h
     obtain⟨xs,_,h⟩:=Option.bind_eq_some_iff.1 h
     exact⟨_,_,_,_,h,fun _ _ _ hu=>by cases hu⟩
    |false=>
     rw[hf] at h
     obtain⟨xs,_,h⟩:=Option.bind_eq_some_iff.1 h
     exact⟨_,_,_,_,h,fun _ _ _ hu=>by cases hu⟩
  ·cases h
theorem CO{n m:Nat}(h:cE n [m]=true):n=m:=by simpa using cg.1 h
theorem LK{d:Dl}(h:eZ E o st some=some d):EY st (AV st o d) d:=by
 intro n hn
 unfold AV at hn
 split at hn
 ·rename_i c b9
  split at hn
  ·rename_i s x hc ik
   split at hn
   ·rename_i sc id ver lo hi m y rest hs hx hr
    cases lA:(Ly sc&&(Nat.beq m id&&(!rest.isEmpty&& !cE id (rest.map (·.1))))) with
    |false=>rw[lA] at hn;cases hn
    |true=>
     rw[lA] at hn
     simp only[Bool.and_eq_true,Bool.not_eq_true'] at lA
     obtain⟨hp,YW,dn,K3⟩:=lA
     have YW:=Nat.eq_of_beq_eq_true YW
     have ahV:=CO hn
     subst ahV
     subst YW
     refine⟨_,Tr hr K3,?_⟩
     obtain⟨ts,rfl,e0⟩:=fv hs
     obtain⟨tx,rfl,e1⟩:=fv hx
     simp only[eZ,b9,hc,eY,ik] at h
     obtain⟨T,T',cQ⟩:∃T T',c.argTypes.toList=[T,T']:=by
      rcases cQ:c.argTypes.toList with _ | ⟨T,_ | ⟨T',_ | ⟨_,_⟩⟩⟩<;>rw[cQ] at h
      ·cases h
      ·cases h
      ·exact⟨_,_,rfl⟩
      ·cases h
     rw[cQ] at h
     simp only at h
     obtain⟨_,_,h⟩:=Option.bind_eq_some_iff.1 h
     unfold fV dv at h
     simp only[e0,e1,Option.bind_some] at h
     have hsx:∀a b c d,(Sc.vw a b c d).soft=Sc.vw a b c d:=fun _ _ _ _=>rfl
     rw[hsx] at h
     unfold mQ at h
     split at h
     ·cases sc with
      |nl=>
       have G4:Sc.nl.soft=Sc.nl:=rfl
       rw[G4] at h
       simp only at h
       obtain⟨ys,dd,aF,u,h,hu⟩:=CN h
       obtain⟨_,h⟩:=bh h
       obtain⟨r2,h⟩:∃r2:cC,d.roots=u++[(64*o.dst.getD 0,.live r2)]:=by
        unfold kL mkRoot at h
        split at h
        ·obtain⟨_,h⟩:=bh h;cases h;exact⟨_,rfl⟩
        ·split at h
         ·cases h;exact⟨_,rfl⟩
         ·cases h;exact⟨_,rfl⟩
         ·cases h
       rw[hr] at h
       cases u with
       |nil=>cases h;cases dn
       |cons a u=>
        cases h
        obtain⟨_,_,x,md,h1,rfl⟩:=hu _ _ _ rfl
        rw[h1];rfl
      |h YX AH iv2 p2=>
       cases p2 with
       |cons a b=>cases hp
       |nil=>
        have G4:(Sc.h YX AH iv2 []).soft=Sc.h YX AH iv2 []:=rfl
        rw[G4] at h
        simp only at h
        obtain⟨ys,dd,aF,u,h,hu⟩:=CN h
        obtain⟨r2,h⟩:∃r2:cC,d.roots=u++[(YX,.live r2)]:=by
         unfold kz at h
         split at h
         ·rename_i x2 _
          replace h:=(bh h).2
          simp only at h
          cases hb:(x2.md.cr||x2.md.cV) with
          |true=>rw[hb] at h;cases h
          |false=>
           rw[hb] at h
           obtain⟨_,_,h⟩:=Option.bind_eq_some_iff.1 h
           obtain⟨_,h⟩:=bh h
           cases h;exact⟨_,rfl⟩
         ·cases h
        rw[hr] at h
        cases u with
        |nil=>cases h;cases dn
        |cons a u=>
         cases h
         obtain⟨_,_,x,md,h1,rfl⟩:=hu _ _ _ rfl
         rw[h1];rfl
      |_=>cases hp
     ·cases h
   ·cases hn
  ·cases hn
 ·cases hn
theorem LL{d:Dl}(h:Eh E ops o st d):EY st (AV st o d) d:=by
 have dead:EY st (AV st o (mz o)) (mz o):=by
  intro n hn
  have:AV st o (mz o)=[]:=by
   unfold AV
   split
   ·split
    ·split
     ·rename_i hr;cases hr
     ·rfl
    ·rfl
   ·rfl
  rw[this] at hn;cases hn
 unfold Eh at h
 split at h
 ·exact LK h
 ·obtain⟨n,_,h⟩:=h
  rcases h with ⟨b,_,h⟩ | ⟨_,h⟩
  ·split at h
   ·exact LK h
   ·rw[h];exact dead
  ·rw[h];exact dead
def Fact(E:Env)(ops:Array Oper)(st0:St)(L:List Rec)(x:Rec):Prop:=
  ∃o bz,ops[x.i]? =some o∧Eh E ops o bz x.d∧x.u=eM ops bz o∧EY bz x.ms x.d∧Lk st0 (fun y=>Nat.blt y.i x.i) L bz∧x.lt=fZ E bz o
theorem CP(hN:E.mA){k:List Rec→St→Option R}{r:R}:∀(l:List Oper)(i:Nat){st:St}(L:List Rec),ops.toList.drop i=l→i≤ops.toList.length→L.map (·.i)=List.range i→Lk st0 (fun _=>true) L st→
 (∀ x∈L,Fact E ops st0 L x)→AW E ops i l L.reverse st k=some r→
    ∃L' LM,L'.map (·.i)=List.range ops.toList.length∧(∀ x∈L',Fact E ops st0 L' x)∧Lk st0 (fun _=>true) L' LM∧k L'.reverse LM=some r
 | [],i,st,L,hl,hle,hL,hk,hF,h=>by
  have hi:i=ops.toList.length:=by
   have:=congrArg List.length hl
   simp only[List.length_drop,List.length_nil] at this
   omega
  subst hi
  exact⟨L,st,hL,hF,hk,h⟩
 |o::l,i,st,L,hl,hle,hL,hk,hF,h=>by
  have nz:ops.toList[i]? =some o:=by
   have:=congrArg (fun m=>m[0]?) hl
   simpa [List.getElem?_drop] using this
  have hi:ops[i]? =some o:=by simpa using nz
  simp only[AW] at h
  obtain⟨bz,d,hS,h,hD⟩:=He hN h
  have AN:=hk.same hS
  let x:Rec:=⟨i,eM ops bz o,d,AV bz o d,fZ E bz o⟩
  have bU:∀y∈L,y.i<i:=fun y hy=>by
   have:y.i∈L.map (·.i):=List.mem_map.2 ⟨y,hy,rfl⟩
   rw[hL] at this;simpa using this
  have hr:(⟨i,eM ops bz o,d,AV bz o d,fZ E bz o⟩::L.reverse:List Rec)=(L++[x]).reverse:=by simp[x]
  rw[hr] at h
  have hlen:i<ops.toList.length:=by
   rcases Nat.lt_or_ge i ops.toList.length with h' | h'
   ·exact h'
   ·simp[List.getElem?_eq_none h'] at nz
  refine CP hN l (i+1) (L++[x]) (by rw[← List.drop_drop,hl];rfl) hlen (by simp[hL,List.range_succ,x]) (AN.snoc x (LL hD)) (fun y hy=> ?_) h
  have Hi:Nat.blt i i=false:=by
   cases hb:Nat.blt i i with
   |false=>rfl
   |true=>rw[Nat.blt_eq] at hb;omega
  rcases List.mem_append.1 hy with hy | hy
  ·obtain⟨o',s1,f1,f2,f3,f5,f4,f6⟩:=hF y hy
   refine⟨o',s1,f1,f2,f3,f5,f4.more ?_,f6⟩
   have:=bU y hy
   show Nat.blt i y.i=false
   cases hb:Nat.blt i y.i with
   |false=>rfl
   |true=>rw[Nat.blt_eq] at hb;omega
  ·have hyx:y=x:=by simpa using hy
   subst hyx
   refine⟨o,bz,hi,hD,rfl,LL hD,Lk.more ?_ Hi,rfl⟩
   exact AN.congr fun z hz=>by
    have:=bU z hz
    show true=Nat.blt z.i i
    exact (by rw[Nat.blt_eq];exact this:Nat.blt z.i i=true).symm
theorem CQ(acc:List Nat):∀(es:List Edge)(s:Nat)(x:Nat),Nat.testBit (es.foldl (fun s e=>cond (Region.binds .any e) (s ||| (2^e.on ||| acc.getD e.on 0)) s) s) x=true→
    Nat.testBit s x=true∨∃e∈es,Region.binds .any e=true∧(x=e.on∨(e.on<acc.length∧Nat.testBit (acc.getD e.on 0) x=true))
 | [],s,x,h=> .inl h
 |e::es,s,x,h=>by
  rcases CQ acc es _ x h with h | ⟨e',h1,h2⟩
  ·cases hb:Region.binds .any e with
   |false=>simp only[hb,cond_false] at h;exact .inl h
   |true=>
    simp only[hb,cond_true,Nat.testBit_or,Bool.or_eq_true,Nat.testBit_two_pow,decide_eq_true_eq] at h
    rcases h with h | h | h
    ·exact .inl h
    ·exact .inr ⟨e,by simp,hb,.inl h.symm⟩
    ·refine .inr ⟨e,by simp,hb,.inr ⟨?_,h⟩⟩
     rcases Nat.lt_or_ge e.on acc.length with h' | h'
     ·exact h'
     ·simp[List.getD,List.getElem?_eq_none h'] at h
  ·exact .inr ⟨e',by simp[h1],h2⟩
theorem LN{l m:List Nat}{i:Nat}(h:i<l.length):(l++m).getD i 0=l.getD i 0:=by
 simp[List.getD,List.getElem?_append_left h]
theorem wc:∀(l:List Oper)(acc:List Nat),(∀ i,i<acc.length→(lC l acc).getD i 0=acc.getD i 0)∧
    ∀j o,l[j]? =some o→∀x,Nat.testBit ((lC l acc).getD (acc.length+j) 0) x=true→
      ∃e∈o.after.toList,Region.binds .any e=true∧(x=e.on∨(e.on<acc.length+j∧Nat.testBit ((lC l acc).getD e.on 0) x=true))
 | [],acc=>⟨fun _ _=>rfl,fun j o h=>by simp at h⟩
 |o::l,acc=>by
  simp only[lC]
  generalize hv:o.after.toList.foldl (fun s e=>cond (Region.binds .any e) (s ||| (2^e.on ||| acc.getD e.on 0)) s) 0=v
  obtain⟨h1,h2⟩:=wc l (acc++[v])
  have uU:∀i,i<acc.length→(lC l (acc++[v])).getD i 0=acc.getD i 0:=fun i hi=>by
   rw[h1 i (by simp;omega),LN hi]
  refine⟨uU,fun j o' hj x hx=> ?_⟩
  cases j with
  |zero=>
   simp only[List.getElem?_cons_zero,Option.some.injEq] at hj
   subst hj
   rw[Nat.add_zero,h1 acc.length (by simp)] at hx
   have hx:Nat.testBit v x=true:=by simpa [List.getD] using hx
   rw[← hv] at hx
   rcases CQ acc _ 0 x hx with h | ⟨e,he,hb,h⟩
   ·simp at h
   ·refine⟨e,he,hb,h.imp (fun h=>h) fun ⟨h3,h4⟩=>⟨by omega,by rw[uU _ h3];exact h4⟩⟩
  |succ j=>
   have e:acc.length+(j+1)=(acc++[v]).length+j:=by simp;omega
   rw[e] at hx ⊢
   exact h2 j o' (by simpa using hj) x hx
def we(ops:Array Oper)(t:Nat→Bool):Prop:=∀(j:Nat) o,ops[j]? =some o→t j=true→∀e∈o.after,Region.binds .any e=true→t e.on=true
theorem jm{t:Nat→Bool}(hc:we ops t):∀(n i:Nat),i<n→∀o,ops[i]? =some o→(∀ e∈o.after,Region.binds .any e=true→t e.on=true)→∀x,Nat.testBit ((eE ops).getD i 0) x=true→t x=true
 |0,_,h=>by omega
 |n+1,i,h=>fun o hi eV x hx=>by
  obtain⟨e,he,hb,hor⟩:=(wc ops.toList []).2 i o (by simpa using hi) x (by simpa [eE] using hx)
  have he':e∈o.after:=by simpa using he
  have YY:=eV e he' hb
  rcases hor with rfl | ⟨bU,ahX⟩
  ·exact YY
  ·simp only[List.length_nil,Nat.zero_add] at bU
   cases ho:ops[e.on]? with
   |none=>
    have dy:ops.size≤e.on:=by
     rcases Nat.lt_or_ge e.on ops.size with h' | h'
     ·simp[Array.getElem?_eq_getElem h'] at ho
     ·exact h'
    have:i<ops.size:=by
     rcases Nat.lt_or_ge i ops.size with h' | h'
     ·exact h'
     ·simp[Array.getElem?_eq_none h'] at hi
    omega
   |some oe=>exact jm hc n e.on (by omega) oe ho (fun e' he' fI=>hc e.on oe ho YY e' he' fI) x ahX
end Go.Gm
namespace Go.Gm
open Go
variable {R : Type} {P : Program} {E : Env} {w0 w : World} {Mf : Nat → Prop} {g : Gh} {st st0 bz qu : St} {a : Act} {Q : Exit → Act → World → Prop}
  {o:Oper} {ops:Array Oper} {K:Act→World→Prop}
theorem nE:∀{l:List Oper}{i:Nat},rj i l=true→∀(j:Nat) o,l[j]? =some o→∀e∈o.after,Region.binds .any e=true→e.on<i+j
 | [],_,_,j,o,h=>by simp at h
 |o::l,i,h,j,o',hj=>by
  simp only[rj,Bool.and_eq_true,List.all_eq_true,Bool.or_eq_true,Bool.not_eq_true'] at h
  obtain⟨h1,h2⟩:=h
  cases j with
  |zero=>
   simp only[List.getElem?_cons_zero,Option.some.injEq] at hj
   subst hj
   intro e he hb
   have:=(h1 e (by simpa using he)).resolve_left (by simp[hb])
   rw[Nat.blt_eq] at this
   omega
  |succ j=>
   intro e he hb
   have:=nE h2 j o' (by simpa using hj) e he hb
   omega
theorem LO{p q:Nat→Bool}:∀{l:List Nat}{i:Nat},(∀ x,q x=true→p x=true)→i∈l→p i=true→q i=false→l.countP q<l.countP p
 | [],_,_,h,_,_=>by simp at h
 |x::l,i,GY,h,hp,hq=>by
  have hle:∀l:List Nat,l.countP q≤l.countP p:=fun l=>List.countP_mono_left fun x _=>GY x
  simp only[List.countP_cons]
  rcases List.mem_cons.1 h with rfl | h
  ·have:=hle l;simp[hp,hq];omega
  ·have:=LO GY h hp hq
   cases hx:q x with
   |true=>simp[GY x hx];omega
   |false=>cases p x<;>simp<;>omega
def cnt(ops:Array Oper)(aB:Array Bool):Nat:=(List.range ops.size).countP fun j=> !aB.getD j false
theorem na{aB:Array Bool}{j:Nat}(h:j<aB.size):aB.getD j true=aB.getD j false:=by
 simp[h]
theorem yL{aB:Array Bool}{j:Nat}(h:j<aB.size)(d:Bool):(aB.setIfInBounds j true).getD j d=true:=by
 simp[h]
theorem qy(sZ:rj 0 ops.toList=true){aB:Array Bool}(hs:aB.size=ops.size)(hr:Region.ready .any ops aB=[]):
    ∀(n j:Nat),j<n→j<ops.size→aB.getD j false=true
 |0,_,h,_=>by omega
 |n+1,j,hj,bU=>by
  cases hl:aB.getD j false with
  |true=>rfl
  |false=>
   have ho:ops[j]? =some ops[j]:=Array.getElem?_eq_getElem bU
   have:j∈Region.ready .any ops aB:=mem_ready.2 ⟨by rw[na (by omega)];exact hl,ops[j],ho,fun e he hb=>by
    have:=nE sZ j ops[j] (by simp) e he hb
    exact qy sZ hs hr n e.on (by omega) (by omega)⟩
   rw[hr] at this;cases this
theorem Rec.Hj{x y:Rec}(h:x.clear y=true){n:Nat}(hn:y.u.AU n=true∨n∈y.d.oF):fS n x.d=none:=by
 refine LJ fun hm=> ?_
 simp only[Rec.clear,Bool.and_eq_true,List.all_eq_true] at h
 have:=h.1 n hm
 simp only[Bool.not_eq_true',Bool.or_eq_false_iff] at this
 rcases hn with hn | hn
 ·rw[this.2] at hn;cases hn
 ·rw[cg.2 hn] at this;cases this.1
theorem Rec.Hk{x y:Rec}(h:x.clear y=true){n:Nat}(hn:y.u.hasB n=true∨n∈y.d.vU):fB n x.d=none:=by
 refine Xo fun hm=> ?_
 simp only[Rec.clear,Bool.and_eq_true,List.all_eq_true] at h
 have:=h.2.1 n hm
 simp only[Bool.not_eq_true',Bool.or_eq_false_iff] at this
 rcases hn with hn | hn
 ·rw[this.2] at hn;cases hn
 ·rw[cg.2 hn] at this;cases this.1
theorem Rec.Hl{x y:Rec}(h:x.clear y=true){n:Nat}(hn:y.u.oc n=true∨n∈y.d.my):fR n x.d=none:=by
 refine zB fun hm=> ?_
 simp only[Rec.clear,Bool.and_eq_true,List.all_eq_true] at h
 have:=h.2.2 n hm
 simp only[Bool.not_eq_true',Bool.or_eq_false_iff] at this
 rcases hn with hn | hn
 ·rw[this.2.1] at hn;cases hn
 ·rw[cg.2 hn] at this;cases this.1
theorem Rec.A2{x y:Rec}(h:x.clear y=true){n:Nat}(hn:y.u.Tn n=true∨n∈y.d.my):rM n x=none:=by
 unfold rM
 cases Tt:cE n x.ms with
 |true=>rfl
 |false=>
  have:fR n x.d=none:=zB fun hm=>by
   simp only[Rec.clear,Bool.and_eq_true,List.all_eq_true] at h
   have:=h.2.2 n hm
   simp only[Bool.not_eq_true',Bool.or_eq_false_iff] at this
   rcases hn with hn | hn
   ·have:=this.2.2
    rw[hn,Tt] at this;cases this
   ·rw[cg.2 hn] at this;cases this.1
  rw[this];rfl
theorem adv{n:Nat}{x:Rec}(h:n ∉ x.d.my):rM n x=none:=by
 unfold rM
 rw[zB h]
 cases cE n x.ms<;>rfl
theorem wg{V:Type}{f:Dl→Option V}{d d':Dl}{t:Dl→List Nat}{n:Nat}(k7:n ∉ t d→f d=none)(h:n∈t d→f d'=none):f d=none∨f d'=none:=by
 by_cases hm:n∈t d
 ·exact .inr (h hm)
 ·exact .inl (k7 hm)
theorem eO{aB:Array Bool}{i:Nat}(h:i<aB.size)(j:Nat):(aB.setIfInBounds i true).getD j false=if j=i then true else aB.getD j false:=by
 by_cases e:i=j
 ·subst e;rw[yL h];simp
 ·rw[getD_set_ne false e,if_neg (Ne.symm e)]
theorem oJ{aB:Array Bool}{i:Nat}(h:i<aB.size)(mX:we ops (fun j=>aB.getD j false)){o:Oper}(ho:ops[i]? =some o)(eV:∀e∈o.after,Region.binds .any e=true→aB.getD e.on false=true):
    we ops (fun j=>(aB.setIfInBounds i true).getD j false):=by
 intro j oj YZ hj e he hb
 simp only[eO h] at hj ⊢
 by_cases ej:j=i
 ·subst ej
  have:oj=o:=by rw[ho] at YZ;cases YZ;rfl
  subst this
  rw[eV e he hb];simp
 ·rw[if_neg ej] at hj
  have h5:aB.getD e.on false=true:=mX j oj YZ hj e he hb
  rw[h5];simp
theorem Hm{aB:Array Bool}{i:Nat}(h:i<aB.size)(hi:i<ops.size)(h0:aB.getD i false=false):cnt ops (aB.setIfInBounds i true)<cnt ops aB:=
  LO (i:=i) (fun x hx=>by
    rw[eO h] at hx
    by_cases e:x=i
    · rw[if_pos e] at hx;cases hx
    · rw[if_neg e] at hx;exact hx) (by simpa using hi) (by simp only[h0];rfl) (by rw[eO h];simp)
theorem Tv{L:List Rec}(yM:oG ops L.reverse=true):∀x∈L,∀y∈L,x.i<y.i→Nat.testBit ((eE ops).getD y.i 0) x.i=true∨(x.clear y=true∧y.clear x=true):=by
 intro x hx y hy hxy
 simp only[oG,List.all_eq_true,List.mem_reverse] at yM
 have:=yM x hx y hy
 have hb:Nat.blt x.i y.i=true:=by rw[Nat.blt_eq];exact hxy
 simpa [ES,hb] using this
theorem rA(hN:E.mA){L:List Rec}(Ei:L.map (·.i)=List.range ops.toList.length)(hF:∀x∈L,Fact E ops st0 L x)(yM:oG ops L.reverse=true)
    {aB:Array Bool} (hs:aB.size=ops.size) (mX:we ops (fun j=>aB.getD j false)) {x0:Rec} (Ji:x0∈L) (h0:aB.getD x0.i false=false) {o':Oper} (ho:ops[x0.i]? =some o')
 (nc:∀e∈o'.after,Region.binds .any e=true→aB.getD e.on false=true) {σ:St} (hσ:Lk st0 (fun x=>aB.getD x.i false) L σ):
    ∃s1,Agr (eM ops s1 o') s1 σ∧x0.lt=fZ E s1 o'∧Eh E ops o' σ x0.d∧Lk st0 (fun x=>(aB.setIfInBounds x0.i true).getD x.i false) L (σ.apply x0.d):=by
 have bU:∀x∈L,x.i<ops.size:=fun x hx=>by
  have:x.i∈L.map (·.i):=List.mem_map.2 ⟨x,hx,rfl⟩
  rw[Ei] at this;simpa using this
 have hpw:(L.map (·.i)).Pairwise (· < ·):=by rw[Ei];exact List.pairwise_lt_range
 have vH:=Tv yM
 have Y0:x0.i<ops.size:=bU x0 Ji
 obtain⟨o1,s1,yr,hD,hu,Tt,Xp,qX⟩:=hF x0 Ji
 have:o1=o':=by rw[ho] at yr;cases yr;rfl
 subst this
 have hah:∀x,Nat.testBit ((eE ops).getD x0.i 0) x=true→aB.getD x false=true:=jm mX (x0.i+1) x0.i (by omega) o1 ho nc
 -- what is told of the others
 have ahY:∀y∈L,y.i<x0.i→aB.getD y.i false=false→x0.clear y=true∧y.clear x0=true:=fun y hy bU uV=>by
  rcases vH y hy x0 Ji bU with h | h
  ·have:=hah _ h;rw[uV] at this;cases this
  ·exact⟨h.2,h.1⟩
 have LP:∀y∈L,x0.i<y.i→aB.getD y.i false=true→x0.clear y=true∧y.clear x0=true:=fun y hy qX wh=>by
  rcases vH x0 Ji y hy qX with h | h
  ·obtain⟨oy,_,hoy,_⟩:=hF y hy
   have:=jm mX (y.i+1) y.i (by omega) oy hoy (fun e he hb=>mX y.i oy hoy wh e he hb) _ h
   simp only[h0] at this
   cases this
  ·exact h
 have wi:∀y∈L,Nat.blt y.i x0.i≠aB.getD y.i false→y.clear x0=true:=fun y hy dn=>by
  rcases Nat.lt_trichotomy y.i x0.i with h | h | h
  ·have hb:Nat.blt y.i x0.i=true:=by rw[Nat.blt_eq];exact h
   rw[hb] at dn
   exact (ahY y hy h (by cases h':aB.getD y.i false<;>simp_all)).2
  ·exfalso
   have hb:Nat.blt y.i x0.i=false:=by
    cases hb:Nat.blt y.i x0.i with
    |false=>rfl
    |true=>rw[Nat.blt_eq] at hb;omega
   rw[hb,h,h0] at dn
   exact dn rfl
  ·have hb:Nat.blt y.i x0.i=false:=by
    cases hb:Nat.blt y.i x0.i with
    |false=>rfl
    |true=>rw[Nat.blt_eq] at hb;omega
   rw[hb] at dn
   exact (LP y hy h (by cases h':aB.getD y.i false<;>simp_all)).2
 have A:Agr (eM ops s1 o1) s1 σ:=by
  rw[← hu]
  rw[hu]
  refine⟨fun m hm=> ?_,fun m hm=> ?_,fun m hm=> ?_,fun m hm=> ?_⟩
  ·refine Option.some.inj ?_
   rw[Xp.m m,hσ.m m];rw[← hu] at hm
   exact (dW fun y hy dn=>Rec.A2 (wi y hy dn) (.inl hm)).symm
  ·rw[Xp.s m,hσ.s m];rw[← hu] at hm
   exact (dW fun y hy dn=>Rec.Hj (wi y hy dn) (.inl hm)).symm
  ·rw[Xp.b m,hσ.b m];rw[← hu] at hm
   exact (dW fun y hy dn=>Rec.Hk (wi y hy dn) (.inl hm)).symm
  ·rw[Xp.r m,hσ.r m];rw[← hu] at hm
   exact (dW fun y hy dn=>Rec.Hl (wi y hy dn) (.inl hm)).symm
 have zj:x0.i<aB.size:=by omega
 have ur:=eO zj
 refine⟨s1,A,qX,hD.move hN A,?_⟩
 have Xa:(fun x:Rec=>aB.getD x.i false) x0=false:=h0
 have EI:(fun x:Rec=>(aB.setIfInBounds x0.i true).getD x.i false) x0=true:=by simp only[ur,if_true]
 have GY:∀x∈L,x.i≠x0.i→(fun x:Rec=>(aB.setIfInBounds x0.i true).getD x.i false) x=(fun x:Rec=>aB.getD x.i false) x:=fun x _ dn=>by simp only[ur,if_neg dn]
 have hσm:EY σ x0.ms x0.d:=fun m hm=>by
  obtain⟨y,h1,h2⟩:=Tt m hm
  refine⟨y,h1,h2.trans (Option.some.inj ?_)⟩
  rw[Xp.m m,hσ.m m]
  refine dW fun z hz dn=>Rec.A2 (wi z hz dn) (.inr ?_)
  exact Classical.byContradiction fun uV=>by rw[zB uV] at h1;cases h1
 refine⟨fun m=> ?_,fun m=> ?_,fun m=> ?_,fun m=> ?_⟩
 rotate_left 3
 ·rw[CM hσm,hσ.m m]
  exact (oI Xa EI Ji hpw GY fun y hy qX wh=>by
   by_cases hm:m∈x0.d.my
   ·exact .inr (Rec.A2 (LP y hy qX wh).2 (.inr hm))
   ·exact .inl (adv hm)).symm
 ·rw[Hg,hσ.s m]
  exact (oI (f:=rS m) Xa EI Ji hpw GY fun y hy qX wh=>wg (t:=Dl.oF) LJ fun hm=>Rec.Hj (LP y hy qX wh).2 (.inr hm)).symm
 ·rw[Hh,hσ.b m]
  exact (oI (f:=rB m) Xa EI Ji hpw GY fun y hy qX wh=>wg (t:=Dl.vU) Xo fun hm=>Rec.Hk (LP y hy qX wh).2 (.inr hm)).symm
 ·rw[A1,hσ.r m]
  exact (oI (f:=rR m) Xa EI Ji hpw GY fun y hy qX wh=>wg (t:=Dl.my) zB fun hm=>Rec.Hl (LP y hy qX wh).2 (.inr hm)).symm
theorem Jj(hE:E.Ok P)(hN:E.mA){J:Array Value→Prop}(Hf:∀o∈ops.toList,ry J o){n:Fx}(hW:yy P n.wl)(hd:∀o∈ops.toList,∀d,o.dst=some d→d<n.sz){L:List Rec}{LM:St}(Ei:L.map (·.i)=List.range ops.toList.length)
 (hF:∀x∈L,Fact E ops st0 L x) (hLN:Lk st0 (fun _=>true) L LM) (sZ:rj 0 ops.toList=true) (yM:oG ops L.reverse=true)
 (hK:∀g' a' w',g'.n=n→Inv w0 Mf g' LM a' w'→J a'.tmps→Q .normal a' w'):
    ∀(fuel:Nat)(aB:Array Bool){g:Gh}{a:Act}{w:World},aB.size=ops.size→we ops (fun j=>aB.getD j false)→cnt ops aB≤fuel→g.n=n→J a.tmps→
 (∃ σ,Lk st0 (fun x=>aB.getD x.i false) L σ∧Inv w0 Mf g σ a w)→wpAny P .any ops Q fuel aB a w:=by
 have bU:∀x∈L,x.i<ops.size:=fun x hx=>by
  have:x.i∈L.map (·.i):=List.mem_map.2 ⟨x,hx,rfl⟩
  rw[Ei] at this;simpa using this
 have final:∀{aB:Array Bool}{g:Gh}{a:Act}{w:World},(∀ j,j<ops.size→aB.getD j false=true)→g.n=n→J a.tmps→(∃ σ,Lk st0 (fun x=>aB.getD x.i false) L σ∧Inv w0 Mf g σ a w)→Q .normal a w:=by
  intro aB g a w eV hg Ej ⟨σ,hL,I⟩
  exact hK g a w hg (((hL.congr fun x hx=>eV x.i (bU x hx)).eq hLN).inv I) Ej
 intro fuel
 induction fuel with
 |zero=>
  intro aB g a w hs mX hc hg Ej hJ
  have eV:∀j,j<ops.size→aB.getD j false=true:=by
   intro j hj
   cases hl:aB.getD j false with
   |true=>rfl
   |false=>
    have:0<cnt ops aB:=List.countP_pos_iff.2 ⟨j,by simpa using hj,by simp only[hl];rfl⟩
    omega
  refine⟨?_,final eV hg Ej hJ⟩
  cases hr:Region.ready .any ops aB with
  |nil=>rfl
  |cons j rest=>
   have:j∈Region.ready .any ops aB:=by rw[hr];simp
   obtain⟨h0,o,ho,_⟩:=mem_ready.1 this
   have hj:j<ops.size:=(Array.getElem?_eq_some_iff.1 ho).1
   rw[na (by omega),eV j hj] at h0
   cases h0
 |succ fuel ih=>
  intro aB g a w hs mX hc hg Ej hJ
  refine⟨fun hr=>final (fun j hj=>qy sZ hs hr (j+1) j (by omega) hj) hg Ej hJ,fun i hi=> ?_⟩
  obtain⟨h0,o,ho,eV⟩:=mem_ready.1 hi
  have Y0:i<ops.size:=(Array.getElem?_eq_some_iff.1 ho).1
  rw[na (by omega)] at h0
  have nc:∀e∈o.after,Region.binds .any e=true→aB.getD e.on false=true:=eV
  obtain⟨x0,Ji,rfl⟩:∃x∈L,x.i=i:=by
   have:i∈L.map (·.i):=by rw[Ei];simpa using Y0
   simpa using this
  obtain⟨σ,hσ,I⟩:=hJ
  obtain⟨s1,A,_,hD,Xq⟩:=rA hN Ei hF yM hs mX Ji h0 ho nc hσ
  have zj:x0.i<aB.size:=by omega
  exact sY hE (by rw[hg];exact hW) (Hf o (by simpa using Array.mem_of_getElem? ho)) Ej I (fun d Jh=>by rw[hg];exact hd o (by simpa using Array.mem_of_getElem? ho) d Jh) ho hD fun g' a' w' pY I' Jk=>
   ih _ (by simp[hs]) (oJ zj mX ho nc) (by have:=Hm zj Y0 h0;omega) (pY.trans hg) Jk ⟨_,Xq,I'⟩
theorem Inv.drawn(I:Inv w0 Mf g st a w)(n:Nat):Inv w0 Mf g st a { w with drawn:=n }:=
 ⟨I.ay,I.boxes,I.roots,⟨I.apart.rr,I.apart.rb,I.apart.bb,I.apart.eu,I.apart.gD,I.apart.cp,I.apart.dL,I.apart.ew,I.apart.db,I.apart.bY⟩,
 ⟨I.kept.os,I.kept.tape,I.kept.output,I.kept.same⟩,I.defers,I.size,I.base⟩
theorem CR(w:World){b b':Nat}(us us':Array Value)(h:b≠b'):(w.setRow b us).setRow b' us'=(w.setRow b' us').setRow b us:=by
 unfold World.setRow
 congr 1
 apply Array.ext_getElem?
 intro k
 simp only[Array.getElem?_modify]
 by_cases h1:b=k<;>by_cases h2:b'=k
 ·exact absurd (h1.trans h2.symm) h
 ·simp[h1,h2]
 ·simp[h1,h2]
 ·simp[h1,h2]
theorem zC{x:Operand}(k:Sv→Option R):dv st x k=(dv st x some).bind k:=by
 cases x with
 |tmp t=>simp only[dv];cases au st.ay t<;>rfl
 |const v=>simp only[dv];cases pf v<;>rfl
 |func f=>rfl
 |global _=>rfl
structure adx (st:St) (o:Oper):Prop where
 x:∃T tx i id ver iv p,o.op = .indexAddr T (.tmp tx) i∧au st.ay tx=some (.c (.one (.h id ver iv p)))
structure CS (E:Env) (st:St) (o:Oper) (id:Nat):Prop where
 x:∃T tx y t ver iv p i off r s sv cs,o.op = .store T (.tmp tx) y∧o.dst=none∧E.code T=some t∧au st.ay tx=some (.c (.one (.pe id ver iv p i off)))∧Vd st id ver iv p r∧G8 r.md p=true∧
  sub r.t r.xs p=some s∧Nat.ble (off+ar t) (ar s.t)=true∧dv st y some=some sv∧fp t sv=some cs∧Nat.beq cs.length (ar t)=true
theorem jL{q:Bool×Nat}(h:fZ E st o=some q):o.guard.isNone=true∧((q=(false,0)∧adx st o)∨∃id,q=(true,id)∧CS E st o id):=by
 unfold fZ at h
 replace h:=bh h;obtain⟨hg,h⟩:=h
 refine⟨hg,?_⟩
 split at h
 ·rename_i T x i b9
  split at h
  ·rename_i id ver iv p hc
   obtain⟨tx,rfl,hx⟩:=fv hc
   cases h
   exact .inl ⟨rfl,⟨T,tx,i,id,ver,iv,p,b9,hx⟩⟩
  ·cases h
 ·rename_i T x y b9
  replace h:=bh h;obtain⟨hd,h⟩:=h
  replace h:=Option.bind_eq_some_iff.1 h;obtain⟨t,hT,h⟩:=h
  split at h
  ·rename_i id ver iv p i off hc
   obtain⟨tx,rfl,hx⟩:=fv hc
   replace h:=de h;obtain⟨r,hv,h⟩:=h
   replace h:=bh h;obtain⟨hn,h⟩:=h
   replace h:=Option.bind_eq_some_iff.1 h;obtain⟨s,hs,h⟩:=h
   replace h:=bh h;obtain⟨hle,h⟩:=h
   rw[zC] at h
   replace h:=Option.bind_eq_some_iff.1 h;obtain⟨sv,YR,h⟩:=h
   replace h:=Option.bind_eq_some_iff.1 h;obtain⟨cs,fq,h⟩:=h
   replace h:=bh h;obtain⟨hlen,h⟩:=h
   cases h
   exact .inr ⟨id,rfl,⟨T,tx,y,t,ver,iv,p,i,off,r,s,sv,cs,b9,Option.isNone_iff_eq_none.1 hd,hT,hx,hv,hn,hs,hle,YR,fq,hlen⟩⟩
  ·cases h
 ·cases h
theorem tN(hs:∀t,Operand.tmp t∈o.op.operands.toList→au bz.ay t=au st.ay t)(hr:∀id,CS E st o id→au bz.roots id=au st.roots id){q:Bool×Nat}
 (h:fZ E st o=some q):fZ E bz o=some q:=by
 replace h:=jL h;obtain⟨hg,h⟩:=h
 unfold fZ
 rw[hg]
 rcases h with ⟨rfl,⟨T,tx,i,id,ver,iv,p,b9,hx⟩⟩ | ⟨id,rfl,hL⟩
 ·have:=hs tx (by simp[b9,Op.operands])
  rw[hx] at this
  simp only[cond_true,b9,lV,this]
 ·have hr:=hr id hL
  obtain⟨T,tx,y,t,ver,iv,p,i,off,r,s,sv,cs,b9,hd,hT,hx,hv,hn,po,hle,YR,fq,hlen⟩:=hL
  have h1:=hs tx (by simp[b9,Op.operands])
  rw[hx] at h1
  have h2:dv bz y some=some sv:=by
   rw[← YR]
   cases y with
   |tmp t=>simp only[dv,hs t (by simp[b9,Op.operands])]
   |_=>rfl
  have h3:Nat.beq r.ver ver=true:=by rw[hv.2.1];exact Nat.beq_refl ver
  have h4:∀k:Sv→Option (Bool×Nat),dv bz y k=k sv:=fun k=>by rw[zC,h2];rfl
  simp only[cond_true,b9,hd,Option.isNone_none,hT,Option.bind_some,lV,h1,lp,kz,hr,hv.1,h3,hv.2.2,hn,po,hle,h4,fq,hlen]
theorem wj(A:Agr (eM ops st o) st bz){q:Bool×Nat}(h:fZ E st o=some q):fZ E bz o=some q:=by
 have hu:eM ops st o=bJ ops st o:=by
  unfold eM Lx vT
  rcases (jL h).2 with ⟨_,⟨T,tx,i,id,ver,iv,p,b9,hx⟩⟩ | ⟨id,_,⟨T,tx,y,t,ver,iv,p,i,off,r,s,sv,cs,b9,_,_,hx,_⟩⟩
  ·simp only[b9,cond_false]
  ·simp only[b9,cond_false,lV,hx]
 rw[hu] at A
 have hs:∀t,Operand.tmp t∈o.op.operands.toList→au bz.ay t=au st.ay t:=fun t ht=>A.s t (cg.2 (by
  simp only[bJ,List.mem_append,tmpsOf,List.mem_filterMap]
  exact .inl ⟨_,ht,rfl⟩))
 refine tN hs (fun id cS=>A.r id ?_) h
 obtain⟨T,tx,y,t,ver,iv,p,i,off,r,s,sv,cs,b9,hd,hT,hx,_⟩:=cS
 unfold nu.oc
 have:cE id (bJ ops st o).r=true:=cg.2 (by
  simp only[bJ]
  refine List.mem_append.2 (.inl (List.mem_flatten.2 ⟨[id],List.mem_map.2 ⟨([],[id]),List.mem_flatten.2 ⟨[([],[id])],List.mem_map.2 ⟨tx,List.mem_append.2 (.inl ?_),?_⟩,by simp⟩,rfl⟩,by simp⟩))
  ·simp[b9,Op.operands,tmpsOf]
  ·simp[hx,Sv.cells,Cm.cells,Sc.names])
 rw[this];rfl
def ahZ(P:Program)(g:Gh)(id:Nat)(o:Oper)(a:Act)(w:World):Prop:=
  ∃b off us el vs,g.rf id b∧w.heap[b]? =some (.cells us el (0,0))∧∀w':World,w'.heap[b]? =some (.cells us el (0,0))→(execOp a.eval o).run P w' = .ok .skip (w'.setRow b (putAt us off vs))
theorem nF(hE:E.Ok P)(I:Inv w0 Mf g st a w){id:Nat}(h:fZ E st o=some (true,id)):
    o.guard=none∧o.dst=none∧(∃ T x y,o.op = .store T x y)∧aS st id∧ahZ P g id o a w:=by
 replace h:=jL h;obtain⟨hg,h⟩:=h
 refine⟨Option.isNone_iff_eq_none.1 hg,?_⟩
 rcases h with ⟨h,_⟩ | ⟨aJ,h,⟨T,tx,y,t,ver,iv,p,i,off,r,s,sv,cs,b9,hd,hT,hx,hv,hn,hs,hle,YR,fq,hlen⟩⟩
 ·cases h
 cases h
 refine⟨hd,⟨T,_,y,b9⟩,?_⟩
 obtain⟨ux,hux,hrx⟩:=I.ay tx _ hx
 obtain⟨sv',h',ady⟩:=I.dv YR
 cases h'
 obtain⟨vs,eU,um⟩:=dw fq ady
 have SE:vs.size=ar t:=by rw[um.1];exact iC hlen
 obtain⟨_,ah2⟩:=hrx
 obtain⟨s',b,oo,n,cap,h1,h2,h3,h4⟩:=ah2.2 r hv.x
 have:=cW h1;rw[hs] at this;cases this
 have hle:=iD hle
 have fK:bA w (g.rf id) s.t s.xs (g.rv id p) (fun i j=>g.rv id (p++[(i,j)]))∧r.md.cr=false:=by
  have hr:=I.roots id r hv.1
  unfold aV at hr
  cases hm:r.md with
  |deep=>rw[hm] at hr;exact⟨hr.1 p s h1,rfl⟩
  |part k=>
   rw[hm] at hr hn
   cases k with
   |cur a b=>cases hn
   |hole p0=>
    have bU:p.length<p0.length:=by have:Nat.blt p.length p0.length=true:=hn;rwa [Nat.blt_eq] at this
    exact⟨hr.1 p s ((jd (by intro e;rw[e] at bU;simp at bU)).2 fun hp=>by have:=hp.length_le;omega) h1,rfl⟩
  |n6=>rw[hm] at hn;cases hn
  |B5=>rw[hm] at hn;cases hn
 obtain⟨fK,yv⟩:=fK
 refine⟨⟨r,hv.1,yv⟩,?_⟩
 rcases fK with ⟨h5,_⟩ | ⟨b',o',iE,us,el,h5,h6,h7,h8,h9,_⟩
 ·rw[h5] at h2;simp at h2
 ·rw[h3] at h5
  cases h5
  have hmul:i*ar s.t+ar s.t≤cap*ar s.t:=by
   have:(i+1)*ar s.t≤cap*ar s.t:=Nat.mul_le_mul_right _ (by omega)
   rw[Nat.add_mul] at this;omega
  refine⟨b,oo+i*ar s.t+off,us,el,vs,h6,h7,fun w' hb=> ?_⟩
  have ea:a.eval (.tmp tx) = .pointer (some ⟨b,oo+i*ar s.t+off,none⟩):=by
   rw[← h4];simp[Act.eval,hux]
  have:=ra hE hT (off:=oo+i*ar s.t+off) hb eU SE (by omega) um.flat
  rw[k8 (by omega)] at this
  simp[execOp,b9,Instr.storeAt,ea,Instr.sureAddr,this]
theorem EZ(hE:E.Ok P)(I:Inv w0 Mf g st a w){n:Nat}(h:fZ E st o=some (false,n)){d:Dl}(hd:eZ E o st some=some d):
    o.guard=none∧∃v,∀w':World,(execOp a.eval o).run P w' = .ok (.value v) w':=by
 replace h:=jL h;obtain⟨hg,h⟩:=h
 refine⟨Option.isNone_iff_eq_none.1 hg,?_⟩
 rcases h with ⟨h,⟨T,tx,i,id,ver,iv,p,b9,hx⟩⟩ | ⟨aJ,h,_⟩
 rotate_left
 ·cases h
 obtain⟨ux,hux,hrx⟩:=I.ay tx _ hx
 simp only[eZ,b9,fV,dv,hx,Option.bind_some,Sc.soft] at hd
 obtain⟨m,hd,hn⟩:=I.getInt hd
 replace hd:=Option.bind_eq_some_iff.1 hd;obtain⟨e,he,hd⟩:=hd
 have hT:=gF he
 obtain⟨el,hu,pg⟩:=hE.slice hT
 replace hd:=de hd;obtain⟨ro,dj,hd⟩:=hd
 replace hd:=bh hd;obtain⟨B6,hd⟩:=hd
 replace hd:=Option.bind_eq_some_iff.1 hd;obtain⟨s,hs,hd⟩:=hd
 replace hd:=bh hd;obtain⟨_,hd⟩:=hd
 replace hd:=bh hd;obtain⟨hb,hd⟩:=hd
 simp only[Bool.and_eq_true,decide_eq_true_eq] at hb
 obtain⟨oi,lv⟩:=hrx.2.2 ro dj.x
 obtain⟨s',eK⟩:=Option.isSome_iff_exists.1 lv
 have:=cW eK;rw[hs] at this;cases this
 obtain⟨ad,cap,e1,_,hh⟩:=I.oz dj.1 B6 eK
 obtain⟨b,oo,cs,pM,fz,rfl,hP,hbk,du⟩:=hh (fun qt=>by rw[qt] at hb;simp at hb;omega)
 have ea:a.eval (.tmp tx) = .slice (some ⟨b,oo,none⟩) s.xs.length cap:=by
  rw[← e1,←oi];simp[Act.eval,hux]
 refine⟨.pointer (some ⟨b,oo+m.toNat*ar e,none⟩),fun w'=> ?_⟩
 simp[execOp,b9,ea,hn,Instr.indexAt,asIntOf,run_underlying hu,hb.1,hb.2,hE.size pg,eA]
theorem A3(j:Nat)(W:List Nat):(cT ops j W).size=ops.size:=by simp[cT]
theorem gH(j:Nat)(W:List Nat)(i:Nat):(cT ops j W)[i]? =(ops[i]?).map fun o=>if i=j then jJ W o else o:=by
 simp only[cT,Array.getElem?_modify]
 by_cases e:j=i
 ·subst e;simp
 ·simp only[e,if_false]
  cases ops[i]? <;>simp[Ne.symm e]
theorem rC{W:List Nat}{e:Edge}:e∈(jJ W o).after↔e∈o.after∨∃v∈W,e={ on:=v,ground:= .data }:=by
 simp[jJ,eq_comm]
theorem E0(j:Nat)(W:List Nat)(t:Array Value):yielded (cT ops j W) t=yielded ops t:=by
 funext i
 unfold yielded
 rw[gH]
 cases ops[i]? with
 |none=>rfl
 |some o=>by_cases e:i=j<;>simp[e,jJ]
theorem Tw{j:Nat}{W:List Nat}{i:Nat}(h:wpOp P (cT ops j W) Q i K a w):wpOp P ops Q i K a w:=by
 unfold wpOp at *
 rw[gH,E0] at h
 cases ho:ops[i]? with
 |none=>rw[ho] at h;exact h
 |some o=>
  rw[ho] at h
  by_cases e:i=j
  ·simp only[Option.map_some,e,if_true] at h;exact h
  ·simp only[Option.map_some,e,if_false] at h;exact h
theorem LQ:∀{L:List Rec},(L.map (·.i)).Pairwise (· < ·)→∀x∈L,∀y∈L,x.i=y.i→x=y
 | [],_,_,h,_,_,_=>by cases h
 |z::L,hp,x,hx,y,hy,e=>by
  have SD:(∀ y∈L,z.i<y.i)∧(L.map (·.i)).Pairwise (· < ·):=by simpa using hp
  rcases List.mem_cons.1 hx with h1 | h1<;>rcases List.mem_cons.1 hy with h2 | h2
  ·rw[h1,h2]
  ·have:=SD.1 y h2;rw[h1] at e;omega
  ·have:=SD.1 x h1;rw[h2] at e;omega
  ·exact LQ SD.2 x h1 y h2 e
theorem LR(sZ:rj 0 ops.toList=true){j:Nat}(ho:ops[j]? =some o){x:Nat}(h:Nat.testBit ((eE ops).getD j 0) x=true):x<j:=by
 have bU:∀(i:Nat) o,ops[i]? =some o→∀e∈o.after,Region.binds .any e=true→e.on<i:=fun i o h e he hb=>by
  have:=nE sZ i o (by simpa using h) e he hb
  omega
 have:=jm (ops:=ops) (t:=fun i=>decide (i<j)) (fun i o h1 h2 e he hb=>by
  have:=bU i o h1 e he hb
  simp only[decide_eq_true_eq] at h2 ⊢;omega) (j+1) j (by omega) o ho (fun e he hb=>by have:=bU j o ho e he hb;simpa using this) x h
 simpa using this
theorem CS.uniq{id aJ:Nat}(h:CS E st o id)(h':CS E st o aJ):id=aJ:=by
 obtain⟨T,tx,y,t,ver,iv,p,i,off,r,s,sv,cs,b9,hd,hT,hx,_⟩:=h
 obtain⟨T',tx',y',t',K',iv',p',i',amx,r',s',sv',sK,adz,Jh,GO,oi,_⟩:=h'
 rw[b9] at adz;cases adz
 rw[hx] at oi;cases oi
 rfl
theorem wk(j:Nat)(W:List Nat)(o:Oper):fQ (cT ops j W) o=fQ ops o:=by
 unfold fQ
 split
 ·rfl
 ·rename_i i _ _
  rw[gH]
  cases ops[i]? with
  |none=>rfl
  |some o=>by_cases e:i=j<;>simp[e,jJ]
theorem zD(j:Nat)(W:List Nat)(st:St)(o:Oper):eM (cT ops j W) st o=eM ops st o:=by
 unfold eM bJ
 rw[wk]
theorem Fact.late{L:List Rec}{x:Rec}{j:Nat}{W:List Nat}(h:Fact E ops st0 L x):Fact E (cT ops j W) st0 L x:=by
 obtain⟨o,s1,ho,hD,hu,hm,hL,hl⟩:=h
 have hD':Eh E (cT ops j W) o s1 x.d:=by
  unfold Eh at hD ⊢
  split at hD
  ·exact hD
  ·rw[wk];exact hD
 by_cases e:x.i=j
 ·exact⟨jJ W o,s1,by rw[gH,ho];simp[e],hD',by rw[hu];exact (zD j W s1 o).symm,hm,hL,hl⟩
 ·exact⟨o,s1,by rw[gH,ho];simp[e],hD',by rw[hu,zD],hm,hL,hl⟩
structure LS (ops:Array Oper) (L:List Rec) (j:Nat) (W:List Nat) (oj:Oper) (id:Nat):Prop where
 get:ops[j]? =some oj
 lt:∀y∈L,y.i=j→y.lt=some (true,id)
 x:∀x∈L,x.i∈W→CH (tmpsOf oj.op.operands.toList) id x=true
 d:∀v∈W,∀o d,ops[v]? =some o→o.dst=some d→d ∉ tmpsOf oj.op.operands.toList
 rest:∀i,i<ops.size→i ∉ W→i≠j→Nat.testBit ((eE ops).getD j 0) i=true∨∀v∈W,Nat.testBit ((eE ops).getD i 0) v=true
theorem Jl{L:List Rec}{j:Nat}{W:List Nat}(hpw:(L.map (·.i)).Pairwise (· < ·))(h:ET ops L.reverse j W=true)(hj:∃y∈L,y.i=j):∃oj id,LS ops L j W oj id:=by
 unfold ET at h
 split at h
 ·cases h
 ·rename_i oj YZ
  simp only[Bool.and_eq_true,List.all_eq_true,List.mem_reverse,Bool.or_eq_true,Bool.not_eq_true'] at h
  obtain⟨⟨h1,h2⟩,h3⟩:=h
  obtain⟨y0,hy0,adA⟩:=hj
  have key:∀y∈L,y.i=j→∃id,y.lt=some (true,id)∧∀x∈L,x.i∈W→CH (tmpsOf oj.op.operands.toList) id x=true:=by
   intro y hy hyj
   have:=(h1 y hy).resolve_left (by rw[hyj,Nat.beq_refl];simp)
   split at this
   ·rename_i id bU
    refine⟨id,bU,fun x hx hxW=> ?_⟩
    simp only[List.all_eq_true,List.mem_reverse,Bool.or_eq_true,Bool.not_eq_true'] at this
    exact (this x hx).resolve_left (by rw[cg.2 hxW];simp)
   ·cases this
  obtain⟨id,cS,hX⟩:=key y0 hy0 adA
  refine⟨oj,id,YZ,fun y hy hyj=> ?_,hX,fun v hv o d ho hd=> ?_,fun i hi Y1 zq=> ?_⟩
  ·rw[LQ hpw y hy y0 hy0 (hyj.trans adA.symm)];exact cS
  ·have:=h2 v hv
   rw[ho] at this
   simp only[hd] at this
   intro hm
   rw[cg.2 hm] at this
   cases this
  ·rcases h3 i (by simpa using hi) with h | h | h | h
   ·exact absurd (cg.1 h) Y1
   ·exact absurd (iC h) zq
   ·exact .inl h
   ·exact .inr (by simpa using h)
def Norm(w0:World)(Mf:Nat→Prop)(n:Fx)(J:Array Value→Prop)(E1:Array Oper)(st0:St)(L:List Rec)(aB:Array Bool)(a:Act)(w:World):Prop:=
  ∃g σ,we E1 (fun i=>aB.getD i false)∧g.n=n∧J a.tmps∧Lk st0 (fun x=>aB.getD x.i false) L σ∧Inv w0 Mf g σ a w
def Y2(P:Program)(w0:World)(Mf:Nat→Prop)(n:Fx)(J:Array Value→Prop)(E1:Array Oper)(st0:St)(L:List Rec)(j:Nat)(W:List Nat)(oj:Oper)(aB:Array Bool)(a:Act)(w:World):Prop:=
  ∃(lm:Array Bool)(g:Gh)(σ:St)(w1:World),lm.size=E1.size∧we E1 (fun i=>lm.getD i false)∧lm.getD j false=false∧aB.getD j false=true∧(∀ i,i≠j→lm.getD i false=aB.getD i false)∧g.n=n∧J a.tmps∧
    Lk st0 (fun x=>lm.getD x.i false) L σ∧Inv w0 Mf g σ a w1∧(execOp a.eval oj).run P w1 = .ok .skip w
theorem E2(hE:E.Ok P)(hN:E.mA){J:Array Value→Prop}(Hf:∀o∈ops.toList,ry J o){n:Fx}(hW:yy P n.wl)(hd:∀o∈ops.toList,∀d,o.dst=some d→d<n.sz)
    {j:Nat} {W:List Nat} (hWj:∀v∈W,v<j) (hWa:∀i,i<j→i ∉ W→Nat.testBit ((eE ops).getD j 0) i=true)
    {L:List Rec} {LM:St} (Ei:L.map (·.i)=List.range ops.toList.length)
 (hF:∀x∈L,Fact E (cT ops j W) st0 L x) (hLN:Lk st0 (fun _=>true) L LM) (sZ:rj 0 ops.toList=true) (yM:oG (cT ops j W) L.reverse=true)
    {oj:Oper} {id:Nat} (hO:LS ops L j W oj id)
 (hK:∀g' a' w',g'.n=n→Inv w0 Mf g' LM a' w'→J a'.tmps→Q .normal a' w'):
    ∀(fuel:Nat)(aB:Array Bool){a:Act}{w:World},aB.size=ops.size→we ops (fun j=>aB.getD j false)→cnt ops aB≤fuel→
 (Norm w0 Mf n J (cT ops j W) st0 L aB a w∨((∃ v∈W,aB.getD v false=false)∧Y2 P w0 Mf n J (cT ops j W) st0 L j W oj aB a w))→wpAny P .any ops Q fuel aB a w:=by
 have dy:=A3 (ops:=ops) j W
 have Y3:L.map (·.i)=List.range (cT ops j W).toList.length:=by rw[Ei];simp[dy]
 have bU:∀x∈L,x.i<ops.size:=fun x hx=>by
  have:x.i∈L.map (·.i):=List.mem_map.2 ⟨x,hx,rfl⟩
  rw[Ei] at this;simpa using this
 have hjs:j<ops.size:=(Array.getElem?_eq_some_iff.1 hO.get).1
 have LU:∀i,i<ops.size→∃x∈L,x.i=i:=fun i hi=>by
  have:i∈L.map (·.i):=by rw[Ei];simpa using hi
  simpa using this
 obtain⟨xj,hxj,Tx⟩:=LU j hjs
 have kO:∀i o,ops[i]? =some o→i≠j→(cT ops j W)[i]? =some o:=fun i o ho hi=>by rw[gH,ho];simp[hi]
 have Hn:(cT ops j W)[j]? =some (jJ W oj):=by rw[gH,hO.get];simp
 have hJj:ry J oj:=Hf oj (by simpa using Array.mem_of_getElem? hO.get)
 have final:∀{aB:Array Bool}{a:Act}{w:World},(∀ i,i<ops.size→aB.getD i false=true)→
   (Norm w0 Mf n J (cT ops j W) st0 L aB a w∨((∃ v∈W,aB.getD v false=false)∧Y2 P w0 Mf n J (cT ops j W) st0 L j W oj aB a w))→Q .normal a w:=by
  intro aB a w eV h
  rcases h with ⟨g,σ,_,hg,Ej,hL,I⟩ | ⟨⟨v,hv,uV⟩,_⟩
  ·exact hK g a w hg (((hL.congr fun x hx=>eV x.i (bU x hx)).eq hLN).inv I) Ej
  ·rw[eV v (by have:=hWj v hv;omega)] at uV;cases uV
 -- the late store, where all is done that it should come behind
 have close:∀{lm:Array Bool}{g:Gh}{σ:St}{a:Act}{w1 w:World},lm.size=ops.size→we (cT ops j W) (fun i=>lm.getD i false)→lm.getD j false=false→(∀ e∈oj.after,Region.binds .any e=true→lm.getD e.on false=true)→(∀ v∈W,lm.getD v false=true)→
   g.n=n→J a.tmps→Lk st0 (fun x=>lm.getD x.i false) L σ→Inv w0 Mf g σ a w1→(execOp a.eval oj).run P w1 = .ok .skip w→Norm w0 Mf n J (cT ops j W) st0 L (lm.setIfInBounds j true) a w:=by
  intro lm g σ a w1 w hs mX h0 eV adC hg Ej hL I df
  have nc:∀e∈(jJ W oj).after,Region.binds .any e=true→lm.getD e.on false=true:=fun e he hb=>by
   rcases rC.1 he with he | ⟨v,hv,rfl⟩
   ·exact eV e he hb
   ·exact adC v hv
  subst Tx
  obtain⟨s1,A,hl,hD,Xq⟩:=rA hN Y3 hF yM (by rw[hs,dy]) mX hxj h0 Hn nc hL
  have ah5:fZ E s1 (jJ W oj)=some (true,id):=hl.symm.trans (hO.lt xj hxj rfl)
  obtain⟨zE,ly,_,_,_⟩:=nF (o:=jJ W oj) hE I (wj A ah5)
  unfold Eh at hD
  rw[zE] at hD
  simp only at hD
  have:=mZ (Q:=Q) (K:=fun a' w'=>a'=a→∃g',g'.n=n∧Inv w0 Mf g' (σ.apply xj.d) a w') hE (by rw[hg];exact hW) I (fun d Jh=>by rw[ly] at Jh;cases Jh) (fun δ g' a' w' h1 h2 h3=>by
   cases h1
   intro e
   subst e
   exact⟨g',h2.trans hg,h3⟩) hD
  unfold Oper.wp at this
  have Ho:(execOp a.eval (jJ W oj)).run P w1 = .ok .skip w:=df
  rw[Ho,Oper.upon_skip,ly] at this
  obtain⟨g',pY,I'⟩:=this rfl
  exact⟨g',_,oJ (by rw[hs];exact hjs) mX Hn nc,pY,Ej,Xq,I'⟩
 have after:∀{aB:Array Bool},we ops (fun i=>aB.getD i false)→∀{v:Nat},v∈W→aB.getD v false=false→∀y,j<y→y<ops.size→aB.getD y false=false:=by
  intro aB mX v hv SH y hy Lb
  cases wh:aB.getD y false with
  |false=>rfl
  |true=>
   obtain⟨oy,hoy⟩:∃oy,ops[y]? =some oy:=⟨_,Array.getElem?_eq_getElem Lb⟩
   rcases hO.rest y Lb (fun Tz=>by have:=hWj y Tz;omega) (by omega) with fI | fI
   ·have:=LR sZ hO.get fI;omega
   ·have:=jm mX (y+1) y (by omega) oy hoy (fun e he hb=>mX y oy hoy wh e he hb) v (fI v hv)
    simp only[SH] at this
    cases this
 have atJ:∀{lm:Array Bool}{σ:St},(∀ y,y<j→y ∉ W→lm.getD y false=true)→lm.getD j false=false→(∀ y,j<y→y<ops.size→lm.getD y false=false)→Lk st0 (fun x=>lm.getD x.i false) L σ→fZ E σ oj=some (true,id):=by
  intro lm σ h1 h2 h3 hL
  obtain⟨o1,s1,ho1,_,_,_,Xp,pZ⟩:=hF xj hxj
  rw[Tx,Hn] at ho1;cases ho1
  have pZ:fZ E s1 oj=some (true,id):=pZ.symm.trans (hO.lt xj hxj Tx)
  have hX:∀y∈L,Nat.blt y.i xj.i≠lm.getD y.i false→(∀ n∈y.d.oF,cE n (tmpsOf oj.op.operands.toList)=false)∧∀n∈y.d.my,Nat.beq n id=false:=by
   intro y hy dn
   have Tz:y.i∈W:=by
    rw[Tx] at dn
    rcases Nat.lt_trichotomy y.i j with h | h | h
    ·have hb:Nat.blt y.i j=true:=by rw[Nat.blt_eq];exact h
     rw[hb] at dn
     exact Classical.byContradiction fun Tz=>dn (h1 y.i h Tz).symm
    ·exfalso
     have hb:Nat.blt y.i j=false:=by
      cases hb:Nat.blt y.i j with
      |false=>rfl
      |true=>rw[Nat.blt_eq] at hb;omega
     rw[hb,h,h2] at dn
     exact dn rfl
    ·exfalso
     have hb:Nat.blt y.i j=false:=by
      cases hb:Nat.blt y.i j with
      |false=>rfl
      |true=>rw[Nat.blt_eq] at hb;omega
     rw[hb,h3 y.i h (bU y hy)] at dn
     exact dn rfl
   have:=hO.x y hy Tz
   unfold CH at this
   simp only[Bool.and_eq_true,List.all_eq_true,Bool.not_eq_true'] at this
   exact this.2
  refine tN (st:=s1) (fun t ht=> ?_) (fun aJ KS=> ?_) pZ
  ·rw[hL.s t,Xp.s t]
   refine (dW fun y hy dn=>LJ fun hm=> ?_).symm
   have:=(hX y hy dn).1 t hm
   rw[cg.2 (by simp only[tmpsOf,List.mem_filterMap];exact⟨_,ht,rfl⟩)] at this
   cases this
  ·have:aJ=id:=by
    rcases (jL pZ).2 with ⟨h,_⟩ | ⟨i2,h,h'⟩
    ·cases h
    ·cases h;exact KS.uniq h'
   subst this
   rw[hL.r aJ,Xp.r aJ]
   refine (dW fun y hy dn=>zB fun hm=> ?_).symm
   have:=(hX y hy dn).2 aJ hm
   rw[Nat.beq_refl] at this
   cases this
 intro fuel
 induction fuel with
 |zero=>
  intro aB a w hs mX hc h
  have eV:∀i,i<ops.size→aB.getD i false=true:=by
   intro i hi
   cases hl:aB.getD i false with
   |true=>rfl
   |false=>
    have:0<cnt ops aB:=List.countP_pos_iff.2 ⟨i,by simpa using hi,by simp only[hl];rfl⟩
    omega
  refine⟨?_,final eV h⟩
  cases hr:Region.ready .any ops aB with
  |nil=>rfl
  |cons i rest=>
   have:i∈Region.ready .any ops aB:=by rw[hr];simp
   obtain⟨h0,o,ho,_⟩:=mem_ready.1 this
   have hi:i<ops.size:=(Array.getElem?_eq_some_iff.1 ho).1
   rw[na (by omega),eV i hi] at h0
   cases h0
 |succ fuel ih=>
  intro aB a w hs mX hc h
  refine⟨fun hr=>final (fun i hi=>qy sZ hs hr (i+1) i (by omega) hi) h,fun i hi=> ?_⟩
  obtain⟨h0,o,ho,eV⟩:=mem_ready.1 hi
  have Y0:i<ops.size:=(Array.getElem?_eq_some_iff.1 ho).1
  rw[na (by omega)] at h0
  have eV:∀e∈o.after,Region.binds .any e=true→aB.getD e.on false=true:=eV
  have zj:i<aB.size:=by omega
  have hJi:ry J o:=Hf o (by simpa using Array.mem_of_getElem? ho)
  have Y4:∀d,o.dst=some d→d<n.sz:=hd o (by simpa using Array.mem_of_getElem? ho)
  have ih':∀{a:Act}{w:World},(Norm w0 Mf n J (cT ops j W) st0 L (aB.setIfInBounds i true) a w∨((∃ v∈W,(aB.setIfInBounds i true).getD v false=false)∧Y2 P w0 Mf n J (cT ops j W) st0 L j W oj (aB.setIfInBounds i true) a w))→
    wpAny P .any ops Q fuel (aB.setIfInBounds i true) a w:=fun h=>ih _ (by simp[hs]) (oJ zj mX ho eV) (by have:=Hm zj Y0 h0;omega) h
  obtain⟨xi,hxi,rfl⟩:=LU i Y0
  rcases h with ⟨g,σ,Y5,hg,Ej,hL,I⟩ | ⟨⟨v0,hv0,uV⟩,lm,g,σ,w1,Tt,adD,hmj,hlj,TA,hg,Ej,hL,I,df⟩
  ·-- in order so far
   by_cases Xr:xi.i=j∧∃v∈W,aB.getD v false=false
   ·obtain⟨rfl,ah8⟩:=Xr
    have yr:=ho
    rw[hO.get] at yr;cases yr
    obtain⟨v,hv,SH⟩:=ah8
    have hlσ:=atJ (lm:=aB) (fun y hy Tz=>jm mX (xi.i+1) xi.i (by omega) oj ho eV y (hWa y hy Tz)) h0 (fun y hy Lb=>after mX hv SH y hy Lb) hL
    obtain⟨zE,ly,_,_,b,off,us,el,vs,hF1,zu,CT⟩:=nF hE I hlσ
    unfold wpOp
    rw[ho]
    simp only[Region.wanted,zE,if_true]
    refine .inl (nD ly (CT w zu) (ih' (.inr ⟨?_,aB,g,σ,w,by rw[hs,dy],Y5,h0,?_,fun i hi=> ?_,hg,Ej,hL,I,CT w zu⟩)))
    ·exact⟨v,hv,by rw[eO zj,if_neg (by have:=hWj v hv;omega)];exact SH⟩
    ·rw[eO zj];simp
    ·rw[eO zj,if_neg hi]
   ·have hgo:∃o',(cT ops j W)[xi.i]? =some o'∧(∀ e∈o'.after,Region.binds .any e=true→aB.getD e.on false=true)∧ry J o'∧∀d,o'.dst=some d→d<n.sz:=by
     by_cases e:xi.i=j
     ·have Hp:∀v∈W,aB.getD v false=true:=fun v hv=>by
       cases KI:aB.getD v false with
       |true=>rfl
       |false=>exact absurd ⟨e,v,hv,KI⟩ Xr
      have ho2:=ho
      rw[e,hO.get] at ho2;cases ho2
      refine⟨jJ W oj,by rw[e];exact Hn,fun e he hb=> ?_,hJi,Y4⟩
      rcases rC.1 he with he | ⟨v,hv,rfl⟩
      ·exact eV e he hb
      ·exact Hp v hv
     ·exact⟨o,kO xi.i o ho e,eV,hJi,Y4⟩
    obtain⟨o',yr,nc,u6,Jh⟩:=hgo
    obtain⟨s1,A,_,hD,Xq⟩:=rA hN Y3 hF yM (by rw[hs,dy]) Y5 hxi h0 yr nc hL
    refine Tw (j:=j) (W:=W) (sY hE (by rw[hg];exact hW) u6 Ej I (fun d h=>by rw[hg];exact Jh d h) yr hD fun g' a' w' pY I' Jk=>ih' (.inl ⟨g',_,oJ zj Y5 yr nc,pY.trans hg,Jk,Xq,I'⟩))
  ·-- the store is done already
   have zq:xi.i≠j:=fun e=>by rw[e,hlj] at h0;cases h0
   have Y1:xi.i∈W:=by
    refine Classical.byContradiction fun Y1=> ?_
    rcases hO.rest xi.i Y0 Y1 zq with hb | hb
    ·have:=jm mX (j+1) j (by omega) oj hO.get (fun e he hb=>mX j oj hO.get hlj e he hb) xi.i hb
     simp only[h0] at this;cases this
    ·have:=jm mX (xi.i+1) xi.i (by omega) o ho eV v0 (hb v0 hv0)
     simp only[uV] at this;cases this
   have akw:=hWj _ Y1
   have yr:=kO xi.i o ho zq
   have YY:∀i' o'',ops[i']? =some o''→i'≤j→∀e∈o''.after,Region.binds .any e=true→e.on<i':=fun i' o'' h1 h2 e he hb=>by
    have:=nE sZ i' o'' (by simpa using h1) e he hb
    omega
   have h0':lm.getD xi.i false=false:=by rw[TA _ zq];exact h0
   have nc:∀e∈o.after,Region.binds .any e=true→lm.getD e.on false=true:=fun e he hb=>by
    rw[TA _ (by have:=YY _ o ho (by omega) e he hb;omega)]
    exact eV e he hb
   have adE:lm.size=ops.size:=by rw[Tt,dy]
   have adF:xi.i<lm.size:=by omega
   obtain⟨s1,A,hl,hD,Xq⟩:=rA hN Y3 hF yM Tt adD hxi h0' yr nc hL
   have hX:=hO.x xi hxi Y1
   unfold CH at hX
   simp only[Bool.and_eq_true] at hX
   -- the late store, at the state ahead of it
   have adG:=oJ adF adD yr nc
   have ur:=eO zj
   have CU:=eO adF
   have Xs:∀{g':Gh}{a':Act}{w1' w':World},g'.n=n→J a'.tmps→Inv w0 Mf g' (σ.apply xi.d) a' w1'→(execOp a'.eval oj).run P w1' = .ok .skip w'→wpAny P .any ops Q fuel (aB.setIfInBounds xi.i true) a' w':=by
    intro g' a' w1' w' pY Jk I' Ho
    refine ih' ?_
    have adH:(lm.setIfInBounds xi.i true).getD j false=false:=by rw[CU,if_neg (Ne.symm zq)];exact hmj
    by_cases Hp:∀v∈W,(lm.setIfInBounds xi.i true).getD v false=true
    ·left
     have hN':=close (lm:=lm.setIfInBounds xi.i true) (by simp[adE]) adG adH (fun e he hb=>by
      have qX:=YY j oj hO.get (Nat.le_refl _) e he hb
      have h1:aB.getD e.on false=true:=mX j oj hO.get hlj e he hb
      rw[CU]
      by_cases e':e.on=xi.i
      ·rw[if_pos e']
      ·rw[if_neg e',TA _ (by omega)];exact h1) Hp pY Jk Xq I' Ho
     obtain⟨g3,σ3,k1,k2,k3,k4,k5⟩:=hN'
     have heq:∀i,((lm.setIfInBounds xi.i true).setIfInBounds j true).getD i false=(aB.setIfInBounds xi.i true).getD i false:=fun i=>by
      rw[eO (by simp[adE];exact hjs),CU,ur]
      by_cases e:i=j
      ·subst e;rw[if_pos rfl,if_neg (Ne.symm zq),hlj]
      ·rw[if_neg e]
       by_cases e':i=xi.i
       ·rw[if_pos e',if_pos e']
       ·rw[if_neg e',if_neg e',TA _ e]
     refine⟨g3,σ3,fun i o h1 h2 e he hb=> ?_,k2,k3,k4.congr fun x _=>heq x.i,k5⟩
     have:=k1 i o h1 (by simp only at h2 ⊢;rw[heq];exact h2) e he hb
     simp only at this ⊢
     rw[← heq];exact this
    ·right
     have:∃v∈W,(lm.setIfInBounds xi.i true).getD v false=false:=Classical.byContradiction fun ah'=>Hp fun v hv=>by
      cases KI:(lm.setIfInBounds xi.i true).getD v false with
      |true=>rfl
      |false=>exact absurd ⟨v,hv,KI⟩ ah'
     obtain⟨v,hv,SH⟩:=this
     have hvj:v≠j:=by have:=hWj v hv;omega
     refine⟨⟨v,hv,?_⟩,lm.setIfInBounds xi.i true,g',_,w1',by simp[Tt],adG,adH,?_,fun i hi=> ?_,pY,Jk,Xq,I',Ho⟩
     ·rw[ur];rw[CU] at SH
      by_cases e:v=xi.i
      ·rw[if_pos e] at SH;cases SH
      ·rw[if_neg e] at SH ⊢;rw[← TA _ hvj];exact SH
     ·rw[ur,if_neg (Ne.symm zq)];exact hlj
     ·rw[CU,ur,TA _ hi]
   have hlσ:=atJ (lm:=lm) (fun y hy Tz=>by
    rw[TA y (by omega)]
    exact jm mX (j+1) j (by omega) oj hO.get (fun e he hb=>mX j oj hO.get hlj e he hb) y (hWa y hy Tz)) hmj (fun y hy Lb=>by rw[TA y (by omega)];exact after mX hv0 uV y hy Lb) hL
   obtain⟨amC,akx,⟨T,x,y,Y6⟩,ez,b,off,us,el,vs,hF1,zu,CT⟩:=nF hE I hlσ
   have hw:w=w1.setRow b (putAt us off vs):=by
    rw[CT w1 zu] at df
    cases df;rfl
   unfold wpOp
   rw[ho]
   cases hq:xi.lt with
   |none=>rw[hq] at hX;exact absurd hX.1 (by simp)
   |some bq=>
    obtain⟨b1,YX⟩:=bq
    have hl2:fZ E σ o=some (b1,YX):=wj A (hl.symm.trans hq)
    have hgi:=Option.isNone_iff_eq_none.1 (jL hl2).1
    unfold Eh at hD
    rw[hgi] at hD
    simp only at hD
    simp only[Region.wanted,hgi,if_true]
    left
    cases b1 with
    |false=>
     obtain⟨_,v,hv⟩:=EZ hE I hl2 hD
     have:=mZ (Q:=Q) (K:=fun a' w'=>a'=a.put o.dst v→w'=w1→∃g',g'.n=n∧Inv w0 Mf g' (σ.apply xi.d) (a.put o.dst v) w1) hE (by rw[hg];exact hW) I (fun d h=>by rw[hg];exact Y4 d h) (fun δ g' a' w' h1 h2 h3=>by
      cases h1
      intro e1 e2
      subst e1;subst e2
      exact⟨g',h2.trans hg,h3⟩) hD
     unfold Oper.wp at this ⊢
     rw[hv,Oper.upon_value] at this ⊢
     obtain⟨g',pY,I'⟩:=this rfl rfl
     refine Xs pY (hJi a v Ej) I' ?_
     have hev:∀z∈oj.op.operands.toList,(a.put o.dst v).eval z=a.eval z:=fun z hz=>Act.eval_put fun d Jh e=>by
      subst e
      exact hO.d _ Y1 o d ho Jh (by simp only[tmpsOf,List.mem_filterMap];exact⟨_,hz,rfl⟩)
     rw[← df]
     simp only[execOp,Y6,hev x (by simp[Y6,Op.operands]),hev y (by simp[Y6,Op.operands])]
    |true=>
     rw[hq] at hX
     have dn:YX≠id:=fun e=>by
      subst e
      have:=hX.1
      simp only[Nat.beq_refl] at this
      cases this
     obtain⟨_,adI,_,adJ,b2,adK,us2,Yt,vs2,hF2,pv,Xt⟩:=nF hE I hl2
     have Tj:b≠b2:=fun e=>by
      subst e
      exact dn (I.apart.rr YX id b adJ ez hF2 hF1)
     have:=mZ (Q:=Q) (K:=fun a' w'=>a'=a→w'=w1.setRow b2 (putAt us2 adK vs2)→∃g',g'.n=n∧Inv w0 Mf g' (σ.apply xi.d) a (w1.setRow b2 (putAt us2 adK vs2))) hE (by rw[hg];exact hW) I (fun d h=>by rw[hg];exact Y4 d h) (fun δ g' a' w' h1 h2 h3=>by
      cases h1
      intro e1 e2
      subst e1;subst e2
      exact⟨g',h2.trans hg,h3⟩) hD
     unfold Oper.wp at this
     rw[Xt w1 pv,Oper.upon_skip,adI] at this
     obtain⟨g',pY,I'⟩:=this rfl rfl
     refine nD adI (Xt w (by rw[hw,setRow_other _ _ _ _ (Ne.symm Tj)];exact pv)) (Xs pY Ej I' ?_)
     rw[CT _ (by rw[setRow_other _ _ _ _ Tj];exact zu),hw,CR _ _ _ Tj]
theorem A4(hE:E.Ok P)(hN:E.mA)(hW:yy P g.n.wl){J:Array Value→Prop}(Hf:∀o∈ops.toList,ry J o)(hJ:J a.tmps)(I:Inv w0 Mf g st a w){id:Nat}{draw:Bool}(hd:∀o∈ops.toList,∀d,o.dst=some d→d<g.n.sz){k:St→Option R}{r:R}(h:vV E ops draw st k=some r)
 (hK:∀g' aF a' w',k aF=some r→g'.n=g.n→Inv w0 Mf g' aF a' w'→J a'.tmps→Q .normal a' w'):(Code.region id ops draw).wp P Q a w:=by
 cases draw with
 |false=>
  refine wp_region ?_
  have:=zA (ops:=ops) (Q:=Q) hE hN Hf hW hd hK ops.toList 0 rfl h rfl I hJ
  rw[List.range_eq_range']
  simpa using this
 |true=>
  refine wp_region_any hE.ord ?_
  simp only[vV,cond_true] at h
  have tO:∀(L:List Rec),Lk st (fun x=>(Array.replicate ops.size false).getD x.i false) L st:=fun L=>by
   have hz:∀x:Rec,(Array.replicate ops.size false).getD x.i false=false:=fun x=>by
    simp only[Array.getD_eq_getD_getElem?,Array.getElem?_replicate];split<;>rfl
   exact⟨fun m=>(m9 fun x _ hx=>by simp only[hz] at hx;cases hx).symm,fun m=>(m9 fun x _ hx=>by simp only[hz] at hx;cases hx).symm,fun m=>(m9 fun x _ hx=>by simp only[hz] at hx;cases hx).symm,fun m=>(m9 fun x _ hx=>by simp only[hz] at hx;cases hx).symm⟩
  have LV:∀{E1:Array Oper},we E1 (fun i=>(Array.replicate ops.size false).getD i false):=fun {E1} j o ho hj=>by
   have:(Array.replicate ops.size false).getD j false=false:=by simp only[Array.getD_eq_getD_getElem?,Array.getElem?_replicate];split<;>rfl
   simp only at hj;rw[this] at hj;cases hj
  obtain⟨L,LM,Ei,hF,hLN,hk⟩:=CP (st0:=st) hN ops.toList 0 (k:=fun rs st=>cond (rj 0 ops.toList&&(oG ops rs||AX ops rs)) (k st) none) [] rfl (Nat.zero_le _) rfl ⟨fun _=>rfl,fun _=>rfl,fun _=>rfl,fun _=>rfl⟩ (fun x hx=>by cases hx) h
  obtain⟨hc,hk⟩:=bh hk
  simp only[Bool.and_eq_true,Bool.or_eq_true] at hc
  obtain⟨sZ,hc⟩:=hc
  rcases hc with hc | hc
  ·exact Jj hE hN Hf hW hd Ei hF hLN sZ hc (fun g' a' w' hg I' u6=>hK g' LM a' w' hk hg I' u6) ops.size _ (by simp) LV (Nat.le_trans List.countP_le_length (by simp)) rfl hJ ⟨st,tO L,I.drawn _⟩
  ·unfold AX at hc
   split at hc
   ·rename_i j hj
    generalize hWe:Ha (eE ops) j=W at hc
    simp only[Bool.and_eq_true] at hc
    have IK:j<ops.size:=by
     unfold Xm at hj
     obtain⟨y,hy,rfl⟩:=Option.map_eq_some_iff.1 hj
     have hm:=List.mem_of_find?_eq_some hy
     simp only[List.reverse_reverse] at hm
     have:y.i∈L.map (·.i):=List.mem_map.2 ⟨y,hm,rfl⟩
     rw[Ei] at this;simpa using this
    obtain⟨oj,id,hO⟩:=Jl (by rw[Ei];exact List.pairwise_lt_range) hc.2 (by
     have:j∈L.map (·.i):=by rw[Ei];simpa using IK
     simpa using this)
    have hWm:∀i,i∈W↔i<j∧Nat.testBit ((eE ops).getD j 0) i=false:=fun i=>by
     rw[← hWe];simp[Ha]
    exact E2 hE hN Hf hW hd (fun v hv=>((hWm v).1 hv).1) (fun i h1 h2=>by
     cases hb:Nat.testBit ((eE ops).getD j 0) i with
     |true=>rfl
     |false=>exact absurd ((hWm i).2 ⟨h1,hb⟩) h2) Ei (fun x hx=>(hF x hx).late) hLN sZ hc.1 hO (fun g' a' w' hg I' u6=>hK g' LM a' w' hk hg I' u6) ops.size _ (by simp) LV (Nat.le_trans List.countP_le_length (by simp))
     (.inl ⟨g,st,LV,rfl,hJ,tO L,I.drawn _⟩)
   ·cases hc
end Go.Gm
namespace Go.Gm
open Go
variable {w0 w : World} {Mf : Nat → Prop} {g : Gh} {st cl : St} {a : Act}
section
variable {α β : Type}
theorem iL(p:Nat→Bool):∀(l:List (Nat×α))(n:Nat),au (l.filter fun x=>p x.1) n=cond (p n) (au l n) none
  | [],n=>by simp[au]
  | (m,v)::l,n=>by
    simp only[List.filter_cons]
    by_cases e:n=m
    · subst e
      cases hp:p n with
      |true=>simp[au]
      |false=>simp only[Bool.false_eq_true,if_false,cond_false];rw[iL p l n,hp];rfl
    · have hb:Nat.beq n m=false:=SQ e
      cases hp:p m with
      |true=>simp only[if_true,au,hb,cond_false];exact iL p l n
      |false=>simp only[Bool.false_eq_true,if_false,au,hb,cond_false];exact iL p l n
theorem oK(f:α→β):∀(l:List (Nat×α))(n:Nat),au (l.map fun x=>(x.1,f x.2)) n=(au l n).map f
  | [],n=>rfl
  | (m,v)::l,n=>by
    simp only[List.map_cons,au]
    cases Nat.beq n m with
    |true=>rfl
    |false=>simp only[cond_false];exact oK f l n
theorem e9:∀{l:List (Nat×α)}{n:Nat}{v:α},au l n=some v→(n,v)∈l
  | (m,u)::l,n,v,h=>by
    simp only[au] at h
    cases hb:Nat.beq n m with
    |true=>rw[hb] at h;cases h;rw[iC hb];simp
    |false=>rw[hb] at h;exact List.mem_cons_of_mem _ (e9 h)
theorem zF:∀{l:List (Nat×α)}{n:Nat},n∈l.map (·.1)→(au l n).isSome
  | (m,u)::l,n,h=>by
    simp only[au]
    cases hb:Nat.beq n m with
    |true=>rfl
    |false=>
      have:n≠m:=fun e=>by subst e;simp at hb
      simp only[cond_false]
      exact zF (by simpa [this] using h)
end
theorem cJ.E3{f:Sc→Sc}{cs:List Sc}{us:Array Value}(h:cJ w g st cs us)(hf:∀c u,c∈cs→bg w g st c u→bg w g cl (f c) u):cJ w g cl (cs.map f) us:=by
 refine⟨by simp[h.1],fun j c hc=> ?_⟩
 obtain⟨c0,h0,rfl⟩:∃c0,cs[j]? =some c0∧f c0=c:=by simpa using hc
 obtain⟨z,hz,hr⟩:=h.2 j c0 h0
 exact⟨z,hz,hf c0 z (List.mem_of_getElem? h0) hr⟩
theorem jc.E3{f:Sc→Sc}{x:Cm}{u:Value}(h:jc w g st x u)(hf:∀c u,c∈x.cells→bg w g st c u→bg w g cl (f c) u):jc w g cl (x.map f) u:=by
 cases x with
 |one c=>exact hf c u (by simp[Cm.cells]) h
 |agg cs=>obtain⟨us,e,h⟩:=h;exact⟨us,e,h.E3 hf⟩
theorem dO.E3{f:Sc→Sc}{x:Sv}{u:Value}(h:dO w g st x u)(hf:∀c u,c∈x.cells→bg w g st c u→bg w g cl (f c) u):dO w g cl (x.map f) u:=by
 cases x with
 |c x=>exact jc.E3 h hf
 |yZ vs=>
  obtain⟨us,e,hl,h⟩:=h
  refine⟨us,e,by simp[hl],fun j x hx=> ?_⟩
  obtain⟨x0,h0,rfl⟩:∃x0,vs[j]? =some x0∧Cm.map f x0=x:=by simpa using hx
  obtain⟨z,hz,hr⟩:=h j x0 h0
  exact⟨z,hz,hr.E3 fun c u hc=>hf c u (by simp only[Sv.cells,List.mem_flatten,List.mem_map];exact⟨_,⟨x0,List.mem_of_getElem? h0,rfl⟩,hc⟩)⟩
theorem Cm.map_map(f h:Sc→Sc)(x:Cm):(x.map f).map h=x.map fun c=>h (f c):=by cases x<;>simp[Cm.map,Function.comp_def]
theorem Sv.map_map(f h:Sc→Sc)(x:Sv):(x.map f).map h=x.map fun c=>h (f c):=by
 cases x with
 |c x=>simp[Sv.map,Cm.map_map]
 |yZ vs=>simp[Sv.map,Function.comp_def,Cm.map_map]
theorem Cm.py(f:Sc→Sc)(x:Cm):(x.map f).cells=x.cells.map f:=by cases x<;>rfl
theorem Sv.py(f:Sc→Sc)(x:Sv):(x.map f).cells=x.cells.map f:=by
 cases x with
 |c x=>exact Cm.py f x
 |yZ vs=>simp[Sv.map,Sv.cells,Function.comp_def,Cm.py]
theorem LW(m:Md):m.norm.cr=m.cr:=by
 cases m with
 |part k=>
  cases k with
  |cur i j=>cases j<;>rfl
  |hole p=>rfl
 |_=>rfl
theorem aV.norm{id:Nat}{r:cC}(h:aV w g id r):aV w g id ⟨r.t,r.md.norm,0,[],r.xs⟩:=by
 obtain⟨t,md,ver,log,xs⟩:=r
 cases md with
 |part k=>
  cases k with
  |hole p=>exact h
  |cur i j=>
   cases j with
   |zero=>exact h
   |succ j=>exact cX.on (eX.2 (.inl (Nat.lt_succ_self i))) h
 |_=>exact h
theorem E4{bs rs:List Nat}(hb:∀b,cE b bs=true→(au cl.boxes b).isSome)(hr:∀id,cE id rs=true→au cl.roots id=(au st.roots id).map Rt.ER){c:Sc}{u:Value}
 (h:bg w g st c u) (hn:∀id∈((c.fix st).boxed bs).names.2,cE id rs=true):bg w g cl ((c.fix st).boxed bs) u:=by
 refine⟨h.1,?_⟩
 have h:=h.2
 have root:∀{id:Nat}{r:cC},au st.roots id=some (.live r)→cE id rs=true→au cl.roots id=some (.live ⟨r.t,r.md.norm,0,[],r.xs⟩):=fun h1 h2=>by rw[hr _ h2,h1];rfl
 cases c with
 |v x=>exact h
 |nl=>exact h
 |ro t xs=>exact h
 |rk t xs=>exact h
 |rp t x off=>exact h
 |pJ fn ys=>exact h
 |dead=>exact h
 |pt b off=>
  simp only[Sc.fix,Sc.boxed] at hn ⊢
  cases hm:cE b bs with
  |true=>simp only[cond_true];exact⟨h.1,hb b hm⟩
  |false=>simp only[cond_false];trivial
 |fi fn cs=>
  simp only[Sc.fix,Sc.boxed] at hn ⊢
  cases hm:cs.all fun b=>cE b bs with
  |true=>simp only[cond_true];exact⟨h.1,fun b hbm=>hb b (List.all_eq_true.1 hm b hbm)⟩
  |false=>simp only[cond_false];trivial
 |h id ver iv p=>
  simp only[Sc.fix] at hn ⊢
  split at hn<;>rename_i e
  ·rename_i r
   cases hv:Nat.beq r.ver ver&&ja r iv p with
   |false=>simp only[cond_false];trivial
   |true=>
    simp only[hv,cond_true,Sc.boxed] at hn ⊢
    have nW:=root e (hn id (by simp[Sc.names]))
    obtain⟨h1,h2⟩:=Bool.and_eq_true_iff.1 hv
    refine⟨by unfold cL;rw[nW];exact .inr ⟨rfl,Nat.le_refl _⟩,fun r' j6=> ?_⟩
    have:=j6.is nW
    subst this
    exact h.2 r ⟨.inl e,iC h1,h2⟩
  ·trivial
 |vw id ver lo hi=>
  simp only[Sc.fix] at hn ⊢
  split at hn<;>rename_i e
  ·rename_i r
   cases hv:Nat.beq r.ver ver with
   |false=>simp only[cond_false];trivial
   |true=>
    simp only[hv,cond_true,Sc.boxed] at hn ⊢
    have nW:=root e (hn id (by simp[Sc.names]))
    refine⟨by unfold cL;rw[nW];exact .inr ⟨rfl,Nat.le_refl _⟩,fun r' j6=> ?_⟩
    have:=j6.is nW
    subst this
    exact h.2 r ⟨.inl e,iC hv,by simp[ja]⟩
  ·trivial
 |pe id ver iv p i off=>
  simp only[Sc.fix] at hn ⊢
  split at hn<;>rename_i e
  ·rename_i r
   cases hv:Nat.beq r.ver ver&&ja r iv p with
   |false=>simp only[cond_false];trivial
   |true=>
    simp only[hv,cond_true,Sc.boxed] at hn ⊢
    have nW:=root e (hn id (by simp[Sc.names]))
    obtain⟨h1,h2⟩:=Bool.and_eq_true_iff.1 hv
    refine⟨by unfold cL;rw[nW];exact .inr ⟨rfl,Nat.le_refl _⟩,fun r' j6=> ?_⟩
    have:=j6.is nW
    subst this
    exact h.2 r ⟨.inl e,iC h1,h2⟩
  ·trivial
theorem Inv.clean(I:Inv w0 Mf g st a w)(keep:List Nat):Inv w0 Mf g (st.clean keep) a w:=by
 generalize uT:st.clean keep=cl
 have amF:=uT
 unfold St.clean at uT
 simp only at uT
 generalize po:(List.map (fun s=>(s.fst,Sv.map (Sc.fix st) s.snd)) (List.filter (fun s=>cE s.fst keep) st.ay))=wm at uT
 generalize AA:(List.filter (fun b=>cE b.fst (St.named wm).fst||cE b.fst (m0 (List.filter (fun b=>cE b.fst (St.named wm).fst) st.boxes)).fst) st.boxes)=nG at uT
 generalize W6:List.map (fun x=>x.fst) nG=bs at uT
 generalize uj:List.map (fun s=>(s.fst,Sv.map (Sc.boxed bs) s.snd)) wm=E5 at uT
 generalize pv:List.map (fun b=>(b.fst,({ t:=b.snd.t,cs:=List.map (fun c=>(Sc.fix st c).boxed bs) b.snd.cs }:Bx))) nG=E6 at uT
 generalize Xu:(St.named E5).snd++(m0 E6).snd=rs at uT
 have eS:cl.ay=E5:=by rw[← uT]
 have eB:cl.boxes=E6:=by rw[← uT]
 have eR:cl.roots=(st.roots.filter fun r=>cE r.1 rs).map fun r=>(r.1,r.2.ER):=by rw[← uT]
 have hS:∀n,au cl.ay n=cond (cE n keep) ((au st.ay n).map fun v=>v.map fun c=>(c.fix st).boxed bs) none:=fun n=>by
  rw[eS,←uj,oK,←po,oK,iL (fun m=>cE m keep)]
  cases cE n keep with
  |false=>rfl
  |true=>cases au st.ay n with
   |none=>rfl
   |some v=>simp only[cond_true,Option.map_some,Sv.map_map]
 have hB1:∀n x,au nG n=some x→au st.boxes n=some x:=fun n x h=>by
  rw[← AA,iL (fun m=>cE m (St.named wm).fst||cE m (m0 (List.filter (fun b=>cE b.fst (St.named wm).fst) st.boxes)).fst)] at h
  exact (bh h).2
 have hB:∀n,au cl.boxes n=(au nG n).map fun x=>⟨x.t,x.cs.map fun c=>(c.fix st).boxed bs⟩:=fun n=>by
  rw[eB,←pv]
  exact oK (fun x:Bx=>(⟨x.t,x.cs.map fun c=>(c.fix st).boxed bs⟩:Bx)) nG n
 have hR:∀n,au cl.roots n=cond (cE n rs) ((au st.roots n).map Rt.ER) none:=fun n=>by
  rw[eR,oK,iL (fun m=>cE m rs)]
  cases cE n rs<;>rfl
 have aia:∀b,cE b bs=true→(au cl.boxes b).isSome:=fun b hb=>by
  have:(au nG b).isSome:=zF (by rw[W6];exact cg.1 hb)
  rw[hB]
  cases h:au nG b with
  |none=>rw[h] at this;cases this
  |some x=>rfl
 have aib:∀id,cE id rs=true→au cl.roots id=(au st.roots id).map Rt.ER:=fun id h=>by rw[hR,h];rfl
 have cell:=fun(c:Sc)(u:Value)(h:bg w g st c u)=>E4 (cl:=cl) (bs:=bs) (rs:=rs) aia aib h
 have ez:∀id,aS cl id→aS st id:=fun id ⟨r,h,hf⟩=>by
  rw[hR] at h
  obtain⟨_,h⟩:=bh h
  cases jh:au st.roots id with
  |none=>rw[jh] at h;cases h
  |some x=>
   rw[jh] at h
   cases x with
   |live r0=>simp only[Option.map_some,Rt.ER,Option.some.injEq,Rt.live.injEq] at h;subst h;exact⟨r0,jh,by rw[← LW];exact hf⟩
   |dq r0=>cases h
   |gone v=>cases h
 have pO:∀b,bB cl b→bB st b:=fun b h=>by
  unfold bB at *
  rw[hB] at h
  cases h1:au nG b with
  |none=>rw[h1] at h;cases h
  |some x=>rw[hB1 b x h1];rfl
 refine { ay:= ?_,boxes:= ?_,roots:= ?_,apart:= ?_,kept:=I.kept,defers:=I.defers,size:=I.size,base:=⟨I.base.wl,I.base.ap,I.base.ro⟩ }
 ·intro s sv h
  have AR:(s,sv)∈E5:=by rw[← eS];exact e9 h
  rw[hS] at h
  obtain⟨_,h⟩:=bh h
  obtain⟨v,hv,rfl⟩:∃v,au st.ay s=some v∧(v.map fun c=>(c.fix st).boxed bs)=sv:=by simpa using h
  obtain⟨u,hu,um⟩:=I.ay s v hv
  refine⟨u,hu,um.E3 fun c u hc lr=>cell c u lr fun id cS=>cg.2 ?_⟩
  rw[← Xu]
  refine List.mem_append.2 (.inl (List.mem_flatten.2 ⟨_,List.mem_map.2 ⟨((c.fix st).boxed bs).names,List.mem_flatten.2 ⟨_,List.mem_map.2 ⟨_,AR,rfl⟩,?_⟩,rfl⟩,cS⟩))
  exact List.mem_map.2 ⟨_,by rw[Sv.py];exact List.mem_map.2 ⟨c,hc,rfl⟩,rfl⟩
 ·intro b x h
  have AR:(b,x)∈E6:=by rw[← eB];exact e9 h
  rw[hB] at h
  obtain⟨x0,Ji,rfl⟩:∃x0,au nG b=some x0∧(⟨x0.t,x0.cs.map fun c=>(c.fix st).boxed bs⟩:Bx)=x:=by simpa using h
  obtain⟨us,el,h1,h2⟩:=I.boxes b x0 (hB1 b x0 Ji)
  refine⟨us,el,h1,h2.E3 fun c u hc lr=>cell c u lr fun id cS=>cg.2 ?_⟩
  rw[← Xu]
  refine List.mem_append.2 (.inr (List.mem_flatten.2 ⟨_,List.mem_map.2 ⟨((c.fix st).boxed bs).names,List.mem_flatten.2 ⟨_,List.mem_map.2 ⟨_,AR,rfl⟩,?_⟩,rfl⟩,cS⟩))
  exact List.mem_map.2 ⟨_,List.mem_map.2 ⟨c,hc,rfl⟩,rfl⟩
 ·intro id r h
  rw[hR] at h
  obtain⟨_,h⟩:=bh h
  cases jh:au st.roots id with
  |none=>rw[jh] at h;cases h
  |some x=>
   rw[jh] at h
   cases x with
   |live r0=>
    simp only[Option.map_some,Rt.ER,Option.some.injEq,Rt.live.injEq] at h
    subst h
    exact (I.roots id r0 jh).norm
   |dq r0=>cases h
   |gone v=>cases h
 ·exact {
   rr:=fun id aJ k h h'=>I.apart.rr id aJ k (ez id h) (ez aJ h')
   rb:=fun id b h h'=>I.apart.rb id b (ez id h) (pO b h')
   bb:=fun b b' h h'=>I.apart.bb b b' (pO b h) (pO b' h')
   eu:=fun id k h=>I.apart.eu id k (ez id h)
   gD:=fun b h=>I.apart.gD b (pO b h)
   cp:=fun id k h=>I.apart.cp id k (ez id h)
   dL:=fun b h=>I.apart.dL b (pO b h)
   ew:=fun id k h=>I.apart.ew id k (ez id h)
   db:=I.apart.db
   bY:=I.apart.bY }
theorem Inv.note(I:Inv w0 Mf g st a w){j:Nat}{u:Value}(hu:a.tmps[j]? =some u){sv:Sv}(hs:dO w g st sv u):Inv w0 Mf g { st with ay:=bd st.ay j sv } a w:=by
 have hj:j<a.tmps.size:=by
  rcases Nat.lt_or_ge j a.tmps.size with h | h
  ·exact h
  ·simp[Array.getElem?_eq_none h] at hu
 have e:a.put (some j) u=a:=by
  cases a with
  |mk tmps defers=>
   simp only[Act.put,Act.mk.injEq,and_true]
   apply Array.ext_getElem?
   intro i
   by_cases h:j=i
   ·subst h;rw[hu];simp[hj]
   ·simp[Array.getElem?_setIfInBounds_ne h]
 have:=I.Et (dst:=some j) (s:=sv) (v:=u) (fun d hd=>by cases hd;rw[← I.size];exact hj) hs
 rw[e] at this
 exact this
theorem Inv.TB(I:Inv w0 Mf g st a w)(m:Mk)(hf:m.free st=true):
    ∃g',g'.n=g.n∧Inv w0 Mf g' { st with roots:=m.roots st.roots } a w∧(∀ c u,bg w g st c u→bg w g' { st with roots:=m.roots st.roots } c u)∧
      bg w g' { st with roots:=m.roots st.roots } m.cell (.slice none 0 0):=by
 unfold Mk.roots Mk.cell
 cases dj:m.ro with
 |true=>
  simp only[cond_true]
  refine⟨g,rfl,I,fun _ _ h=>h,rfl,?_⟩
  show gC w g.ro m.t [] (.slice none 0 0)
  obtain⟨av,h0,h1⟩:=vG w g.ro m.t
  exact⟨av,h0,h1.rd⟩
 |false=>
  simp only[cond_false]
  simp only[Mk.free,dj,Bool.false_or] at hf
  have hn:au st.roots m.id=none:=by
   cases h:au st.roots m.id with
   |none=>rfl
   |some _=>rw[h] at hf;cases hf
  obtain⟨g',I',G',hc⟩:=I.Lm (id:=m.id) (t:=m.t) (xs:=[]) (ver:=0) (by unfold dF;rw[hn];trivial) (fun ro=>by rw[hn];simp) (F:=fun _=>False) (vG w _ m.t) (fun k h=>h.elim)
  exact⟨g',G'.n,I',G'.map,hc⟩
theorem zG{o:Option Sc}(h:Jc o=true):o=some .nl:=by
 unfold Jc at h
 split at h
 ·rfl
 ·cases h
theorem cJ.LX{w:World}{g g':Gh}{st aF:St}{cs:List Sc}{us:Array Value}{j:Nat}{c:Sc}(h:cJ w g st cs us)(hm:∀c u,bg w g st c u→bg w g' aF c u)(hj:cs[j]? =some .nl)(hc:bg w g' aF c (.slice none 0 0)):
    cJ w g' aF (cs.set j c) us:=by
 refine⟨by simp[h.1],fun i x hx=> ?_⟩
 by_cases e:j=i
 ·subst e
  have bU:j<cs.length:=by
   rcases Nat.lt_or_ge j cs.length with h' | h'
   ·exact h'
   ·simp[List.getElem?_eq_none h'] at hj
  simp only[List.getElem?_set_self bU,Option.some.injEq] at hx
  subst hx
  obtain⟨z,hz,hr⟩:=h.2 j .nl hj
  have hz':z = .slice none 0 0:=hr.2
  subst hz'
  exact⟨_,hz,hc⟩
 ·rw[List.getElem?_set_ne e] at hx
  obtain⟨z,hz,hr⟩:=h.2 i x hx
  exact⟨z,hz,hm x z hr⟩
theorem Inv.CG(I:Inv w0 Mf g st a w)(m:Mk):∃g',g'.n=g.n∧Inv w0 Mf g' (st.CG m) a w:=by
 unfold St.CG
 cases hf:m.free st with
 |false=>exact⟨g,rfl,I⟩
 |true=>
  simp only[cond_true]
  obtain⟨g',hn,I',hm,hc⟩:=I.TB m hf
  cases hb:m.box with
  |true=>
   simp only[cond_true]
   split
   ·rename_i x hx
    cases Xe:Jc x.cs[m.j]? with
    |false=>exact⟨g,rfl,I⟩
    |true=>
     simp only[cond_true]
     have cQ:bB { st with roots:=m.roots st.roots } m.s:=by unfold bB;simp only[hx];rfl
     obtain⟨us,el,h1,h2⟩:=I.boxes m.s x hx
     obtain⟨us',pM,uU,KF⟩:=I'.boxes m.s x hx
     exact⟨g',hn,I'.qY cQ ⟨Nat.le_refl _,fun _ _ _=>rfl⟩ I'.kept uU (KF.LX (fun _ _ h=>h) (zG Xe) hc)⟩
   ·exact⟨g,rfl,I⟩
  |false=>
   simp only[cond_false]
   split
   ·rename_i hx
    obtain⟨u,hu,hr⟩:=I.ay m.s _ hx
    have yu:u = .slice none 0 0:=hr.2
    subst yu
    exact⟨g',hn,I'.note hu (sv:= .c (.one m.cell)) hc⟩
   ·rename_i cs hx
    cases Xe:Jc cs[m.j]? with
    |false=>exact⟨g,rfl,I⟩
    |true=>
     simp only[cond_true]
     obtain⟨u,hu,us,e,hr⟩:=I.ay m.s _ hx
     exact⟨g',hn,I'.note hu (sv:= .c (.agg (cs.set m.j m.cell))) ⟨us,e,hr.LX hm (zG Xe) hc⟩⟩
   ·exact⟨g,rfl,I⟩
theorem Inv.sW:∀(ms:List Mk){g:Gh}{st:St},Inv w0 Mf g st a w→∃g',g'.n=g.n∧Inv w0 Mf g' (st.sW ms) a w
 | [],g,st,I=>⟨g,rfl,I⟩
 |m::ms,g,st,I=>by
  obtain⟨g1,h1,I1⟩:=I.CG m
  obtain⟨g2,h2,I2⟩:=Inv.sW ms I1
  exact⟨g2,h2.trans h1,I2⟩
end Go.Gm
namespace Go.Gm
open Go
variable {P : Program} {E : Env} {w0 w : World} {Mf : Nat → Prop} {g : Gh} {st : St} {a : Act}
theorem Inv.Lu(I:Inv w0 Mf g st a w)(id:Nat):∃g',g'.n=g.n∧Inv w0 Mf g' (st.Lu id) a w:=by
 unfold St.Lu
 split
 ·rename_i r hr
  cases IP:r.md.cV
  ·obtain⟨g',h1,_,_,_,_,_,h2,_⟩:=I.zr hr IP
   exact⟨g',h1,h2⟩
  ·exact⟨g,rfl,I⟩
 ·exact⟨g,rfl,I⟩
theorem Inv.pt1(I:Inv w0 Mf g st a w)(id:Nat):∃g',g'.n=g.n∧Inv w0 Mf g' (st.pt1 id) a w:=by
 unfold St.pt1
 split
 ·rename_i t ver log xs hr
  have hT:a8 w (g.rf id) t xs (g.rv id):=I.roots id _ hr
  obtain⟨I1,_⟩:=I.AG hr rfl (md:= .part (.cur 0 0)) rfl (F:=g.rf id) (fun k hk=>hk) (by unfold aV;simpa using hT.part (.cur 0 0))
  exact⟨g.uo fun i k=>if i=id then g.rf id k else g.rf i k,rfl,I1⟩
 ·exact⟨g,rfl,I⟩
theorem Inv.sh1(I:Inv w0 Mf g st a w)(id:Nat):∃g',g'.n=g.n∧Inv w0 Mf g' (st.sh1 id) a w:=by
 unfold St.sh1
 split
 ·rename_i t ver log hr
  have cQ:aS st id:=⟨_,hr,rfl⟩
  have fX:∀q,(∀ D∈([]:List Nat),q.length≤D)→g.rv id q=g.rv id q∧∀s,aQ t ([]:List (El t)) q=some s→∃s',aQ t ([]:List (El t)) q=some s'∧s'.t=s.t∧s'.xs.length=s.xs.length:=
   fun q _=>⟨rfl,fun s hs=>⟨s,hs,rfl,rfl⟩⟩
  have hT:a8 w (g.rf id) t ([]:List (El t)) (g.rv id):=I.roots id _ hr
  refine⟨(({ g with ro:=g.ro }:Gh).b7 id (g.rv id) (g.rf id)),rfl,?_⟩
  refine I.kA (ro:=⟨t,.deep,ver,log,[]⟩) (ro':=⟨t,.n6,ver,log,[]⟩) (G:=g.ro) (.inl hr) (bD.refl w) I.kept (fun k h=>h.elim) (fun k h=>h) (fun aJ k h1 _ h3=>I.apart.eu aJ k h1 h3) I.apart.gD I.apart.db I.apart.bY rfl rfl (l:=[]) (by simp) fX ?_ (fun k hk=> ?_)
  ·unfold aV
   simp only[Gh.b7,if_true]
   refine⟨hT.1 [] ⟨t,[]⟩ rfl,fun p s hp hs=> ?_⟩
   cases p with
   |nil=>exact (hp rfl).elim
   |cons ij p=>simp[aQ] at hs
  ·exact⟨fun aJ h1 h2 h3=>h2 (I.apart.rr aJ id k h1 cQ h3 hk),I.apart.eu id k cQ hk,fun b hb e=>I.apart.rb id b cQ hb (e▸hk),I.apart.cp id k cQ hk,I.apart.ew id k cQ hk⟩
 ·exact⟨g,rfl,I⟩
theorem Inv.Lv(I:Inv w0 Mf g st a w)(id:Nat):∃g',g'.n=g.n∧Inv w0 Mf g' (st.Lv id) a w:=by
 unfold St.Lv
 cases Nat.ble 1000000000 id
 ·exact I.Lu id
 ·cases Nat.ble 2000000000 id
  ·exact I.sh1 _
  ·exact I.pt1 _
theorem Inv.frozen:∀(is:List Nat){g:Gh}{st:St},Inv w0 Mf g st a w→∃g',g'.n=g.n∧Inv w0 Mf g' (st.frozen is) a w
 | [],g,st,I=>⟨g,rfl,I⟩
 |i::is,g,st,I=>by
  obtain⟨g1,h1,I1⟩:=I.Lv i
  obtain⟨g2,h2,I2⟩:=Inv.frozen is I1
  exact⟨g2,h2.trans h1,I2⟩
theorem pz{α β:Type}(f:α→β):∀(l:List (Nat×α))(n:Nat),au (l.map fun x=>(x.1,f x.2)) n=(au l n).map f
  | [],_=>rfl
  | (k,v)::r,n=>by
    simp only[List.map_cons,au]
    cases Nat.beq n k
    · simp only[cond_false];exact pz f r n
    · rfl
theorem zH{α:Type}(q:Nat):∀(l:List (Nat×α))(n:Nat),au (l.filter fun x=> !(Nat.beq x.1 q)) n=if n=q then none else au l n
  | [],n=>by simp[au]
  | (k,v)::r,n=>by
    have ih:=zH q r n
    rw[List.filter_cons]
    cases hk:Nat.beq k q with
    |true=>
      have:k=q:=iC hk
      subst this
      simp only[Bool.not_true,Bool.false_eq_true,if_false,ih,au]
      by_cases e:n=k
      · simp[e]
      · have:Nat.beq n k=false:=by cases h:Nat.beq n k with | true=>exact (e (iC h)).elim | false=>rfl
        simp[e,this]
    |false=>
      simp only[Bool.not_false,if_true,au,ih]
      cases hn:Nat.beq n k with
      |true=>
        have:n=k:=iC hn
        subst this
        have dn:n≠q:=fun e=>by subst e;rw[Nat.beq_refl] at hk;cases hk
        simp[dn]
      |false=>rfl
theorem LY(x y n:Nat):rn x y n=if n=x then y else n:=by
 unfold rn
 by_cases h:n=x
 ·subst h;rw[Nat.beq_refl];simp
 ·have:Nat.beq n x=false:=by cases hb:Nat.beq n x with | true=>exact (h (iC hb)).elim | false=>rfl
  rw[this];simp[h]
def Gh.AT(g:Gh)(x y:Nat):Gh:={ g with rv:=fun n=>if n=y then g.rv x else g.rv n,rf:=fun n=>if n=y then g.rf x else g.rf n }
theorem dO.E7{g':Gh}{aF:St}{f:Sc→Sc}(h:∀c u,bg w g st c u→bg w g' aF (f c) u){sv:Sv}{u:Value}(hs:dO w g st sv u):dO w g' aF (sv.map f) u:=by
 have hc:∀{cs:List Sc}{us:Array Value},cJ w g st cs us→cJ w g' aF (cs.map f) us:=fun fq=>⟨by rw[fq.1,List.length_map],fun j c hj=>by
  rw[List.getElem?_map] at hj
  obtain⟨c0,h0,rfl⟩:=Option.map_eq_some_iff.1 hj
  obtain⟨z,h1,h2⟩:=fq.2 j c0 h0
  exact⟨z,h1,h _ _ h2⟩⟩
 have hm:∀{x:Cm}{u:Value},jc w g st x u→jc w g' aF (x.map f) u:=by
  intro x u hx
  cases x with
  |one c=>exact h _ _ hx
  |agg cs=>obtain⟨us,e,h1⟩:=hx;exact⟨us,e,hc h1⟩
 cases sv with
 |c x=>exact hm hs
 |yZ vs=>
  obtain⟨us,e,h1,h2⟩:=hs
  refine⟨us,e,by rw[h1,List.length_map],fun j x hj=> ?_⟩
  rw[List.getElem?_map] at hj
  obtain⟨x0,h0,rfl⟩:=Option.map_eq_some_iff.1 hj
  obtain⟨z,h3,h4⟩:=h2 j x0 h0
  exact⟨z,h3,hm h4⟩
theorem cJ.E7{g':Gh}{aF:St}{f:Sc→Sc}(h:∀c u,bg w g st c u→bg w g' aF (f c) u){cs:List Sc}{us:Array Value}(fq:cJ w g st cs us):cJ w g' aF (cs.map f) us:=
 ⟨by rw[fq.1,List.length_map],fun j c hj=>by
    rw[List.getElem?_map] at hj
    obtain⟨c0,h0,rfl⟩:=Option.map_eq_some_iff.1 hj
    obtain⟨z,h1,h2⟩:=fq.2 j c0 h0
    exact⟨z,h1,h _ _ h2⟩⟩
theorem Inv.Lw(I:Inv w0 Mf g st a w)(x y:Nat):∃g',g'.n=g.n∧Inv w0 Mf g' (st.Lw x y) a w:=by
 unfold St.Lw
 split
 case h_2=>exact⟨g,rfl,I⟩
 rename_i r hx
 split
 case h_2=>exact⟨g,rfl,I⟩
 rename_i hy
 have hxy:x≠y:=fun e=>by subst e;rw[hx] at hy;cases hy
 generalize Y7:({ ay:=st.ay.map fun s=>(s.1,s.2.map (Sc.AT x y)),boxes:=st.boxes.map fun b=>(b.1,b.2.map (Sc.AT x y)),roots:=bd (st.roots.filter fun b=> !(Nat.beq b.1 x)) y (.live r) }:St)=aF
 have AQ:aF.ay=st.ay.map fun s=>(s.1,s.2.map (Sc.AT x y)):=by rw[← Y7]
 have LZ:aF.boxes=st.boxes.map fun b=>(b.1,b.2.map (Sc.AT x y)):=by rw[← Y7]
 have tc:∀n,au aF.roots n=if n=y then some (.live r) else if n=x then none else au st.roots n:=by
  intro n
  rw[← Y7]
  simp only[aH,zH]
 have hg:∀n,n≠y→(g.AT x y).rv n=g.rv n∧(g.AT x y).rf n=g.rf n:=fun n hn=>by simp[Gh.AT,hn]
 have hgy:(g.AT x y).rv y=g.rv x∧(g.AT x y).rf y=g.rf x:=by simp[Gh.AT]
 have pO:∀b,(au aF.boxes b).isSome=(au st.boxes b).isSome:=fun b=>by rw[LZ,pz];cases au st.boxes b<;>rfl
 have gE:∀id ver iv,cL st id ver iv→id≠y:=fun id ver iv h e=>by subst e;unfold cL at h;rw[hy] at h;exact h
 have L0:∀id ver iv,cL st id ver iv→cL aF (rn x y id) ver iv:=by
  intro id ver iv h
  have dn:=gE id ver iv h
  rw[LY]
  unfold cL at h ⊢
  by_cases e:id=x
  ·subst e
   rw[hx] at h
   rw[if_pos rfl,tc,if_pos rfl]
   exact h
  ·rw[if_neg e,tc,if_neg dn,if_neg e];exact h
 have yG:∀id ver iv p r',id≠y→Vx aF (rn x y id) ver iv p r'→Vx st id ver iv p r':=by
  intro id ver iv p r' dn ⟨h1,h2,h3⟩
  refine⟨?_,h2,h3⟩
  rw[LY] at h1
  by_cases e:id=x
  ·subst e
   rw[if_pos rfl,tc,if_pos rfl] at h1
   rw[hx];exact h1
  ·rw[if_neg e,tc,if_neg dn,if_neg e] at h1;exact h1
 have Xc:∀id,id≠y→(g.AT x y).rv (rn x y id)=g.rv id:=by
  intro id dn
  rw[LY]
  by_cases e:id=x
  ·subst e;rw[if_pos rfl];exact hgy.1
  ·rw[if_neg e];exact (hg id dn).1
 have G4:∀c u,bg w g st c u→bg w (g.AT x y) aF (Sc.AT x y c) u:=by
  intro c u ⟨h1,h2⟩
  refine⟨h1,?_⟩
  cases c with
  |h id ver iv p=>
   have dn:=gE _ _ _ h2.1
   exact⟨L0 _ _ _ h2.1,fun r' j6=>by rw[Xc id dn];exact h2.2 r' (yG _ _ _ _ _ dn j6)⟩
  |vw id ver lo hi=>
   have dn:=gE _ _ _ h2.1
   exact⟨L0 _ _ _ h2.1,fun r' j6=>by rw[Xc id dn];exact h2.2 r' (yG _ _ _ _ _ dn j6)⟩
  |pe id ver iv p i off=>
   have dn:=gE _ _ _ h2.1
   exact⟨L0 _ _ _ h2.1,fun r' j6=>by rw[Xc id dn];exact h2.2 r' (yG _ _ _ _ _ dn j6)⟩
  |pt b off=>exact⟨h2.1,by rw[pO];exact h2.2⟩
  |fi f bs=>exact⟨h2.1,fun b hb=>by rw[pO];exact h2.2 b hb⟩
  |_=>exact h2
 have ez:∀id,aS aF id→(id=y∧aS st x)∨(id≠y∧id≠x∧aS st id):=by
  intro id ⟨r',h1,h2⟩
  rw[tc] at h1
  by_cases e:id=y
  ·rw[if_pos e] at h1;cases h1
   exact .inl ⟨e,r,hx,h2⟩
  ·rw[if_neg e] at h1
   by_cases e2:id=x
   ·rw[if_pos e2] at h1;cases h1
   ·rw[if_neg e2] at h1;exact .inr ⟨e,e2,r',h1,h2⟩
 have TC:∀id,aS aF id→∃id0,aS st id0∧(g.AT x y).rf id=g.rf id0∧∀aJ,aS aF aJ→(g.AT x y).rf aJ=g.rf id0→True:=fun id h=>by
  rcases ez id h with ⟨rfl,h1⟩ | ⟨h1,_,h2⟩
  ·exact⟨x,h1,hgy.2,fun _ _ _=>trivial⟩
  ·exact⟨id,h2,(hg id h1).2,fun _ _ _=>trivial⟩
 have qZ:∀b,bB aF b→bB st b:=fun b h=>by unfold bB at h ⊢;rwa [pO] at h
 refine⟨g.AT x y,rfl,?_⟩
 exact {
  ay:=fun s sv h=>by
   rw[AQ,pz] at h
   obtain⟨sv0,h0,rfl⟩:=Option.map_eq_some_iff.1 h
   obtain⟨u,hu,hr⟩:=I.ay s sv0 h0
   exact⟨u,hu,hr.E7 G4⟩
  boxes:=fun b z h=>by
   rw[LZ,pz] at h
   obtain⟨z0,h0,rfl⟩:=Option.map_eq_some_iff.1 h
   obtain⟨us,el,h1,h2⟩:=I.boxes b z0 h0
   exact⟨us,el,h1,h2.E7 G4⟩
  roots:=fun id r' h=>by
   rw[tc] at h
   by_cases e:id=y
   ·rw[if_pos e] at h;cases h
    subst e
    have:=I.roots x r hx
    unfold aV at this ⊢
    rw[hgy.1,hgy.2];exact this
   ·rw[if_neg e] at h
    by_cases e2:id=x
    ·rw[if_pos e2] at h;cases h
    ·rw[if_neg e2] at h
     have:=I.roots id r' h
     unfold aV at this ⊢
     rw[(hg id e).1,(hg id e).2];exact this
  apart:={
   rr:=fun id aJ k h h' h1 h2=>by
    rcases ez id h with ⟨rfl,h3⟩ | ⟨h3,h4,h5⟩<;>rcases ez aJ h' with ⟨rfl,h6⟩ | ⟨h6,h7,h8⟩
    ·rfl
    ·rw[hgy.2] at h1;rw[(hg aJ h6).2] at h2
     exact (h7 (I.apart.rr aJ x k h8 h3 h2 h1)).elim
    ·rw[hgy.2] at h2;rw[(hg id h3).2] at h1
     exact (h4 (I.apart.rr id x k h5 h6 h1 h2)).elim
    ·rw[(hg id h3).2] at h1;rw[(hg aJ h6).2] at h2
     exact I.apart.rr id aJ k h5 h8 h1 h2
   rb:=fun id b h h'=>by obtain⟨i0,h1,h2,_⟩:=TC id h;rw[h2];exact I.apart.rb i0 b h1 (qZ b h')
   bb:=fun b b' h h'=>I.apart.bb b b' (qZ b h) (qZ b' h')
   eu:=fun id k h hk=>by obtain⟨i0,h1,h2,_⟩:=TC id h;rw[h2] at hk;exact I.apart.eu i0 k h1 hk
   gD:=fun b h=>I.apart.gD b (qZ b h)
   cp:=fun id k h hk=>by obtain⟨i0,h1,h2,_⟩:=TC id h;rw[h2] at hk;exact I.apart.cp i0 k h1 hk
   dL:=fun b h=>I.apart.dL b (qZ b h)
   ew:=fun id k h hk=>by obtain⟨i0,h1,h2,_⟩:=TC id h;rw[h2] at hk;exact I.apart.ew i0 k h1 hk
   db:=I.apart.db
   bY:=I.apart.bY }
  kept:=I.kept
  defers:=I.defers
  size:=I.size
  base:=⟨I.base.wl,I.base.ap,I.base.ro⟩ }
theorem Inv.renamed:∀(xs:List (Nat×Nat)){g:Gh}{st:St},Inv w0 Mf g st a w→∃g',g'.n=g.n∧Inv w0 Mf g' (st.renamed xs) a w
 | [],g,st,I=>⟨g,rfl,I⟩
 |x::xs,g,st,I=>by
  obtain⟨g1,h1,I1⟩:=I.Lw x.1 x.2
  obtain⟨g2,h2,I2⟩:=Inv.renamed xs I1
  exact⟨g2,h2.trans h1,I2⟩
theorem Inv.tidy(k:Kp)(I:Inv w0 Mf g st a w):∃g',g'.n=g.n∧Inv w0 Mf g' (k.tidy st) a w:=by
 unfold Kp.tidy
 obtain⟨g1,h1,I1⟩:=Inv.sW k.lists (I.clean k.ay)
 obtain⟨g2,h2,I2⟩:=Inv.frozen k.adp I1
 obtain⟨g3,h3,I3⟩:=Inv.renamed k.adq I2
 exact⟨g3,h3.trans (h2.trans h1),I3⟩
end Go.Gm
namespace Go.Gm
open Go
variable {R : Type} {P : Program} {E : Env} {w0 : World} {Mf : Nat → Prop}
def zI(N:Nat)(ps:List Nat)(l:List Oper):Bool:=l.all fun o=>match o.dst with | some d=>Nat.blt d N&& !cE d ps | none=>true
def codeOk(N:Nat)(ps:List Nat):Code→Bool
 | .region _ ops _=>zI N ps ops.toList
 | .seq a b=>codeOk N ps a&&codeOk N ps b
 | .cond _ x y=>codeOk N ps x&&codeOk N ps y
 | .block _ c=>codeOk N ps c
 | .loop c=>codeOk N ps c
 |_=>true
def Ex.out:Ex→Exit | .normal=> .normal | .exit id=> .exit id | .ret=> .ret
theorem least{p:Nat→Prop}:∀{m:Nat},p m→∃m,p m∧∀k,p k→m≤k:=by
 intro m
 induction m using Nat.strongRecOn with
 |_ m ih=>
  intro h
  by_cases hk:∃k,k<m∧p k
  ·obtain⟨k,bU,hp⟩:=hk;exact ih k bU hp
  ·exact⟨m,h,fun k hp=>Nat.le_of_not_lt fun bU=>hk ⟨k,bU,hp⟩⟩
open Classical in
noncomputable def leastOf(p:Nat→Prop):Nat:=if h:∃m,p m then Classical.choose (least h.choose_spec) else 0
theorem leastOf_spec{p:Nat→Prop}{m:Nat}(h:p m):p (leastOf p)∧leastOf p≤m:=by
 have h':∃m,p m:=⟨m,h⟩
 unfold leastOf
 rw[dif_pos h']
 have:=Classical.choose_spec (least h'.choose_spec)
 exact⟨this.1,this.2 m h⟩
def L2(ps:List Nat)(us:Nat→Option Value)(tmps:Array Value):Prop:=∀j∈ps,tmps[j]? =us j
theorem CV{N:Nat}{ps:List Nat}{us:Nat→Option Value}{l:List Oper}(h:zI N ps l=true):(∀ o∈l,ry (L2 ps us) o)∧∀o∈l,∀d,o.dst=some d→d<N:=by
 simp only[zI,List.all_eq_true] at h
 refine⟨fun o ho a v hJ j hj=> ?_,fun o ho d hd=> ?_⟩
 ·have:=h o ho
  cases hd:o.dst with
  |none=>simp only[Act.put];exact hJ j hj
  |some d=>
   rw[hd] at this
   simp only[Bool.and_eq_true,Bool.not_eq_true'] at this
   have dn:d≠j:=fun e=>by subst e;rw[cg.2 hj] at this;cases this.2
   simp only[Act.put,Array.getElem?_setIfInBounds_ne dn]
   exact hJ j hj
 ·have:=h o ho
  rw[hd] at this
  simp only[Bool.and_eq_true] at this
  have:=this.1
  rw[Nat.blt_eq] at this
  exact this
theorem L3(hE:E.Ok P)(hN:E.mA){keep:Nat→Kp}{rounds:Nat}{F:Fx}{ps:List Nat}{us:Nat→Option Value}:
    ∀(_:yy P F.wl)(c:Code){R:Type}{k:Kx R}{r:R}{g:Gh}{st:St}{a:Act}{w:World}{Q:Exit→Act→World→Prop},codeOk F.sz ps c=true→ev E keep rounds c st k=some r→g.n=F→Inv w0 Mf g st a w→L2 ps us a.tmps→
 (∀ e g' aF a' w',k e aF=some r→g'.n=F→Inv w0 Mf g' aF a' w'→L2 ps us a'.tmps→Q e.out a' w')→c.wp P Q a w:=by
 intro hW c
 induction c with
 |skip=>
  intro R k r g st a w Q _ h hg I hJ hK
  exact wp_skip (hK .normal g st a w h hg I hJ)
 |region id ops draw=>
  intro R k r g st a w Q hc h hg I hJ hK
  simp only[codeOk] at hc
  obtain⟨h1,h2⟩:=CV (us:=us) hc
  exact A4 hE hN (by rw[hg];exact hW) h1 hJ I (fun o ho d hd=>by rw[hg];exact h2 o ho d hd) h fun g' aF a' w' hk pY I' u6=>by
   obtain⟨g2,h2,I2⟩:=I'.tidy (keep id)
   exact hK .normal g2 _ a' w' hk (h2.trans (pY.trans hg)) I2 u6
 |seq x y ihx ihy=>
  intro R k r g st a w Q hc h hg I hJ hK
  simp only[codeOk,Bool.and_eq_true] at hc
  refine wp_seq (ihx hc.1 h hg I hJ fun e g' aF a' w' hk pY I' u6=> ?_)
  cases e with
  |normal=>exact ihy hc.2 hk pY I' u6 hK
  |exit id=>exact hK (.exit id) g' aF a' w' hk pY I' u6
  |ret=>exact hK .ret g' aF a' w' hk pY I' u6
 |cond x t e iht ihe=>
  intro R k r g st a w Q hc h hg I hJ hK
  simp only[codeOk,Bool.and_eq_true] at hc
  simp only[ev] at h
  obtain⟨b,h,hb⟩:=I.getBool h
  refine wp_cond hb ?_
  cases b with
  |true=>exact iht hc.1 h hg I hJ hK
  |false=>exact ihe hc.2 h hg I hJ hK
 |block id c ih=>
  intro R k r g st a w Q hc h hg I hJ hK
  simp only[codeOk] at hc
  refine wp_block (ih hc h hg I hJ fun e g' aF a' w' hk pY I' u6=> ?_)
  cases e with
  |normal=>exact hK .normal g' aF a' w' hk pY I' u6
  |ret=>exact hK .ret g' aF a' w' hk pY I' u6
  |exit aJ=>
   simp only at hk
   show if aJ=id then Q .normal a' w' else Q (.exit aJ) a' w'
   cases hb:Nat.beq aJ id with
   |true=>
    rw[hb] at hk
    rw[if_pos (iC hb)]
    exact hK .normal g' aF a' w' hk pY I' u6
   |false=>
    rw[hb] at hk
    have dn:aJ≠id:=fun e=>by subst e;simp at hb
    rw[if_neg dn]
    exact hK (.exit aJ) g' aF a' w' hk pY I' u6
 |loop c ih=>
  intro R k r g st a w Q hc h hg I hJ hK
  simp only[codeOk] at hc
  simp only[ev] at h
  let p:Act→World→Nat→Prop:=fun a w m=>∃g st,iter (fun st k=>ev E keep rounds c st k) m st k=some r∧g.n=F∧Inv w0 Mf g st a w∧L2 ps us a.tmps
  refine wp_loop (fun a w=>∃m,p a w m) (fun a w=>leastOf (p a w)) ⟨rounds,g,st,h,hg,I,hJ⟩ fun a w ⟨m,hm⟩=> ?_
  obtain⟨⟨g,st,h,hg,I,hJ⟩,_⟩:=leastOf_spec (p:=p a w) hm
  generalize KL:leastOf (p a w)=mm at h
  cases mm with
  |zero=>simp only[iter] at h;cases h
  |succ mm=>
   simp only[iter] at h
   refine ih hc h hg I hJ fun e g' aF a' w' hk pY I' u6=> ?_
   cases e with
   |normal=>
    have hp:p a' w' mm:=⟨g',aF,hk,pY,I',u6⟩
    exact⟨⟨mm,hp⟩,Nat.lt_of_le_of_lt (leastOf_spec hp).2 (by show mm<_;omega)⟩
   |exit id=>exact hK (.exit id) g' aF a' w' hk pY I' u6
   |ret=>exact hK .ret g' aF a' w' hk pY I' u6
 |exit id=>
  intro R k r g st a w Q _ h hg I hJ hK
  exact wp_exit (hK (.exit id) g st a w h hg I hJ)
 |ret=>
  intro R k r g st a w Q _ h hg I hJ hK
  exact wp_ret (hK .ret g st a w h hg I hJ)
 |_=>intro R k r g st a w Q _ h;simp only[ev] at h;cases h
end Go.Gm
namespace Go.Gm
open Go
section ev
variable {R : Type}
def oL(j:Nat)(m:Am)(d:Dt)(st:St)(k:St→Option R):Option R:=
  match m,d with
 | .ro,.d t x=>eH false st j (64*j) [false] [.d t x] fun cs st _=>match cs with | [c]=>k { st with ay:=bd st.ay j (.c c) } | _=>none
 | .oh,.d t x=>eH true st j (64*j) [false] [.d t x] fun cs st _=>match cs with | [c]=>k { st with ay:=bd st.ay j (.c c) } | _=>none
 | .mut,.d (.sl t) x=>eH true st j (64*j) [false] [.d (.sl t) x] fun cs st _=>match cs with | [c]=>k { st with ay:=bd st.ay j (.c c) } | _=>none
 | .bG,.d t x=>eH true st j (64*j) [true] [.d t x] fun cs st _=>match cs with | [c]=>k { st with ay:=bd st.ay j (.c c) } | _=>none
 | .D',.d t x=>k { st with ay:=bd st.ay j (.c (.one (.rp t x 0))) }
 | .kp,.d t x=>(Cf t (ID (enc t x))).bind fun c=>k { st with ay:=bd st.ay j (.c c) }
 | .fn,.fi f ys=>k { st with ay:=bd st.ay j (.c (.one (.pJ f ys))) }
 |_,_=>none
def entry:Nat→List Am→List Dt→St→(St→Option R)→Option R
 |_,[],[],st,k=>k st
 |j,m::ms,d::ds,st,k=>oL j m d st fun st=>entry (j+1) ms ds st k
 |_,_,_,_,_=>none
end ev
variable {R : Type} {P : Program} {E : Env} {w0 w : World} {Mf : Nat → Prop} {g : Gh} {st : St} {a : Act}
structure L4 (g:Gh) (st:St) (g':Gh) (aF:St) (F:Nat→Prop):Prop where
 n:g'.n=g.n
 ro:g'.ro=g.ro
 own:∀id,aS aF id→(aS st id∧g'.rf id=g.rf id)∨∀k,g'.rf id k→F k
 box:∀b,bB aF b→(bB st b∧g'.bx b=g.bx b)∨F (g'.bx b)
theorem L4.free{g':Gh}{aF:St}{F:Nat→Prop}(h:L4 g st g' aF F){k:Nat}(hf:fY w0 Mf g st k)(hk : ¬F k):fY w0 Mf g' aF k:={
 r:=fun id hi hr=>by
  rcases h.own id hi with ⟨h1,h2⟩ | h1
  ·rw[h2] at hr;exact hf.r id h1 hr
  ·exact hk (h1 k hr)
 ro:=by rw[h.ro];exact hf.ro
 b:=fun b hb e=>by
  rcases h.box b hb with ⟨h1,h2⟩ | h1
  ·rw[h2] at e;exact hf.b b h1 e
  ·rw[e] at h1;exact hk h1
 ib:=hf.ib }
theorem Inv.Hq(I:Inv w0 Mf g st a w){d id:Nat}{t:Ty}{x:El t}{u:Value}{F:Nat→Prop}(hv:je w F t x u)(hf:∀k,F k→fY w0 Mf g st k∧k<w.heap.size){k:List Cm→St→Dl→Option R}{r:R}
 (h:eH true st d id [false] [.d t x] k=some r):∃c g' aF δ,k [c] aF δ=some r∧Inv w0 Mf g' aF a w∧L4 g st g' aF F∧jc w g' aF c u:=by
 obtain⟨vs,eU,e8⟩:=hv
 obtain⟨Fs,hO,Tl,eC⟩:=e8.list
 simp only[Gm.eH] at h
 obtain⟨ss,m,g1,bz,u1,h,I1,G1,hc⟩:=Inv.vO I hO (fun y hy=>iK hy) Tl (fun F' hF n hn=>hf n (eC F' hF n hn)) h
 obtain⟨c,AB,h⟩:=aT h
 obtain⟨u',eL,AE⟩:=Form.of AB (mT.arr hc)
 have:=eU.uniq eL
 subst this
 refine⟨c,g1,bz,_,h,I1,⟨G1.n,G1.ro,fun id hi=> ?_,fun b hb=> ?_⟩,AE⟩
 ·exact (G1.own id hi).imp (fun h=>h) fun h k hk=>let ⟨F',hF,tF⟩:=h k hk;eC F' hF k tF
 ·refine .inl ⟨?_,by rw[G1.bx]⟩
  rw[G1.eq] at hb;exact hb
theorem Inv.TD(I:Inv w0 Mf g st a w){d id:Nat}{t:Ty}{x:El t}{u:Value}{F:Nat→Prop}(hv:vn g.n.wl w F t x u)(hf:∀k,F k→fY w0 Mf g st k∧k<w.heap.size){k:List Cm→St→Dl→Option R}{r:R}
 (h:eH true st d id [true] [.d t x] k=some r):∃c g' aF δ,k [c] aF δ=some r∧Inv w0 Mf g' aF a w∧L4 g st g' aF F∧jc w g' aF c u:=by
 obtain⟨b,vs,el,rfl,S8,hb,e8⟩:=hv
 simp only[Gm.eH] at h
 split at h
 case h_2=>cases h
 rename_i CA
 obtain⟨ss,m,g1,bz,u1,h,I1,G1,hc⟩:=Inv.vl I e8 (fun y hy=>iK hy) (fun n hn=>hf n hn.1) h
 have AP:au bz.boxes d=none:=by rw[G1.eq];exact CA
 obtain⟨GQ,_⟩:=hf b S8
 have I2:=I1.EA (d:=d) (nb:=b) (t:=t) AP hb (mT.arr hc) (fun aJ hi h5=>by
   rcases G1.own aJ hi with ⟨h6,h7⟩ | h6
   ·rw[h7] at h5;exact GQ.r aJ h6 h5
   ·exact (h6 b h5).2 rfl) (by rw[G1.ro];exact GQ.ro) (fun b' fI=>by rw[G1.bx];rw[G1.eq] at fI;exact GQ.b b' fI) GQ.ib
 refine⟨_,_,_,_,h,I2,⟨G1.n,G1.ro,fun id hi=> ?_,fun b' fI=> ?_⟩,?_⟩
 ·exact (G1.own id hi).imp (fun h=>h) fun h k hk=>(h k hk).1
 ·by_cases e:b'=d
  ·subst e
   refine .inr ?_
   simp only[Gh.dM,if_true];exact S8
  ·refine .inl ⟨?_,?_⟩
   ·simp only[bB,b6 _ _ e,G1.eq] at fI;exact fI
   ·simp only[Gh.dM,e,if_false];rw[G1.bx]
 ·exact⟨rfl,by simp[Gh.dM],by simp[bo]⟩
inductive oM:List Am→List (Nat→Prop)→Nat→Prop where
 | here {m ms F Fs k} (hm:m.reads=false) (h:F k):oM (m::ms) (F::Fs) k
 | there {m ms F Fs k} (h:oM ms Fs k):oM (m::ms) (F::Fs) k
theorem oM.any{ms:List Am}{Fs:List (Nat→Prop)}{k:Nat}(h:oM ms Fs k):∃F∈Fs,F k:=by
 induction h with
 |here _ h=>exact⟨_,by simp,h⟩
 |there _ ih=>obtain⟨F,hF,h⟩:=ih;exact⟨F,by simp[hF],h⟩
theorem oM.none{ms:List Am}(h:ms.all Am.reads=true){Fs:List (Nat→Prop)}{k:Nat}: ¬oM ms Fs k:=by
 intro hg
 induction hg with
 |here hm _=>simp only[List.all_cons,Bool.and_eq_true] at h;rw[hm] at h;cases h.1
 |there _ ih=>simp only[List.all_cons,Bool.and_eq_true] at h;exact ih h.2
theorem oN{ROa:Nat→Prop}:∀{ms:List Am}{ds:List Dt}{us:List Value}{Fs:List (Nat→Prop)}{j:Nat}{g:Gh}{st:St}{k:St→Option R}{r:R},Inv w0 Mf g st a w→(∀(i:Nat) u,us[i]? =some u→a.tmps[j+i]? =some u)→
    cP g.n.wl w ROa ms ds us Fs→bS Fs→(∀ n,oM ms Fs n→fY w0 Mf g st n∧n<w.heap.size)→g.ro=ROa→entry j ms ds st k=some r→∃g' aF,k aF=some r∧g'.n=g.n∧Inv w0 Mf g' aF a w
 | [],ds,us,Fs,j,g,st,k,r,I,tG,hA,hp,hf,dj,h=>by
  cases hA
  exact⟨g,st,h,rfl,I⟩
 |m::ms,qq,EP,Fs0,j,g,st,k,r,I,tG,hA,hp,hf,dj,h=>by
  cases hA with
  |cons vQ SF=>
  rename_i d ds u us F Fs
  obtain⟨uX,tL⟩:=List.pairwise_cons.1 hp
  simp only[entry] at h
  have hu:a.tmps[j]? =some u:=tG 0 u rfl
  have adL:∀(i:Nat) v,us[i]? =some v→a.tmps[j+1+i]? =some v:=fun i v hv=>by
   have:=tG (i+1) v (by simpa using hv)
   rw[Nat.add_assoc,Nat.add_comm 1 i];exact this
  -- what is read
  have rd:∀{sv:Sv}{k':St→Option R},k'=(fun st=>entry (j+1) ms ds st k)→dO w g st sv u→k' { st with ay:=bd st.ay j sv }=some r→∃g' aF,k aF=some r∧g'.n=g.n∧Inv w0 Mf g' aF a w:=by
   intro sv k' e hs h
   subst e
   exact oN (I.note hu hs) adL SF tL (fun n hn=>let ⟨h1,h2⟩:=hf n (.there hn);⟨⟨h1.r,h1.ro,h1.b,h1.ib⟩,h2⟩) dj h
  -- what is handed over or lent
  have mv:m.reads=false→∀{c:Cm}{g1:Gh}{bz:St}{k':St→Option R},k'=(fun st=>entry (j+1) ms ds st k)→Inv w0 Mf g1 bz a w→L4 g st g1 bz F→jc w g1 bz c u→k' { bz with ay:=bd bz.ay j (.c c) }=some r→
    ∃g' aF,k aF=some r∧g'.n=g.n∧Inv w0 Mf g' aF a w:=by
   intro hm c g1 bz k' e I1 C1 hc h
   subst e
   obtain⟨g',aF,h1,h2,h3⟩:=oN (g:=g1) (I1.note hu (sv:= .c c) hc) adL (by rw[C1.n];exact SF) tL (fun n hn=>by
    obtain⟨GS,bU⟩:=hf n (.there hn)
    have:=C1.free GS (fun hk=>by
     obtain⟨G,hG,hg⟩:=hn.any
     exact uX G hG n hk hg)
    exact⟨⟨this.r,this.ro,this.b,this.ib⟩,bU⟩) (by rw[C1.ro];exact dj) h
   exact⟨g',aF,h1,h2.trans C1.n,h3⟩
  cases m with
  |ro=>
   cases d with
   |fi _ _=>cases vQ
   |d t x=>
    simp only[oL] at h
    have hv:ox w ROa t x u:=vQ
    have hR:iB g.n.wl w false [false] [.d t x] [u] [ROa]:= .val (by simpa using hv) .nil
    obtain⟨sN,δ,h,_,_,hc⟩:=vP (g:=g) (st:=st) hR (fun G hG n hn=>by
     have:G=ROa:=by simpa using hG
     subst this;rw[dj];exact hn) h
    cases sN with
    |nil=>exact hc.elim
    |cons c cs=>
     cases cs with
     |nil=>exact rd rfl (sv:= .c c) hc.1 h
     |cons _ _=>exact hc.2.elim
  |oh=>
   cases d with
   |fi _ _=>cases vQ
   |d t x=>
    simp only[oL] at h
    obtain⟨c,g1,bz,δ,h,I1,C1,hc⟩:=I.Hq vQ (fun n hn=>hf n (.here rfl hn)) h
    exact mv rfl rfl I1 C1 hc h
  | «mut» =>
   cases d with
   |fi _ _=>cases vQ
   |d t x=>
    obtain⟨e,xs,heq,hO⟩:=vQ
    cases heq
    simp only[oL] at h
    have adM:cR u=true:=by
     obtain⟨av,h0,fX⟩:=hO
     rcases fX.1 [] _ rfl with ⟨_,h⟩ | ⟨_,_,_,_,_,h,_⟩<;>rw[h0] at h<;>subst h<;>rfl
    have hv:je w F (.sl e) xs u:=by
     refine⟨#[u],by simp[Form,iZ,adM],fun j=>if j=0 then F else fun _=>False,fun j k hk=> ?_,fun j j' k hk tF=> ?_,by simp[enc],fun j c hc=> ?_⟩
     ·dsimp only at hk
      split at hk
      ·exact hk
      ·exact hk.elim
     ·dsimp only at hk tF
      by_cases e1:j=0
      ·by_cases e2:j'=0
       ·omega
       ·simp[e2] at tF
      ·simp[e1] at hk
     ·cases j with
      |zero=>
       simp only[enc,List.getElem?_cons_zero,Option.some.injEq] at hc
       subst hc
       exact⟨u,rfl,by simpa [gX] using hO⟩
      |succ j=>simp[enc] at hc
    obtain⟨c,g1,bz,δ,h,I1,C1,hc⟩:=I.Hq hv (fun n hn=>hf n (.here rfl hn)) h
    exact mv rfl rfl I1 C1 hc h
  |D'=>
   cases d with
   |fi _ _=>cases vQ
   |d t x=>
    simp only[oL] at h
    refine rd rfl (sv:= .c (.one (.rp t x 0))) ?_ h
    have adN:jC w ROa t x 0 u:=vQ
    refine⟨?_,?_⟩
    ·obtain⟨b,o,cs,el,fz,e,_⟩:=adN;rw[e];rfl
    ·show jC w g.ro t x 0 u
     rw[dj];exact adN
  |bG=>
   cases d with
   |fi _ _=>cases vQ
   |d t x=>
    simp only[oL] at h
    obtain⟨c,g1,bz,δ,h,I1,C1,hc⟩:=I.TD vQ (fun n hn=>hf n (.here rfl hn)) h
    exact mv rfl rfl I1 C1 hc h
  |SO=>cases h
  |kp=>
   cases d with
   |fi _ _=>cases vQ
   |d t x=>
    simp only[oL] at h
    obtain⟨vs,eU,e8⟩:=(vQ:W3 g.n.wl t x u)
    obtain⟨c,AB,h⟩:=aT h
    obtain⟨u',eL,AE⟩:=Form.of AB (vN (w:=w) (g:=g) (st:=st) e8 fun y hy=>iK hy)
    have:=eU.uniq eL
    subst this
    exact rd rfl (sv:= .c c) AE h
  |fn=>
   cases d with
   |d t x=>cases vQ
   |fi f ys=>
    simp only[oL] at h
    obtain⟨ps,e,hl,hq⟩:=vQ
    refine rd rfl (sv:= .c (.one (.pJ f ys))) ⟨by rw[e];rfl,ps,e,hl,fun i y q hy hq'=> ?_⟩ h
    rw[dj];exact hq i y q hy hq'
end Go.Gm
namespace Go.Gm
open Go
section ev
variable {R : Type}
def hC(E:Env)(st:St)(own:Bool):List ResultVar→List Bool→List Nat→(List (Am×Nat×Sv)→Option R)→Option R
 | [],[],[],k=>k []
 | .tmp t::rs,p::ps,T::Ts,k=>(au st.ay t).bind fun s=>hC E st own rs ps Ts fun l=>k ((cond p .bG (cond own .oh .ro),T,s)::l)
 | .cell x T'::rs,false::ps,_::Ts,k=>match au st.ay x with
  |some (.c (.one (.pt b 0)))=>(au st.boxes b).bind fun y=>(E.code T').bind fun t=>cond (Nat.beq (ar t) y.cs.length)
    ((Cf t y.cs).bind fun c=>hC E st own rs ps Ts fun l=>k ((cond own .oh .ro,T',.c c)::l)) none
  |_=>none
 |_,_,_,_=>none
def nH(st:St):Nat→List Am→(List (Am×Nat×Sv)→Option R)→Option R
 |_,[],k=>k []
 |j,.mut::ms,k=>(au st.ay j).bind fun s=>nH st (j+1) ms fun l=>k ((.mut,0,s)::l)
 |j,.bG::ms,k=>(au st.ay j).bind fun s=>nH st (j+1) ms fun l=>k ((.bG,0,s)::l)
 |j,_::ms,k=>nH st (j+1) ms k
def cA:List Am→List Dt→List Dt→Bool
 | [],[],[]=>true
 | .bG::ms,.d t0 _::qq,.d t _::ds=>Nat.beq (ar t) (ar t0)&&cA ms qq ds
 | .mut::ms,_::qq,.d (.sl _) _::ds=>cA ms qq ds
 | .mut::_,_,_=>false
 | .bG::_,_,_=>false
 |_::ms,_::qq,ds=>cA ms qq ds
 |_,_,_=>false
def stays:Nat→List Am→List Nat
 |_,[]=>[]
 |j,.mut::ms=>j::stays (j+1) ms
 |j,.bG::ms=>j::stays (j+1) ms
 |j,_::ms=>stays (j+1) ms
def wo(E:Env)(bR:List Am)(res:List Bool)(own:Bool)(SI:List ResultVar)(Ts:List Nat)(ds:List Dt)(st:St)(k:Kt R):Option R:=
  hC E st own SI res Ts fun l1=>nH st 0 bR fun l2=>
    cond (own||(bR.all Am.reads&&((res.all fun p=> !p)&&l1.all fun a=>a.2.2.cells.all fun c=>c.names.1.isEmpty)))
 (dH E (l1++l2) st fun outs _ _ _=>cond (cA bR ds (outs.drop l1.length)) (k outs) none) none
def aG(E:Env)(keep:Nat→Kp)(rounds:Nat)(body:Code)(bR:List Am)(res:List Bool)(own:Bool)(SI:List ResultVar)(Ts:List Nat)(ds:List Dt)(k:Kt R):Option R:=
  entry 0 bR ds ⟨[],[],[]⟩ fun st=>ev E keep rounds body st fun e st=>match e with
  | .exit _=>none
  |_=>wo E bR res own SI Ts ds st k
end ev
end Go.Gm
