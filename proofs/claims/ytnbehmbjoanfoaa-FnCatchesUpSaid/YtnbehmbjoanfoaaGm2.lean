/- The G-machine, part 2: an evaluator of translated code on typed values, and that it is sound. No conditions. -/
import Derived.Test.YtnbehmbjoanfoaaGm1
import Derived.Laws.Tables
namespace Go.Gm
open Go
variable {R : Type} {P : Program} {E : Env} {w0 w : World} {Mf : Nat → Prop} {g : Gh} {st : St} {a : Act} {Q : Exit → Act → World → Prop}
  {o:Oper} {k:Dl→Option R} {r:R} {K:Act→World→Prop}
theorem tF{α:Type}(l:List (Nat×α))(n:Nat)(x y:α):bc (bc l n x) n y=bc l n y:=by
 induction l with
 |nil=>simp[bc,Nat.beq_refl]
 |cons kv l ih=>
  obtain⟨k,u⟩:=kv
  simp only[bc]
  cases h1:Nat.beq n k
  ·cases h2:Nat.blt n k
   ·simp only[cond_false,bc,h1,h2,ih]
   ·simp only[cond_false,cond_true,bc,Nat.beq_refl]
  ·simp only[cond_true,bc,Nat.beq_refl]
theorem RowsIn.size{t:Ty}{ys:List (El t)}{cs:Array Value}{o:Nat}{kid:Nat→Nat→Value}(h:RowsIn t ys cs o kid)(hn:ys≠[]):o+ys.length*ao t≤cs.size:=by
 have me:=eN t
 have hl:0<ys.length:=List.length_pos_iff.2 hn
 have hi:ys.length-1<ys.length:=by omega
 obtain⟨u,hu,_⟩:=h (ys.length-1) ys[ys.length-1] (ao t-1) _ (List.getElem?_eq_getElem hi) (List.getElem?_eq_getElem (by rw[aS];omega))
 have cc:o+(ys.length-1)*ao t+(ao t-1)<cs.size:=by
  rcases Nat.lt_or_ge (o+(ys.length-1)*ao t+(ao t-1)) cs.size with h' | h'
  ·exact h'
  ·simp[Array.getElem?_eq_none h'] at hu
 have:ys.length*ao t=(ys.length-1)*ao t+ao t:=by
  have e:ys.length=(ys.length-1)+1:=by omega
  conv=>lhs;rw[e,Nat.add_mul,Nat.one_mul]
 omega
theorem eH.news{F:Nat→Prop}{t:Ty}{ys:List (El t)}{v:Value}{kid:Nat→Nat→Value}(h:eH w F t ys v kid):
    ∃xa cap news,v = .slice xa ys.length cap∧ys.length≤cap∧news.length=ys.length*ao t∧sU w xa news∧
      ∀i y j c,ys[i]? =some y→(enc t y)[j]? =some c→∃u,news[i*ao t+j]? =some u∧dH c u (kid i j):=by
 obtain⟨xa,cap,e,hle,hh⟩:=h
 by_cases hn:ys=[]
 ·subst hn
  exact⟨xa,cap,[],e,hle,by simp,.inl rfl,fun i y j c h=>by simp at h⟩
 ·obtain⟨b,oo,cs,el,fz,rfl,hF,hb,hr⟩:=hh hn
  have dQ:=hr.size hn
  refine⟨_,cap,(cs.toList.drop oo).take (ys.length*ao t),e,hle,by simp;omega,.inr ⟨b,oo,cs,el,fz,rfl,hb,fun j v hj=> ?_⟩,fun i y j c hy hc=> ?_⟩
  ·rw[List.getElem?_take] at hj
   split at hj
   ·rw[List.getElem?_drop] at hj;simpa using hj
   ·cases hj
  ·obtain⟨u,hu,gu⟩:=hr i y j c hy hc
   refine⟨u,?_,gu⟩
   have hi:i<ys.length:=by
    rcases Nat.lt_or_ge i ys.length with h' | h'
    ·exact h'
    ·simp[List.getElem?_eq_none h'] at hy
   have hj:j<ao t:=by
    rw[← aS t y]
    rcases Nat.lt_or_ge j (enc t y).length with h' | h'
    ·exact h'
    ·simp[List.getElem?_eq_none h'] at hc
   have:i*ao t+j<ys.length*ao t:=by
    have:(i+1)*ao t≤ys.length*ao t:=Nat.mul_le_mul_right _ hi
    rw[Nat.add_mul] at this;omega
   rw[List.getElem?_take,if_pos this,List.getElem?_drop]
   simpa [Nat.add_assoc] using hu
structure Src (w:World) (ro:Nat→Prop) (d:Bool) (F:Nat→Prop) (e:Ty) (ys:List (El e)) (u:Value) (xa:Option Addr) (cap:Nat) (news:List Value) (G:Nat→Nat→Nat→Prop):Prop where
 eq:u = .slice xa ys.length cap
 len:news.length=ys.length*ao e
 Rp:sU w xa news
 rows:∀i y j c,ys[i]? =some y→(enc e y)[j]? =some c→∃z,news[i*ao e+j]? =some z∧lQ w (fun k=>F k∨ro k) c z∧(d=true→fP w (G i j) c z)
 PH:∀i j i' j' k,G i j k→G i' j' k→i=i'∧j=j'
 sub:∀i j k,G i j k→F k
theorem Src.flat{ro:Nat→Prop}{d:Bool}{F:Nat→Prop}{e:Ty}{ys:List (El e)}{u:Value}{xa:Option Addr}{cap:Nat}{news:List Value}{G:Nat→Nat→Nat→Prop}
 (h:Src w ro d F e ys u xa cap news G):∀v∈news,v.oneCell'=true:=by
 intro v hv
 obtain⟨n,hn⟩:=List.getElem?_of_mem hv
 have me:=eN e
 have cc:n<news.length:=by
  rcases Nat.lt_or_ge n news.length with h' | h'
  ·exact h'
  ·simp[List.getElem?_eq_none h'] at hn
 rw[h.len] at cc
 have hi:n/ao e<ys.length:=Nat.div_lt_of_lt_mul (by rw[Nat.mul_comm];exact cc)
 have hj:n%ao e<ao e:=Nat.mod_lt _ me
 obtain⟨z,hz,hr,_⟩:=h.rows (n/ao e) ys[n/ao e] (n%ao e) _ (List.getElem?_eq_getElem hi) (List.getElem?_eq_getElem (by rw[aS];exact hj))
 have:n/ao e*ao e+n%ao e=n:=by rw[Nat.mul_comm];exact Nat.div_add_mod n (ao e)
 rw[this,hn] at hz;cases hz
 exact lp (ff (List.getElem?_eq_getElem (by rw[aS];exact hj)) hr)
theorem qK{e:Ty}(h:(kinds e).all (fun q=>q.isNone)=true){y:El e}{j:Nat}{c:Cv}(hc:(enc e y)[j]? =some c):∃x,c = .v x:=by
 have h1:=ql e y
 rw[← h1,List.all_map,List.all_eq_true] at h
 have:=h _ (List.mem_of_getElem? hc)
 cases c with
 |v x=>exact⟨x,rfl⟩
 |l t ys=>simp[Cv.kind] at this
theorem DH{t:Ty}{xs:List (El t)}{i j:Nat}{s:Sl}(h:aQ t xs [(i,j)]=some s):∃x,xs[i]? =some x∧(enc t x)[j]? =some (.l s.t s.xs):=by
 simp only[aQ] at h
 split at h
 ·rename_i x hx
  split at h
  ·rename_i t' ys hc
   simp only[Option.some.injEq] at h;subst h
   exact⟨x,hx,hc⟩
  ·cases h
 ·cases h
theorem ML{g:Gh}{st aI:St}{rf:Nat→Nat→Prop}{fe:List (Nat×Rt)}{F:Nat→Prop}{e:Ty}{xs:List (El e)}{d:Bool}{u:Value}(I':Inv w0 Mf (g.pE rf) aI a w)(T':fm w g rf st aI fe [F])
 (hr:lQ w (fun k=>F k∨g.ro k) (.l e xs) u) (ho:d=true→fP w F (.l e xs) u):∃xa cap news G,Inv w0 Mf (g.pE rf) aI a w∧fm w g rf st aI fe [F]∧Src w g.ro d F e xs u xa cap news G:=by
 cases d
 ·obtain⟨av,h0,fw⟩:=hr
  obtain⟨xa,cap,news,e1,_,h2,h3,h4⟩:=(fw [] _ rfl).news
  refine⟨xa,cap,news,fun _ _ _=>False,I',T',⟨by rw[← h0];exact e1,h2,h3,fun i y j c hy j0=> ?_,fun _ _ _ _ _ h=>h.elim,fun _ _ _ h=>h.elim⟩⟩
  obtain⟨z,hz,iO⟩:=h4 i y j c hy j0
  refine⟨z,hz,?_,fun h=>by cases h⟩
  cases c with
  |v x=>exact iO
  |l t ys=>exact⟨fun q=>av ([(i,j)]++q),by simpa [dH] using iO.symm,fw.at (gb hy j0)⟩
 ·obtain⟨av,h0,fw⟩:=ho rfl
  obtain⟨xa,cap,news,e1,_,h2,h3,h4⟩:=(fw.1 [] _ rfl).rd.news
  refine⟨xa,cap,news,fun i j=>eb e xs av [(i,j)],I',T',⟨by rw[← h0];exact e1,h2,h3,fun i y j c hy j0=> ?_,fun i j i' j' n ⟨q,s,h1,h2⟩ ⟨q',s',h3,h4⟩=> ?_,
   fun i j n ⟨q,s,h1,h2⟩=>(fw.1 _ s h1).k8 h2⟩⟩
  ·obtain⟨z,hz,iO⟩:=h4 i y j c hy j0
   refine⟨z,hz,?_,fun _=> ?_⟩
   ·cases c with
    |v x=>exact iO
    |l t ys=>exact⟨fun q=>av ([(i,j)]++q),by simpa [dH] using iO.symm,(fw.rd.at (gb hy j0)).mono fun n=> .inl⟩
   ·cases c with
    |v x=>exact iO
    |l t ys=>exact⟨fun q=>av ([(i,j)]++q),by simpa [dH] using iO.symm,fw.at (gb hy j0)⟩
  ·have:=fw.2 _ _ _ _ n h1 h3 h2 h4
   simp only[List.singleton_append,List.cons.injEq,Prod.mk.injEq] at this
   exact this.1
theorem Inv.F6(I:Inv w0 Mf g st a w){id ver lo hi:Nat}{ro:cy}(hv:ak st.roots id=some (.live ro))(ht:ro.md.oW lo 0=true)(h1:lo≤hi)(h2:hi≤ro.xs.length):
    ∃F rf xa cap news G,Inv w0 Mf (g.pE rf) (st.taken id ro hi 0) a w∧fm w g rf st (st.taken id ro hi 0) [(id,.live ⟨ro.t,.part (.cur hi 0),ro.ver,ro.log,ro.xs⟩)] [F]∧
      Src w g.ro true F ro.t ((ro.xs.take hi).drop lo) (jM (ao ro.t) (g.rv id []) lo hi) xa cap news G:=by
 have hp:=I.zG hv ht
 obtain⟨rf,I1,T1⟩:=I.take hv ht (fD.2 (show lo<hi∨(lo=hi∧0≤0) by omega)) (fun _=>Iff.rfl)
 have dz:=bp.cut (hp.1 [] ⟨ro.t,ro.xs⟩ rfl rfl) h1 h2
 obtain⟨xa,cap,news,e1,_,h3,h4,h5⟩:=dz.rd.news
 have hle:∀i j,ld lo 0 (i+lo) j=true:=fun i j=>fD.2 (by omega)
 refine⟨_,rf,xa,cap,news,fun i j k=>i+lo<hi∧eb ro.t ro.xs (g.rv id) [(i+lo,j)] k,I1,T1,⟨e1,h3,h4,fun i y j c hy hc=> ?_,?_,?_⟩⟩
 ·obtain⟨z,hz,iO⟩:=h5 i y j c hy hc
  have lf:i+lo<hi:=by
   rw[gJ] at hy
   split at hy
   ·omega
   ·cases hy
  have own:fP w (fun k=>i+lo<hi∧eb ro.t ro.xs (g.rv id) [(i+lo,j)] k) c z:=by
   cases c with
   |v x=>exact iO
   |l t ys=>
    have hs:aQ ro.t ro.xs [(i+lo,j)]=some ⟨t,ys⟩:=by
     have:=qA (gb hy hc);exact this
    exact⟨fun q=>g.rv id ([(i+lo,j)]++q),by simpa [dH] using iO.symm,(hp.at (hle i j) hs).mono fun k hk=>⟨lf,hk⟩⟩
  refine⟨z,hz,?_,fun _=>own⟩
  cases c with
  |v x=>exact iO
  |l t ys=>
   obtain⟨av,h6,h7⟩:=own
   refine⟨av,h6,h7.rd.mono fun k hk=> .inl ?_⟩
   obtain⟨_,q,s,h8,h9⟩:=hk
   refine⟨[(i+lo,j)]++q,s,hle i j,?_,h8,h9⟩
   show ld hi 0 (i+lo) j=false
   cases hh:ld hi 0 (i+lo) j with
   |false=>rfl
   |true=>rw[fD] at hh;omega
 ·rintro i j i' j' n ⟨_,q,s,h6,h7⟩ ⟨_,q',s',h8,h9⟩
  have:=hp.2.1 ([(i+lo,j)]++q) ([(i'+lo,j')]++q') _ _ n (hle i j) (hle i' j') h6 h8 h7 h9
  simp only[List.singleton_append,List.cons.injEq,Prod.mk.injEq] at this
  exact⟨by omega,this.1.2⟩
 ·rintro i j k ⟨lf,q,s,h8,h9⟩
  refine⟨[(i+lo,j)]++q,s,hle i j,?_,h8,h9⟩
  show ld hi 0 (i+lo) j=false
  cases hh:ld hi 0 (i+lo) j with
  |false=>rfl
  |true=>rw[fD] at hh;omega
theorem Inv.jv(I:Inv w0 Mf g st a w){e:Ty}{c:Sc}{k:List (El e)→Bool→St→List (Nat×Rt)→Option R}{r:R}{u:Value}(h:jv st e c k=some r)(hc:bf w g st c u):
    ∃ys d aI fe F rf xa cap news G,k ys d aI fe=some r∧Inv w0 Mf (g.pE rf) aI a w∧fm w g rf st aI fe [F]∧Src w g.ro d F e ys u xa cap news G:=by
  have T0:iS w g st st [] [fun _=>False]:=
    ⟨rfl,fun _ h=>h,fun _ _ h=>h,List.pairwise_singleton _ _,fun F hF k hk=>by simp only[List.mem_singleton] at hF;subst hF;exact hk.elim,
      fun F hF k hk=>by simp only[List.mem_singleton] at hF;subst hF;exact hk.elim,fun _ _ h=>h,fun _ _ h=>h⟩
  unfold Gm.jv at h
  split at h
  · rename_i j3
    replace h:=I.ma h hc;obtain⟨cv,h,m8⟩:=h
    replace h:=aR h;obtain⟨xs,pO,h⟩:=h
    have:=cY pO
    simp only[enc,List.cons.injEq,and_true] at this
    subst this
    obtain⟨av,h0,fw⟩:=m8
    obtain⟨xa,cap,news,e1,_,h2,h3,h4⟩:=(fw [] _ rfl).news
    refine⟨xs,true,st,[],_,g.rf,xa,cap,news,fun _ _ _=>False,h,I,T0.P,⟨by rw[← h0];exact e1,h2,h3,fun i y j c hy j0=> ?_,fun _ _ _ _ _ h=>h.elim,fun _ _ _ h=>h⟩⟩
    obtain⟨z,hz,iO⟩:=h4 i y j c hy j0
    obtain⟨x,rfl⟩:=qK j3 j0
    exact⟨z,hz,iO,fun _=>iO⟩
  · have fin:∀{rf:Nat→Nat→Prop}{cv:Cv}{d:Bool}{aI:St}{fe:List (Nat×Rt)}{F:Nat→Prop},((dec (.sl e) [cv]).bind fun xs=>k xs d aI fe)=some r→Inv w0 Mf (g.pE rf) aI a w→fm w g rf st aI fe [F]→
        lQ w (fun k=>F k∨g.ro k) cv u→(d=true→fP w F cv u)→∃ys d aI fe F rf xa cap news G,k ys d aI fe=some r∧Inv w0 Mf (g.pE rf) aI a w∧fm w g rf st aI fe [F]∧Src w g.ro d F e ys u xa cap news G:=by
      intro rf cv d aI fe F h I' T' hr ho
      replace h:=aR h;obtain⟨xs,pO,h⟩:=h
      have:=cY pO
      simp only[enc,List.cons.injEq,and_true] at this
      subst this
      obtain⟨xa,cap,news,G,h1,h2,h3⟩:=ML I' T' hr ho
      exact⟨xs,d,aI,fe,F,rf,xa,cap,news,G,h,h1,h2,h3⟩
    unfold Gm.tA at h
    split at h
    · rename_i id ver lo hi t _
      replace h:=dg h;obtain⟨ro,hv,fJ,h⟩:=h
      cases ht:ro.md.oW lo 0
      · rw[ht] at h
        simp only[cond_false] at h
        replace h:=I.iM h hc;obtain⟨cv,d,aI,fe,F,h,I',T',hr,ho⟩:=h
        exact fin h I' T'.P hr ho
      · rw[ht] at h
        simp only[cond_true] at h
        obtain⟨h1,h2,hu⟩:=hc.2.2 ro ⟨.inl hv,fJ,fY _ _⟩
        obtain⟨F,rf,xa,cap,news,G,h3,h4,h5⟩:=I.F6 (ver:=ver) hv ht h1 h2
        replace h:=aR h;obtain⟨xs,pO,h⟩:=h
        have:=cY pO
        simp only[enc,List.cons.injEq,and_true,Cv.l.injEq] at this
        obtain⟨e1,e2⟩:=this
        obtain⟨t0,Uq,v0,l0,x0⟩:=ro
        simp only at e1 e2
        subst e1
        have e2:=eq_of_heq e2
        subst e2
        exact⟨_,_,_,_,F,rf,xa,cap,news,G,h,h3,h4,by rw[hu];exact h5⟩
    · replace h:=I.jL h hc;obtain⟨cv,d,aI,fe,F,rf,h,I',T',hr,ho⟩:=h
      exact fin h I' T' hr ho
structure fx (w0:World) (Mf:Nat→Prop) (g:Gh) (st:St) (n:Nat):Prop where
 r:∀id,aT st id→ ¬g.rf id n
 ro : ¬g.ro n
 b:∀b,bz st b→g.bx b≠n
 fV:w0.heap.size≤n∨Mf n
theorem Inv.BZ(I:Inv w0 Mf g st a w):fx w0 Mf g st w.heap.size:={
 r:=fun id h1 h2=>by have:=I.apart.er id _ h1 h2;omega
 ro:=fun h=>by have:=I.apart.da _ h;omega
 b:=fun b h e=>by
  obtain⟨x,hx⟩:=Option.isSome_iff_exists.1 h
  obtain⟨us',mc,h1,_⟩:=I.boxes b x hx
  have:=(Array.getElem?_eq_some_iff.1 h1).1
  omega
 fV:= .inl I.kept.same.1 }
theorem fP.same{w w':World}{X F:Nat→Prop}(hs:bw X w w')(hd:∀k,F k→ ¬X k){c:Cv}{u:Value}(h:fP w F c u):fP w' F c u:=by
 cases c with
 |v x=>exact h
 |l t xs=>obtain⟨av,h0,h1⟩:=h;exact⟨av,h0,h1.same hs hd⟩
theorem dS.same{w w':World}{X ro:Nat→Prop}{d:Bool}{t:Ty}{xs:List (El t)}{cs:Array Value}{o:Nat}{G:Nat→Nat→Nat→Prop}(hs:bw X w w')
 (hG:∀i j k,G i j k→ ¬X k) (dh:∀k,ro k→ ¬X k) (h:dS w ro d t xs cs o G):dS w' ro d t xs cs o G:=
 ⟨fun i x j c hx hc=>let ⟨u,hu,hr,ho⟩:=h.rows i x j c hx hc
 ⟨u,hu,hr.same hs (fun k hk=>hk.elim (hG i j k) (dh k)),fun hd=>(ho hd).same hs (hG i j)⟩,h.PH⟩
theorem Inv.build(I:Inv w0 Mf g st a w){w':World}{b o cap el:Nat}{cs:Array Value}(hs:bw (fun k=>k=b) w w')(UY:w'.os=w.os)(F7:w'.tape=w.tape)(sV:w'.output=w.output)
 (hb:w'.heap[b]? =some (.cells cs el (0,0))) (cK:fx w0 Mf g st b) {e:Ty} {xs:List (El e)} {G:Nat→Nat→Nat→Prop} {F:Nat→Prop} {d:Bool}
 (hp:dS w (fun k=>g.ro k∨F k) d e xs cs o G) (hG:∀i j k,G i j k→k≠b∧fx w0 Mf g st k∧k<w.heap.size) (hF:∀k,F k→k≠b∧fx w0 Mf g st k∧k<w.heap.size)
 (dJ:xs.length≤cap) (dQ:o+cap*ao e≤cs.size) {id ver:Nat} {md:Md} (ek:dI st id ⟨e,md,ver,[],xs⟩) (cI:md.cq=false∧md.cU=false) (MM:md.bF=true→d=true):
    ∃g':Gh,g'.n=g.n∧Inv w0 Mf g' { st with roots:=bc st.roots id (.live ⟨e,md,ver,[],xs⟩) } a w'∧g'.rv id [] = .slice (some ⟨b,o,none⟩) xs.length cap:=by
 have MN:b<w'.heap.size:=(Array.getElem?_eq_some_iff.1 hb).1
 have mb:Kept w0 w' Mf:=I.kept.step UY F7 sV hs (fun k hk=>by subst hk;exact cK.fV)
 have I1:Inv w0 Mf g st a w':=I.world hs (fun k h1 h2=>cK.ro (h2▸h1)) (fun id k h1 h2 h3=>cK.r id h1 (h3▸h2)) (fun b' h1 h2=>cK.b b' h1 h2) mb
 have Mp:dS w' (fun k=>g.ro k∨F k) d e xs cs o G:=hp.same hs (fun i j k h=>(hG i j k h).1) (fun k h=>h.elim (fun h1 h2=>cK.ro (h2▸h1)) (fun h1=>(hF k h1).1))
 cases o3:md.bF
 ·-- what it is built of is read alone from now on
  have ke:md = .iZ:=by cases md<;>simp_all [Md.bF,Md.cq,Md.cU]
  subst ke
  let MO:Nat→Prop:=fun k=>(g.ro k∨F k)∨∃i j,G i j k
  obtain⟨av,h0,fw⟩:=Mp.iZ hb dJ dQ (ro':=MO) (fun k=> .inl) (fun i j k h=> .inr ⟨i,j,h⟩)
  have F5:∀k,MO k→k≠b:=fun k h=>h.elim (fun h=>h.elim (fun h1 h2=>cK.ro (h2▸h1)) fun h1=>(hF k h1).1) fun ⟨i,j,h1⟩=>(hG i j k h1).1
  have I2:Inv w0 Mf { g with ro:=MO } st a w':=I1.FT (G:=MO) (fun k h=> .inl (.inl h))
   (fun id k h1 h2 h3=>h3.elim (fun h=>h.elim (I1.apart.ew id k h1 h2) (fun h=>(hF k h).2.1.r id h1 h2)) fun ⟨i,j,h⟩=>(hG i j k h).2.1.r id h1 h2)
   (fun b' h1 h3=>h3.elim (fun h=>h.elim (I1.apart.fI b' h1) (fun h=>(hF _ h).2.1.b b' h1 rfl)) fun ⟨i,j,h⟩=>(hG i j _ h).2.1.b b' h1 rfl)
   (fun k h=>h.elim (fun h=>h.elim (I1.apart.da k) fun h=>Nat.lt_of_lt_of_le (hF k h).2.2 hs.1) fun ⟨i,j,h⟩=>Nat.lt_of_lt_of_le (hG i j k h).2.2 hs.1)
   (fun k h=>h.elim (fun h=>h.elim (I1.apart.bM k) fun h=> .inr (hF k h).2.1.fV) fun ⟨i,j,h⟩=> .inr (hG i j k h).2.1.fV)
  have I3:=I2.bV (id:=id) (r:=⟨e,.iZ,ver,[],xs⟩) ek (av:=av) (F:=fun k=>k=b)
   (by simp only[aX,Gh.bV,if_true];exact fw)
   (fun k hk=>by subst hk;exact⟨fun aK h1 _=>cK.r aK h1,fun h=>F5 _ h rfl,cK.b,cK.fV,MN⟩)
  exact⟨_,by rfl,I3,by simp[Gh.bV,h0]⟩
 ·have hd:=MM o3
  subst hd
  have YQ:md = .deep:=by cases md<;>simp_all [Md.bF]
  subst YQ
  obtain⟨av,h0,fw⟩:=Mp.own hb dJ dQ (fun i j h=>(hG i j b h).1 rfl)
  have I3:=I1.bV (id:=id) (r:=⟨e,.deep,ver,[],xs⟩) ek (av:=av) (F:=fun k=>k=b∨∃i j,G i j k)
   (by simp only[aX,Gh.bV,if_true];exact fw)
   (fun k hk=>by
    rcases hk with rfl | ⟨i,j,h⟩
    ·exact⟨fun aK h1 _=>cK.r aK h1,cK.ro,cK.b,cK.fV,MN⟩
    ·obtain⟨_,h2,h3⟩:=hG i j k h
     exact⟨fun aK h1 _=>h2.r aK h1,h2.ro,h2.b,h2.fV,Nat.lt_of_lt_of_le h3 hs.1⟩)
  exact⟨_,by rfl,I3,by simp[Gh.bV,h0]⟩
theorem Inv.F8(I:Inv w0 Mf g st a w){e:Ty}{id ver:Nat}{md:Md}(ek:dI st id ⟨e,md,ver,[],[]⟩)(cI:md.cq=false∧md.cU=false):
    ∃g':Gh,g'.n=g.n∧Inv w0 Mf g' { st with roots:=bc st.roots id (.live ⟨e,md,ver,[],[]⟩) } a w∧g'.rv id [] = .slice none 0 0:=by
 have tG:∀p s,aQ e [] p=some s→p=[]∧s=⟨e,[]⟩:=by
  intro p s hs
  cases p with
  |nil=>simp only[aQ,Option.some.injEq] at hs;exact⟨rfl,hs.symm⟩
  |cons ij p=>simp[aQ] at hs
 have dO:aW w (fun _=>False) e [] (fun _=> .slice none 0 0):=
  ⟨fun p s hs=>by obtain⟨rfl,rfl⟩:=tG p s hs;exact .inl ⟨rfl,rfl⟩,fun p q s s' b _ _ h _=>by simp[j8] at h⟩
 have I3:=I.bV (id:=id) (r:=⟨e,md,ver,[],[]⟩) ek (av:=fun _=> .slice none 0 0) (F:=fun _=>False)
  (by
   cases md with
   |deep=>simp only[aX,Gh.bV,if_true];exact dO
   |iZ=>
    simp only[aX,Gh.bV,if_true]
    exact⟨.inl ⟨rfl,rfl⟩,fun p s hp hs=>(hp (tG p s hs).1).elim⟩
   |BQ=>simp[Md.cq] at cI
   |part k=>simp[Md.cU] at cI)
  (fun k hk=>hk.elim)
 exact⟨_,by rfl,I3,by simp[Gh.bV]⟩
structure Old (w0 w:World) (Mf:Nat→Prop) (g:Gh) (st:St) (d:Bool) (e:Ty) (xs:List (El e)) (sa:Option Addr) (cap:Nat) (ca:List Value) (G:Nat→Nat→Nat→Prop):Prop where
 len:ca.length=xs.length*ao e
 Rp:sU w sa ca
 fits:xs.length≤cap
 room:∀b o,sa=some ⟨b,o,none⟩→∃cs el,w.heap[b]? =some (.cells cs el (0,0))∧o+cap*ao e≤cs.size
 UZ:sa=none→cap=0
 spot:∀ad,sa=some ad→ad.spot=none
 rows:∀i x j c,xs[i]? =some x→(enc e x)[j]? =some c→∃u,ca[i*ao e+j]? =some u∧lQ w (fun k=>G i j k∨g.ro k) c u∧(d=true→fP w (G i j) c u)
 PH:∀i j i' j' k,G i j k→G i' j' k→i=i'∧j=j'
 free:∀b o,sa=some ⟨b,o,none⟩→fx w0 Mf g st b∧(∀ i j,¬G i j b)
 F9:∀i j k,G i j k→fx w0 Mf g st k∧k<w.heap.size
theorem Inv.appendCore(hE:E.Ok P)(I:Inv w0 Mf g st a w){T T' ty:Nat}{e e':Ty}(hT:E.code T=some (.sl e))(BY:E.code T'=some (.sl e')){d1 d2:Bool}{xs ys:List (El e)}{sa xa:Option Addr}{cap c2:Nat}
    {ca news:List Value} {G1 G2:Nat→Nat→Nat→Prop} {F:Nat→Prop} {x:Value} (hold:Old w0 w Mf g st d1 e xs sa cap ca G1) (gW:Src w g.ro d2 F e ys x xa c2 news G2)
 (hF:∀k,F k→fx w0 Mf g st k∧k<w.heap.size∧(∀ o b,sa=some ⟨b,o,none⟩→k≠b)∧∀i j,¬G1 i j k) (iC:xs.length+ys.length≤fO) {id ver:Nat} {md:Md}
 (ek:dI st id ⟨e,md,ver,[],xs++ys⟩) (cI:md.cq=false∧md.cU=false) (MM:md.bF=true→d1=true∧d2=true):
    ∃v' w' g',(Builtin.append_ #[T,T'] ty #[.slice sa xs.length cap,x]).run P w = .ok v' w'∧g'.n=g.n∧Inv w0 Mf g' { st with roots:=bc st.roots id (.live ⟨e,md,ver,[],xs++ys⟩) } a w'∧g'.rv id []=v':=by
 obtain⟨v',w',dM,UY,F7,sV,oq⟩:=qH (P:=P) (ty:=ty) hE hT BY hold.len hold.Rp gW.len gW.Rp gW.flat hold.fits hold.room hold.UZ hold.spot iC (c:=c2)
 rw[← gW.eq] at dM
 rcases oq with ⟨rfl,_,hn,hm,rfl⟩ | ⟨b,oo,gU,cs,el,rfl,hb,xH,xI,ll,bR,Rq⟩
 ·have hx:xs=[]:=List.eq_nil_of_length_eq_zero hn
  have hy:ys=[]:=List.eq_nil_of_length_eq_zero hm
  subst hx;subst hy
  obtain⟨g',h1,h2,h3⟩:=I.F8 (e:=e) (id:=id) (ver:=ver) (md:=md) (by simpa using ek) cI
  exact⟨_,_,g',dM,h1,by simpa using h2,h3⟩
 ·have me:=eN e
  have B0:fx w0 Mf g st b∧(∀ i j,¬G1 i j b)∧ ¬F b:=by
   rcases Rq with ⟨o',sH⟩ | rfl
   ·obtain⟨h1,h2⟩:=hold.free b o' sH
    exact⟨h1,h2,fun h=>(hF b h).2.2.1 o' b sH rfl⟩
   ·exact⟨I.BZ,fun i j h=>by have:=(hold.F9 i j _ h).2;omega,fun h=>by have:=(hF _ h).2.1;omega⟩
  let G:Nat→Nat→Nat→Prop:=fun i j k=>(i<xs.length∧G1 i j k)∨(xs.length≤i∧G2 (i-xs.length) j k)
  have hp:dS w (fun k=>g.ro k∨F k) (d1&&d2) e (xs++ys) cs oo G:=by
   refine⟨fun i y j c hy hc=> ?_,fun i j i' j' k h1 h2=> ?_⟩
   ·have hj:j<ao e:=by
     rw[← aS e y]
     rcases Nat.lt_or_ge j (enc e y).length with h' | h'
     ·exact h'
     ·simp[List.getElem?_eq_none h'] at hc
    by_cases hi:i<xs.length
    ·rw[List.getElem?_append_left hi] at hy
     obtain⟨u,hu,hr,ho⟩:=hold.rows i y j c hy hc
     have cc:i*ao e+j<ca.length:=by
      rcases Nat.lt_or_ge (i*ao e+j) ca.length with h' | h'
      ·exact h'
      ·simp[List.getElem?_eq_none h'] at hu
     refine⟨u,?_,hr.mono fun k hk=>hk.elim (fun h=> .inl (.inl ⟨hi,h⟩)) (fun h=> .inr (.inl h)),fun hd=> ?_⟩
     ·rw[Nat.add_assoc];exact ll _ u (by rw[List.getElem?_append_left cc];exact hu)
     ·simp only[Bool.and_eq_true] at hd
      have:=ho hd.1
      cases c with
      |v q=>exact this
      |l t zs=>obtain⟨f,h0,h1⟩:=this;exact⟨f,h0,h1.mono fun k hk=> .inl ⟨hi,hk⟩⟩
    ·rw[List.getElem?_append_right (by omega)] at hy
     obtain⟨u,hu,hr,ho⟩:=gW.rows (i-xs.length) y j c hy hc
     have cc:(i-xs.length)*ao e+j<news.length:=by
      rcases Nat.lt_or_ge ((i-xs.length)*ao e+j) news.length with h' | h'
      ·exact h'
      ·simp[List.getElem?_eq_none h'] at hu
     refine⟨u,?_,hr.mono fun k hk=>hk.elim (fun h=> .inr (.inr h)) (fun h=> .inr (.inl h)),fun hd=> ?_⟩
     ·have e1:i*ao e=xs.length*ao e+(i-xs.length)*ao e:=by rw[← Nat.add_mul];congr 1;omega
      rw[Nat.add_assoc]
      refine ll _ u ?_
      rw[List.getElem?_append_right (by rw[hold.len];omega),hold.len]
      rw[show i*ao e+j-xs.length*ao e=(i-xs.length)*ao e+j by omega]
      exact hu
     ·simp only[Bool.and_eq_true] at hd
      have:=ho hd.2
      cases c with
      |v q=>exact this
      |l t zs=>obtain⟨f,h0,h1⟩:=this;exact⟨f,h0,h1.mono fun k hk=> .inr ⟨by omega,hk⟩⟩
   ·rcases h1 with ⟨hi,h1⟩ | ⟨hi,h1⟩<;>rcases h2 with ⟨lf,h2⟩ | ⟨lf,h2⟩
    ·exact hold.PH _ _ _ _ k h1 h2
    ·exact ((hF k (gW.sub _ _ _ h2)).2.2.2 i j h1).elim
    ·exact ((hF k (gW.sub _ _ _ h1)).2.2.2 i' j' h2).elim
    ·obtain⟨h3,h4⟩:=gW.PH _ _ _ _ k h1 h2
     exact⟨by omega,h4⟩
  obtain⟨g',h1,h2,h3⟩:=I.build bR UY F7 sV hb B0.1 hp (fun i j k h=>by
    rcases h with ⟨hi,h⟩ | ⟨hi,h⟩
    ·exact⟨fun e=>B0.2.1 i j (e▸h),(hold.F9 i j k h).1,(hold.F9 i j k h).2⟩
    ·have hk:=gW.sub _ _ _ h
     exact⟨fun e=>B0.2.2 (e▸hk),(hF k hk).1,(hF k hk).2.1⟩)
   (fun k h=>⟨fun e=>B0.2.2 (e▸h),(hF k h).1,(hF k h).2.1⟩) (by simpa using xH) xI ek cI (fun h=>by simp[MM h])
  exact⟨_,w',g',dM,h1,h2,by simpa using h3⟩
theorem lr{id:Nat}{t:Ty}{md:Md}{xs:List (El t)}{k:cy→Option R}{r:R}(h:iQ st id t md xs k=some r):
    ∃ver,dI st id ⟨t,md,ver,[],xs⟩∧k ⟨t,md,ver,[],xs⟩=some r:=by
 unfold iQ at h
 split at h
 ·rename_i r' hn;obtain⟨_,h⟩:=bg h;exact⟨r'.ver+1,by unfold dI;rw[hn];simp,h⟩
 unfold mkRoot at h
 split at h
 ·rename_i hn;exact⟨0,by unfold dI;rw[hn];trivial,h⟩
 ·rename_i v hn;exact⟨v+1,by unfold dI;rw[hn];simp,h⟩
 ·cases h
theorem zH{id:Nat}{t:Ty}{md:Md}{xs:List (El t)}{k:cy→Option R}{r:R}(h:mkRoot st id t md xs k=some r):
    ∃ver,dI st id ⟨t,md,ver,[],xs⟩∧k ⟨t,md,ver,[],xs⟩=some r∧∀ro,ak st.roots id≠some (.live ro):=by
 unfold mkRoot at h
 split at h
 ·rename_i hn;exact⟨0,by unfold dI;rw[hn];trivial,h,fun ro=>by rw[hn];simp⟩
 ·rename_i v hn;exact⟨v+1,by unfold dI;rw[hn];simp,h,fun ro=>by rw[hn];simp⟩
 ·cases h
theorem Inv.pP{g':Gh}{w':World}{id:Nat}{r:cy}(I:Inv w0 Mf g' { st with roots:=bc st.roots id (.live r) } a w')(hl:r.log=[]){dst:Option Nat}(hd:∀d,dst=some d→d<g'.n.sz)(hf:cO (g'.rv id [])=true):
    Inv w0 Mf g' (({ st with roots:=bc st.roots id (.live r) }:St).apply { slot:=dst.map fun d=>(d,.c (.one (.h id r.ver 0 []))) }) (a.put dst (g'.rv id [])) w':=
  I.zz hd ⟨hf,by unfold cJ;simp only[bj];exact .inr ⟨trivial,Nat.zero_le _⟩,fun r' jf=>by
    have:=jf.1
    simp only[bj,Option.some.injEq,Rt.live.injEq,reduceCtorEq,or_false] at this
    subst this
    exact⟨rfl,by simp[aQ]⟩⟩
theorem lV{m:Md}{d:Bool}(h:(m.meet d).bF=true):m.bF=true∧d=true:=by
 cases m<;>cases d<;>simp_all [Md.meet,Md.bF]
theorem nj{m:Md}{d:Bool}(h:m.cq=false):(m.meet d).cq=false:=by
 cases m<;>cases d<;>simp_all [Md.meet,Md.cq]
theorem lW{m:Md}{d:Bool}(h:m.cU=false):(m.meet d).cU=false:=by
 cases m<;>cases d<;>simp_all [Md.meet,Md.cU]
theorem iS.free(I:Inv w0 Mf g st a w){aI:St}{fe:List (Nat×Rt)}{Fs:List (Nat→Prop)}(T:iS w g st aI fe Fs){F:Nat→Prop}(hF:F∈Fs){k:Nat}(hk:F k):fx w0 Mf g aI k∧k<w.heap.size:=by
 obtain⟨id,h1,h2⟩:=T.src F hF k hk
 exact⟨⟨fun aK h=>T.off F hF k hk aK h,I.apart.ew id k h1 h2,fun b hb e=>I.apart.rb id b h1 (by rw[T.eq] at hb;exact hb) (e▸h2),I.apart.cj id k h1 h2⟩,I.apart.er id k h1 h2⟩
theorem fm.free(I:Inv w0 Mf g st a w){rf:Nat→Nat→Prop}{aI:St}{fe:List (Nat×Rt)}{Fs:List (Nat→Prop)}(T:fm w g rf st aI fe Fs){F:Nat→Prop}(hF:F∈Fs){k:Nat}(hk:F k):fx w0 Mf (g.pE rf) aI k∧k<w.heap.size:=by
 obtain⟨id,h1,h2⟩:=T.src F hF k hk
 exact⟨⟨fun aK h=>T.off F hF k hk aK h,I.apart.ew id k h1 h2,fun b hb e=>I.apart.rb id b h1 (by rw[T.eq] at hb;exact hb) (e▸h2),I.apart.cj id k h1 h2⟩,I.apart.er id k h1 h2⟩
theorem fx.drop{id:Nat}{v:Nat}{n:Nat}(h:∀aK,aT st aK→aK≠id→ ¬g.rf aK n)(dh : ¬g.ro n)(hb:∀b,bz st b→g.bx b≠n)(hm:w0.heap.size≤n∨Mf n):
    fx w0 Mf g { st with roots:=bc st.roots id (.gone v) } n:=
 ⟨fun aK ⟨r',h1,h2⟩=>by
    simp only[aJ] at h1
    by_cases e:aK=id
    · simp[e] at h1
    · exact h aK ⟨r',by simpa [e] using h1,h2⟩ e,dh,hb,hm⟩
theorem Inv.PL(I:Inv w0 Mf g st a w){id:Nat}{e:Ty}{xs:List (El e)}{md:Md}{ver:Nat}{log:List Nat}(h:ak st.roots id=some (.live ⟨e,md,ver,log,xs⟩))(hm:md.cq=false)(Ya:md.cU=false):
    ∃sa cap ca G,g.rv id [] = .slice sa xs.length cap∧Old w0 w Mf g { st with roots:=bc st.roots id (.gone ver) } md.bF e xs sa cap ca G∧(∀ i j n,G i j n→g.rf id n)∧(∀ b o,sa=some ⟨b,o,none⟩→g.rf id b):=by
 have cH:aT st id:=⟨_,h,hm⟩
 have cK:∀n,g.rf id n→fx w0 Mf g { st with roots:=bc st.roots id (.gone ver) } n:=fun n hn=>
  fx.drop (fun aK h1 h2 h3=>h2 (I.apart.rr aK id n h1 cH h3 hn)) (I.apart.ew id n cH hn) (fun b hb e=>I.apart.rb id b cH hb (e▸hn)) (I.apart.cj id n cH hn)
 have hr:=I.roots id _ h
 -- the node itself
 have dz:bp w (g.rf id) e xs (g.rv id []) fun i j=>g.rv id [(i,j)]:=by
  unfold aX at hr
  split at hr
  ·exact hr.1 [] _ rfl
  ·exact hr.1
  ·rename_i cI;simp only at cI;simp[cI,Md.cq] at hm
  ·rename_i cI;simp only at cI;simp[cI,Md.cU] at Ya
 let G:Nat→Nat→Nat→Prop:=fun i j n=>md.bF=true∧eb e xs (g.rv id) [(i,j)] n
 have dp:∀i j n,G i j n→g.rf id n:=by
  intro i j n ⟨hd,q,s,h1,h2⟩
  unfold aX at hr
  split at hr
  ·exact (hr.1 _ s h1).k8 h2
  ·rename_i cI;simp only at cI;simp[cI,Md.bF] at hd
  ·rename_i cI;simp only at cI;simp[cI,Md.bF] at hd
  ·rename_i cI;simp only at cI;simp[cI,Md.bF] at hd
 have sW:∀i j i' j' n,G i j n→G i' j' n→i=i'∧j=j':=by
  intro i j i' j' n ⟨hd,q,s,h1,h2⟩ ⟨_,q',s',h3,h4⟩
  unfold aX at hr
  split at hr
  ·have:=hr.2 _ _ _ _ n h1 h3 h2 h4
   simp only[List.singleton_append,List.cons.injEq,Prod.mk.injEq] at this
   exact this.1
  ·rename_i cI;simp only at cI;simp[cI,Md.bF] at hd
  ·rename_i cI;simp only at cI;simp[cI,Md.bF] at hd
  ·rename_i cI;simp only at cI;simp[cI,Md.bF] at hd
 have Rr:∀{us:Array Value}{oo:Nat},RowsIn e xs us oo (fun i j=>g.rv id [(i,j)])→∀i x j c,xs[i]? =some x→(enc e x)[j]? =some c→
   ∃u,us[oo+i*ao e+j]? =some u∧lQ w (fun k=>G i j k∨g.ro k) c u∧(md.bF=true→fP w (G i j) c u):=by
  intro us oo db i x j c hx hc
  unfold aX at hr
  split at hr
  ·rename_i cI
   simp only at cI
   obtain⟨u,h1,h2,h3⟩:=(hr.pieces (ro:=g.ro) db).rows i x j c hx hc
   have hG:∀n,eb e xs (g.rv id) [(i,j)] n→G i j n:=fun n hn=>⟨by simp[cI,Md.bF],hn⟩
   refine⟨u,h1,h2.mono fun k hk=>hk.imp (hG k) (fun h=>h),fun _=> ?_⟩
   cases c with
   |v q=>exact h3 rfl
   |l t zs=>obtain⟨f,h0,h4⟩:=h3 rfl;exact⟨f,h0,h4.mono hG⟩
  ·rename_i cI
   simp only at cI
   obtain⟨u,h1,h2,h3⟩:=(hr.pieces db).rows i x j c hx hc
   exact⟨u,h1,h2.mono fun k hk=>hk.elim (fun h=>h.elim) .inr,fun h=>by simp[cI,Md.bF] at h⟩
  ·rename_i cI;simp only at cI;simp[cI,Md.cq] at hm
  ·rename_i cI;simp only at cI;simp[cI,Md.cU] at Ya
 rcases dz with ⟨rfl,hv⟩ | ⟨b,oo,cap,us,el,hv,Mq,hb,hle,dQ,db⟩
 ·exact⟨none,0,[],G,hv,⟨by simp,.inl rfl,Nat.le_refl _,fun b o h=>by simp at h,fun _=>rfl,fun ad h=>by simp at h,fun i x j c h=>by simp at h,sW,fun b o h=>by simp at h,
   fun i j n h=>⟨cK n (dp i j n h),I.apart.er id n cH (dp i j n h)⟩⟩,dp,fun b o h=>by simp at h⟩
 ·have hll:oo+xs.length*ao e≤us.size:=Nat.le_trans (Nat.add_le_add_left (Nat.mul_le_mul_right _ hle) _) dQ
  refine⟨some ⟨b,oo,none⟩,cap,(us.toList.drop oo).take (xs.length*ao e),G,hv,⟨by simp;omega,.inr ⟨b,oo,us,el,(0,0),rfl,hb,fun j v hj=> ?_⟩,hle,fun b' o' h=> ?_,fun h=>by simp at h,fun ad h=> ?_,
   fun i x j c hx hc=> ?_,sW,fun b' o' h=> ?_,fun i j n h=>⟨cK n (dp i j n h),I.apart.er id n cH (dp i j n h)⟩⟩,dp,fun b' o' h=> ?_⟩
  ·rw[List.getElem?_take] at hj
   split at hj
   ·rw[List.getElem?_drop] at hj;simpa using hj
   ·cases hj
  ·simp only[Option.some.injEq,Addr.mk.injEq,and_true] at h;obtain⟨rfl,rfl⟩:=h
   exact⟨us,el,hb,dQ⟩
  ·simp only[Option.some.injEq] at h;subst h;rfl
  ·obtain⟨u,h1,h2,h3⟩:=Rr db i x j c hx hc
   refine⟨u,?_,h2,h3⟩
   have hi:i<xs.length:=by
    rcases Nat.lt_or_ge i xs.length with h' | h'
    ·exact h'
    ·simp[List.getElem?_eq_none h'] at hx
   have hj:j<ao e:=by
    rw[← aS e x]
    rcases Nat.lt_or_ge j (enc e x).length with h' | h'
    ·exact h'
    ·simp[List.getElem?_eq_none h'] at hc
   have:i*ao e+j<xs.length*ao e:=by
    have:(i+1)*ao e≤xs.length*ao e:=Nat.mul_le_mul_right _ hi
    rw[Nat.add_mul] at this;omega
   rw[List.getElem?_take,if_pos this,List.getElem?_drop]
   simpa [Nat.add_assoc] using h1
  ·simp only[Option.some.injEq,Addr.mk.injEq,and_true] at h;obtain⟨rfl,rfl⟩:=h
   refine⟨cK b Mq,fun i j hG=> ?_⟩
   obtain⟨hd,q,s,h1,h2⟩:=hG
   unfold aX at hr
   split at hr
   ·have:=hr.2 _ [] s ⟨e,xs⟩ b h1 rfl h2 (by rw[hv];rfl)
    simp at this
   ·rename_i cI;simp only at cI;simp[cI,Md.bF] at hd
   ·rename_i cI;simp only at cI;simp[cI,Md.bF] at hd
   ·rename_i cI;simp only at cI;simp[cI,Md.bF] at hd
  ·simp only[Option.some.injEq,Addr.mk.injEq,and_true] at h;obtain⟨rfl,rfl⟩:=h
   exact Mq
theorem Inv.zI(I:Inv w0 Mf g st a w){id:Nat}{r:cy}(h:ak st.roots id=some (.live r)):cO (g.rv id [])=true:=by
 exact I.xx h (p:=[]) (s:=⟨r.t,r.xs⟩) rfl
theorem Ga(hE:E.Ok P)(I:Inv w0 Mf g st a w)(hd:∀d,o.dst=some d→d<g.n.sz)(hK:Then w0 Mf g st k r K){c:Call}(bZ:o.op = .call c)(Gb:c.callee = .builtin .append)
 (h:eQ E o st k=some r):o.wp P a w K Q:=by
 simp only[eQ,bZ,Gb,eP] at h
 split at h
 case h_2=>cases h
 rename_i s x T T' fZ FY
 have hI:c.args = #[s,x]:=by apply Array.ext';simpa using fZ
 have xE:c.argTypes = #[T,T']:=by apply Array.ext';simpa using FY
 have key:∀v w',(Builtin.append_ #[T,T'] o.type #[a.eval s,a.eval x]).run P w = .ok v w'→(execOp a.eval o).run P w = .ok (.value v) w':=by
  intro v w' hv
  simp[execOp,bZ,resolve,Gb,invoke,builtin,hI,xE,hv]
 replace h:=aR h;obtain⟨e',DI,h⟩:=h
 have BY:=fK DI
 replace h:=I.fu h;obtain⟨cs,h,fc⟩:=h
 replace h:=I.fu h;obtain⟨cx,h,YR⟩:=h
 unfold j6 at h
 split at h
 case h_2=>cases h
 rename_i e hT
 split at h
 ·-- onto nil
  replace h:=I.jv h YR;obtain⟨ys,d,aI,fe,F,rf,xa,cap,news,G,h,I',TK,gW⟩:=h
  replace h:=bg h;obtain⟨iC,h⟩:=h
  replace h:=lr h;obtain⟨ver,ek,h⟩:=h
  have hs:=fc.2;simp only[jZ] at hs
  have hold:Old w0 w Mf (g.pE rf) aI true e ([]:List (El e)) none 0 [] (fun _ _ _=>False):=
   ⟨by simp,.inl rfl,Nat.le_refl _,fun b o h=>by simp at h,fun _=>rfl,fun ad h=>by simp at h,fun i x j c h=>by simp at h,fun _ _ _ _ _ h=>h.elim,fun b o h=>by simp at h,fun _ _ _ h=>h.elim⟩
  obtain⟨v',w',g',dM,hn,I2,hv⟩:=I'.appendCore (ty:=o.type) hE hT BY hold gW
   (fun k hk=>⟨(TK.free I (by simp) hk).1,(TK.free I (by simp) hk).2,fun o b h=>by simp at h,fun _ _ h=>h⟩) (by have:=gT iC;simpa using this) (id:=64*o.dst.getD 0) (ver:=ver) (md:=Md.deep.meet d)
   (by simpa using ek) ⟨nj rfl,lW rfl⟩ (fun h=>⟨rfl,(lV h).2⟩)
  refine lk (key v' w' (by rw[hs];exact dM)) (hK _ g' _ _ h hn ?_)
  have j3:=I2.zI (id:=64*o.dst.getD 0) (bj _ _ _)
  have:=I2.pP rfl (dst:=o.dst) (fun d h=>by rw[hn];exact hd d h) j3
  rw[hv] at this
  have ix:=TK.eq
  subst ix
  simpa [St.apply,bh,ck] using this
 ·-- onto an own list
  rename_i id ver iv
  replace h:=I.jv h YR;obtain⟨ys,d,aI,fe,F,rf,xa,cap,news,G,h,I',TK,gW⟩:=h
  replace h:=dg h;obtain⟨ro,eh,fJ,h⟩:=h
  obtain⟨sJ,DJ,h⟩:ro.md.cq=false∧ro.md.cU=false∧_:=by
   cases sJ:ro.md.cq
   case true=>simp[sJ] at h
   cases DJ:ro.md.cU
   case true=>simp[sJ,DJ] at h
   simp only[sJ,DJ,Bool.or_self,cond_false] at h
   exact⟨rfl,rfl,h⟩
  replace h:=aR h;obtain⟨xs,pO,h⟩:=h
  replace h:=bg h;obtain⟨iC,h⟩:=h
  obtain⟨t,md,Gc,log,xs0⟩:=ro
  have:=cY pO
  simp only[enc,List.cons.injEq,and_true,Cv.l.injEq] at this
  obtain⟨rfl,Ur⟩:=this
  have Ur:=eq_of_heq Ur
  subst Ur
  simp only at fJ sJ DJ
  subst fJ
  have Rs:=(TK.map _ _ fc).rf rf
  obtain⟨hu,_⟩:=Rs.2.2 _ ⟨.inl eh,rfl,fY _ _⟩
  obtain⟨sa,YS,ca,G1,PN,hold,PO,Ru⟩:=I'.PL eh sJ DJ
  have I'':=I'.drop eh
  have zJ:∀n,F n→fx w0 Mf (g.pE rf) { aI with roots:=bc aI.roots id (.gone Gc) } n∧n<w.heap.size∧(∀ o b,sa=some ⟨b,o,none⟩→n≠b)∧∀i j,¬G1 i j n:=by
   intro n hn
   obtain⟨hf,cc⟩:=TK.free I (by simp) hn
   have ju:=TK.off F (by simp) n hn id ⟨_,eh,sJ⟩
   exact⟨fx.drop (fun aK h1 _=>hf.r aK h1) hf.ro hf.b hf.fV,cc,fun o b h e=>ju (e▸Ru b o h),fun i j h=>ju (PO i j n h)⟩
  obtain⟨v',w',g',dM,hn,I2,hv⟩:=I''.appendCore (ty:=o.type) hE hT BY hold gW zJ (gT iC) (id:=id) (ver:=Gc+1) (md:=md.meet d)
   (by unfold dI;simp[bj]) ⟨nj sJ,lW DJ⟩ lV
  refine lk (key v' w' (by rw[hu,PN];exact dM)) (hK _ g' _ _ h hn ?_)
  have j3:=I2.zI (id:=id) (bj _ _ _)
  have:=I2.pP rfl (dst:=o.dst) (fun d h=>by rw[hn];exact hd d h) j3
  rw[hv] at this
  have ix:=TK.eq
  subst ix
  simp only[tF] at this
  simpa [St.apply,bh,ck] using this
 ·-- onto a list within an own one
  rename_i id ver iv p Yb
  have PK:p≠[]:=Yb
  replace h:=I.jv h YR;obtain⟨ys,d,aI,fe,F,rf,xa,cap,news,G,h,I',TK,gW⟩:=h
  replace h:=de h;obtain⟨ro,dh,h⟩:=h
  replace h:=bg h;obtain⟨o3,h⟩:=h
  have cI:ro.md = .deep:=by cases hq:ro.md<;>simp_all [Md.bF]
  replace h:=aR h;obtain⟨s1,mo,h⟩:=h
  replace h:=aR h;obtain⟨xs,pO,h⟩:=h
  replace h:=bg h;obtain⟨iC,h⟩:=h
  replace h:=zH h;obtain⟨vd,ek,h,PQ⟩:=h
  have dP:64*o.dst.getD 0≠id:=fun e=>PQ ro (by rw[e];exact dh.1)
  obtain⟨t1,Yc⟩:=s1
  have:=cY pO
  simp only[enc,List.cons.injEq,and_true,Cv.l.injEq] at this
  obtain⟨e1,e2⟩:=this
  subst e1
  have e2:=eq_of_heq e2
  subst e2
  have Rs:=(TK.map _ _ fc).rf rf
  obtain⟨hu,je⟩:=Rs.2.2 ro dh.x
  obtain⟨s',eZ⟩:=Option.isSome_iff_exists.1 je
  have:=cV eZ
  rw[mo] at this;cases this
  obtain⟨g2,n1,n2,_,n4,I2,dO⟩:=I'.Ro dh.1 cI PK eZ dP ek
  obtain⟨sa,YS,ca,G1,PN,hold,PO,Ru⟩:=I2.PL (bj _ _ _) rfl rfl
  have I3:=I2.drop (bj _ _ _)
  have ju:∀n,F n→∀i,aT { aI with roots:=bc (bc aI.roots id (.live ⟨ro.t,.part (.hole p),ro.ver,ro.log,ro.xs⟩)) (64*o.dst.getD 0) (.live ⟨t1,.deep,vd,[],Yc⟩) } i→ ¬g2.rf i n:=fun n hn i hi hr=>by
   obtain⟨i0,h1,h2⟩:=dO i n hi hr
   exact (TK.free I (by simp) hn).1.r i0 h1 h2
  have U0:aT { aI with roots:=bc (bc aI.roots id (.live ⟨ro.t,.part (.hole p),ro.ver,ro.log,ro.xs⟩)) (64*o.dst.getD 0) (.live ⟨t1,.deep,vd,[],Yc⟩) } (64*o.dst.getD 0):=⟨_,bj _ _ _,rfl⟩
  have zJ:∀n,F n→fx w0 Mf g2 { aI with roots:=bc (bc (bc aI.roots id (.live ⟨ro.t,.part (.hole p),ro.ver,ro.log,ro.xs⟩)) (64*o.dst.getD 0) (.live ⟨t1,.deep,vd,[],Yc⟩)) (64*o.dst.getD 0) (.gone vd) } n∧n<w.heap.size∧(∀ o b,sa=some ⟨b,o,none⟩→n≠b)∧∀i j,¬G1 i j n:=by
   intro n hn
   obtain⟨hf,cc⟩:=TK.free I (by simp) hn
   refine⟨fx.drop (st:={ aI with roots:=bc (bc aI.roots id (.live ⟨ro.t,.part (.hole p),ro.ver,ro.log,ro.xs⟩)) (64*o.dst.getD 0) (.live ⟨t1,.deep,vd,[],Yc⟩) }) (fun i h1 _=>ju n hn i h1) ?_ (fun b hb=> ?_) hf.fV,cc,fun o b h e=>ju n hn _ U0 (e▸Ru b o h),fun i j h=>ju n hn _ U0 (PO i j n h)⟩
   ·rw[n2];exact hf.ro
   ·rw[‹∀ b,g2.bx b=_› b];exact hf.b b hb
  rw[n4] at PN
  obtain⟨v',w',g',dM,hn,I4,hv⟩:=I3.appendCore (ty:=o.type) hE hT BY hold (by rw[n2];exact gW) zJ (gT iC) (id:=64*o.dst.getD 0) (ver:=vd+1) (md:=Md.deep.meet d)
   (by unfold dI;simp[bj]) ⟨nj rfl,lW rfl⟩ lV
  have YT:g'.n=g.n:=hn.trans n1
  refine lk (key v' w' (by rw[hu,PN];exact dM)) (hK _ g' _ _ h YT ?_)
  have j3:=I4.zI (id:=64*o.dst.getD 0) (bj _ _ _)
  have:=I4.pP rfl (dst:=o.dst) (fun d h=>by rw[YT];exact hd d h) j3
  rw[hv] at this
  have ix:=TK.eq
  subst ix
  simp only[tF] at this
  simpa [St.apply,bh,ck] using this
 ·cases h
theorem ve(off:Nat):∀(l:List Value)(n:Nat)(cells:Array Value),off+n+l.length≤cells.size→
 ((l.zipIdx n).foldl (fun cs (p:Value×Nat)=>cs.setIfInBounds (off+p.2) p.1) cells).size=cells.size∧
    ∀m,((l.zipIdx n).foldl (fun cs (p:Value×Nat)=>cs.setIfInBounds (off+p.2) p.1) cells)[m]? =if off+n≤m∧m<off+n+l.length then l[m-(off+n)]? else cells[m]?
 | [],n,cells,h=>⟨rfl,fun m=>by rw[if_neg (by simp)];rfl⟩
 |v::l,n,cells,h=>by
  simp only[List.length_cons] at h
  obtain⟨h1,h2⟩:=ve off l (n+1) (cells.setIfInBounds (off+n) v) (by simp;omega)
  simp only[List.zipIdx_cons,List.foldl_cons]
  refine⟨by rw[h1];simp,fun m=> ?_⟩
  rw[h2 m]
  by_cases hm:m=off+n
  ·subst hm
   rw[if_neg (by omega),if_pos (by simp),Array.getElem?_setIfInBounds_self_of_lt (by omega)]
   simp
  ·by_cases hr:off+n≤m∧m<off+n+(v::l).length
   ·simp only[List.length_cons] at hr
    rw[if_pos (by omega),if_pos (by simp;omega)]
    rw[show m-(off+n)=(m-(off+(n+1)))+1 by omega,List.getElem?_cons_succ]
   ·simp only[List.length_cons] at hr
    rw[if_neg (by omega),if_neg (by simp;omega),Array.getElem?_setIfInBounds_ne (by omega)]
def putAt(cells:Array Value)(off:Nat)(vs:Array Value):Array Value:=vs.zipIdx.foldl (fun cs (p:Value×Nat)=>cs.setIfInBounds (off+p.2) p.1) cells
theorem cF{cells:Array Value}{off:Nat}{vs:Array Value}(h:off+vs.size≤cells.size):(putAt cells off vs).size=cells.size:=by
 have:=(ve off vs.toList 0 cells (by simpa using h)).1
 unfold putAt
 rw[← Array.foldl_toList,Array.toList_zipIdx]
 exact this
theorem eU{cells:Array Value}{off:Nat}{vs:Array Value}(h:off+vs.size≤cells.size)(m:Nat):(putAt cells off vs)[m]? =if off≤m∧m<off+vs.size then vs[m-off]? else cells[m]? :=by
 have:=(ve off vs.toList 0 cells (by simpa using h)).2 m
 unfold putAt
 rw[← Array.foldl_toList,Array.toList_zipIdx]
 simpa using this
theorem tH{place:Nat→Option (Nat×Nat)}{cells:Array Value}{i off:Nat}{v:Value}{rest:List (Nat×Value)}(hp:place i=some (off,v.cells.size))(h:off+v.cells.size≤cells.size):
    Instr.fill place cells ((i,v)::rest)=Instr.fill place (putAt cells off v.cells) rest:=by
 simp only[Instr.fill,hp]
 rw[if_neg (by simp;omega)]
 rfl
theorem Gd{t:Ty}{j:Nat}{t':Ty}{ys:List (El t')}(h:(enc t (zero t))[j]? =some (.l t' ys)):ys=[]:=by
 have key:(enc t (zero t)).all (fun c=>match c with | .v _=>true | .l _ ys=>ys.isEmpty)=true:=by cases t<;>rfl
 have:=List.all_eq_true.1 key _ (List.mem_of_getElem? h)
 simpa using this
theorem vf(w:World)(F:Nat→Prop)(t:Ty):gX w F t [] (.slice none 0 0):=
 ⟨fun _=> .slice none 0 0,rfl,fun p s hs=>by
      cases p with
      |nil=>simp only[aQ,Option.some.injEq] at hs;subst hs;exact .inl ⟨rfl,rfl⟩
      |cons ij p=>simp[aQ] at hs,
    fun p q s s' b _ _ h _=>by simp[j8] at h⟩
theorem fP.rd{F:Nat→Prop}{c:Cv}{u:Value}(h:fP w F c u):lQ w F c u:=by
 cases c with
 |v x=>exact h
 |l t ys=>obtain⟨av,h0,h1⟩:=h;exact⟨av,h0,h1.rd⟩
theorem fP.mono{F G:Nat→Prop}(YU:∀k,F k→G k){c:Cv}{u:Value}(h:fP w F c u):fP w G c u:=by
 cases c with
 |v x=>exact h
 |l t ys=>obtain⟨av,h0,h1⟩:=h;exact⟨av,h0,h1.mono YU⟩
def pF(t:Ty)(n:Nat):Array Value:=(Array.range (n*ao t)).map fun i=>(dY t).getD (i%ao t) (.bool false)
theorem ot(t:Ty)(n:Nat):(pF t n).size=n*ao t:=by simp[pF]
theorem o4(w:World)(ro:Nat→Prop)(t:Ty)(n:Nat):dS w ro true t (List.replicate n (zero t)) (pF t n) 0 (fun _ _ _=>False):=by
 refine⟨fun i x j c hx hc=> ?_,fun _ _ _ _ _ h=>h.elim⟩
 have hi:i<n:=by
  rcases Nat.lt_or_ge i n with h' | h'
  ·exact h'
  ·rw[List.getElem?_eq_none (by simpa using h')] at hx;cases hx
 simp only[List.getElem?_replicate,hi,if_true,Option.some.injEq] at hx
 subst hx
 have hj:j<ao t:=by
  rw[← aS t (zero t)]
  rcases Nat.lt_or_ge j (enc t (zero t)).length with h' | h'
  ·exact h'
  ·simp[List.getElem?_eq_none h'] at hc
 have cc:i*ao t+j<n*ao t:=by
  have:(i+1)*ao t≤n*ao t:=Nat.mul_le_mul_right _ hi
  rw[Nat.add_mul] at this;omega
 have Rv:(i*ao t+j)%ao t=j:=by rw[Nat.mul_comm,Nat.mul_add_mod,Nat.mod_eq_of_lt hj]
 have hz:(pF t n)[0+i*ao t+j]? =some ((dY t).getD j (.bool false)):=by
  rw[Nat.zero_add]
  simp only[pF,Array.getElem?_map]
  rw[Array.getElem?_eq_getElem (by simpa using cc)]
  simp[Rv]
 refine⟨_,hz,?_⟩
 cases c with
 |v x=>
  have Yd:(dY t).getD j (.bool false)=x:=by simp only[dY,List.getD,List.getElem?_map,hc,Option.map_some,Option.getD_some]
  exact⟨Yd,fun _=>Yd⟩
 |l t' ys=>
  have:=Gd hc
  subst this
  have Yd:(dY t).getD j (.bool false) = .slice none 0 0:=by simp only[dY,List.getD,List.getElem?_map,hc,Option.map_some,Option.getD_some]
  rw[Yd]
  have dO:fP w (fun _=>False) (.l t' []) (.slice none 0 0):=vf w _ t'
  exact⟨dO.rd.mono fun _ h=>h.elim,fun _=>dO⟩
theorem MP{k:Nat}: ¬Any [] k:=fun ⟨_,h,_⟩=>by simp at h
theorem kG{Fs Gs:List (Nat→Prop)}{k:Nat}:Any (Fs++Gs) k↔Any Fs k∨Any Gs k:=by
 simp only[Any,List.mem_append]
 constructor
 ·rintro⟨F,h | h,hk⟩
  ·exact .inl ⟨F,h,hk⟩
  ·exact .inr ⟨F,h,hk⟩
 ·rintro (⟨F,h,hk⟩ | ⟨F,h,hk⟩)
  ·exact⟨F,.inl h,hk⟩
  ·exact⟨F,.inr h,hk⟩
theorem Inv.tw(I:Inv w0 Mf g st a w){t:Ty}{s:Sv}{k:El t→Bool→St→List (Nat×Rt)→Option R}{r:R}{u:Value}(h:tw st t s k=some r)(hs:dX w g st s u):
    ∃x us d aI fe Fs,k x d aI fe=some r∧Form t u us∧Inv w0 Mf g aI a w∧iS w g st aI fe Fs∧kE w g.ro (enc t x) us.toList Fs d:=by
 obtain⟨cs,fc,h⟩:=aR h
 obtain⟨us,hf,hc⟩:=dr fc hs
 obtain⟨cv,d,aI,fe,Fs,h1,I',T,hA⟩:=I.mE h hc.l
 obtain⟨x,hx,h3⟩:=aR h1
 have m8:=cY hx
 subst m8
 exact⟨x,us,d,aI,fe,Fs,h3,hf,I',T,hA⟩
theorem Inv.oh(I:Inv w0 Mf g st a w){t:Ty}{s:Sv}{k:El t→Bool→St→List (Nat×Rt)→Option R}{r:R}{u:Value}(h:oh st t s k=some r)(hs:dX w g st s u):
    ∃x us d aI fe Fs rf,k x d aI fe=some r∧Form t u us∧Inv w0 Mf (g.pE rf) aI a w∧fm w g rf st aI fe Fs∧kE w g.ro (enc t x) us.toList Fs d:=by
 obtain⟨cs,fc,h⟩:=aR h
 obtain⟨us,hf,hc⟩:=dr fc hs
 obtain⟨cv,d,aI,fe,Fs,rf,h1,I',T,hA⟩:=I.oX h hc.l
 obtain⟨x,hx,h3⟩:=aR h1
 have m8:=cY hx
 subst m8
 exact⟨x,us,d,aI,fe,Fs,rf,h3,hf,I',T,hA⟩
theorem hQ{t:Ty}{x:El t}{j:Nat}{c:Cv}(h:(enc t x)[j]? =some c):j<ao t:=by
 rw[← aS t x]
 rcases Nat.lt_or_ge j (enc t x).length with h' | h'
 ·exact h'
 ·simp[List.getElem?_eq_none h'] at h
theorem jA{α:Type}{xs:List α}{i:Nat}{x:α}(h:xs[i]? =some x):i<xs.length:=by
 rcases Nat.lt_or_ge i xs.length with h' | h'
 ·exact h'
 ·simp[List.getElem?_eq_none h'] at h
theorem dS.put{ro gr:Nat→Prop}{dd d:Bool}{e:Ty}{xs:List (El e)}{cs:Array Value}{o:Nat}{G:Nat→Nat→Nat→Prop}{Fs Gs:List (Nat→Prop)}(hp:dS w (fun k=>ro k∨Any Fs k) dd e xs cs o G)
 (hG:∀i j k,G i j k→Any Fs k) {y:El e} {vs:List Value} (hA:kE w gr (enc e y) vs Gs d) (dh:∀k,gr k→ro k) (qL:bH (Fs++Gs)) {i:Nat} (hi:i<xs.length) (dQ:o+xs.length*ao e≤cs.size):
    ∃G',dS w (fun k=>ro k∨Any (Fs++Gs) k) (dd&&d) e (xs.set i y) (putAt cs (o+i*ao e) vs.toArray) o G'∧∀i j k,G' i j k→Any (Fs++Gs) k:=by
 have hlen:vs.length=ao e:=by rw[hA.len.1,aS]
 have hmul:i*ao e+ao e≤xs.length*ao e:=by
  have:(i+1)*ao e≤xs.length*ao e:=Nat.mul_le_mul_right _ hi
  rw[Nat.add_mul] at this;omega
 have jP:=fun m=>eU (cells:=cs) (off:=o+i*ao e) (vs:=vs.toArray) (by simp[hlen];omega) m
 have fy:=hA.rd
 let G':Nat→Nat→Nat→Prop:=fun i' j k=>(i'=i∧∃F,Gs[j]? =some F∧F k)∨(i'≠i∧G i' j k)
 have mf:∀i j k,G' i j k→Any (Fs++Gs) k:=by
  rintro i' j k (⟨rfl,F,h1,h2⟩ | ⟨_,h⟩)
  ·exact kG.2 (.inr ⟨F,List.mem_of_getElem? h1,h2⟩)
  ·exact kG.2 (.inl (hG _ _ _ h))
 refine⟨G',⟨fun i' x j c hx hc=> ?_,?_⟩,mf⟩
 ·have hj:=hQ hc
  by_cases nc:i'=i
  ·subst nc
   rw[List.getElem?_set_self hi] at hx
   cases hx
   obtain⟨z,hz,hr⟩:=fy.get j c hc
   refine⟨z,?_,hr.mono fun k hk=> ?_,fun hd=> ?_⟩
   ·rw[jP,if_pos (by simp[hlen];omega),show o+i'*ao e+j-(o+i'*ao e)=j by omega]
    simpa using hz
   ·rcases hk with hk | hk
    ·exact .inr (.inr (kG.2 (.inr hk)))
    ·exact .inr (.inl (dh k hk))
   ·simp only[Bool.and_eq_true] at hd
    obtain⟨z',F,h1,h2,h3⟩:=hA.own hd.2 j c hc
    rw[hz] at h1;cases h1
    exact h3.mono fun k hk=> .inl ⟨rfl,F,h2,hk⟩
  ·rw[List.getElem?_set_ne (Ne.symm nc)] at hx
   obtain⟨z,hz,hr,ho⟩:=hp.rows i' x j c hx hc
   refine⟨z,?_,hr.mono fun k hk=> ?_,fun hd=> ?_⟩
   ·rw[jP,if_neg ?_]
    ·exact hz
    ·simp only[List.size_toArray,hlen]
     rcases Nat.lt_or_gt_of_ne nc with cc | cc
     ·have:(i'+1)*ao e≤i*ao e:=Nat.mul_le_mul_right _ cc
      rw[Nat.add_mul] at this;omega
     ·have:(i+1)*ao e≤i'*ao e:=Nat.mul_le_mul_right _ cc
      rw[Nat.add_mul] at this;omega
   ·rcases hk with hk | hk | hk
    ·exact .inl (.inr ⟨nc,hk⟩)
    ·exact .inr (.inl hk)
    ·exact .inr (.inr (kG.2 (.inl hk)))
   ·simp only[Bool.and_eq_true] at hd
    exact (ho hd.1).mono fun k hk=> .inr ⟨nc,hk⟩
 ·have hx:∀k,Any Fs k→Any Gs k→False:=fun k ⟨F,hF,h1⟩ ⟨F',Rn,h2⟩=>(List.pairwise_append.1 qL).2.2 F hF F' Rn k h1 h2
  rintro i1 j1 i2 j2 k (⟨rfl,F,h1,h2⟩ | ⟨hn,h⟩) (⟨rfl,F',sI,BV⟩ | ⟨Mj,h'⟩)
  ·refine⟨rfl,?_⟩
   have PR:=List.pairwise_iff_getElem.1 (List.pairwise_append.1 qL).2.1
   obtain⟨hj,rfl⟩:=List.getElem?_eq_some_iff.1 h1
   obtain⟨sR,rfl⟩:=List.getElem?_eq_some_iff.1 sI
   rcases Nat.lt_trichotomy j1 j2 with cc | heq | cc
   ·exact (PR j1 j2 hj sR cc k h2 BV).elim
   ·exact heq
   ·exact (PR j2 j1 sR hj cc k BV h2).elim
  ·exact (hx k (hG _ _ _ h') ⟨F,List.mem_of_getElem? h1,h2⟩).elim
  ·exact (hx k (hG _ _ _ h) ⟨F',List.mem_of_getElem? sI,BV⟩).elim
  ·exact hp.PH _ _ _ _ k h h'
theorem Inv.iw{g:Gh}{st0:St}{e:Ty}:∀{ps:List (Nat×Operand)}{rf:Nat→Nat→Prop}{st:St}{fe:List (Nat×Rt)}{Fs:List (Nat→Prop)}{xs:List (El e)}{cs:Array Value}{G:Nat→Nat→Nat→Prop}{dd:Bool}
    {k:List (El e)→Bool→St→List (Nat×Rt)→Option R} {r:R},Inv w0 Mf (g.pE rf) st a w→fm w g rf st0 st fe Fs→dS w (fun k=>g.ro k∨Any Fs k) dd e xs cs 0 G→(∀ i j k,G i j k→Any Fs k)→
    cs.size=xs.length*ao e→iw e st ps xs k=some r→
    ∃ys d aI U1 Us m0 G' Up,k ys d aI U1=some r∧Inv w0 Mf (g.pE Up) aI a w∧fm w g Up st0 aI (fe++U1) Us∧dS w (fun k=>g.ro k∨Any Us k) (dd&&d) e ys m0 0 G'∧(∀ i j k,G' i j k→Any Us k)∧
      m0.size=cs.size∧ys.length=xs.length∧Instr.fill (fun i=>some (i*ao e,ao e)) cs (ps.map fun p=>(p.1,a.eval p.2))=some m0
  | [],rf,st,fe,Fs,xs,cs,G,dd,k,r,I,T,hp,hG,dQ,h=>⟨xs,true,st,[],Fs,cs,G,rf,h,I,by simpa using T,by simpa using hp,hG,rfl,rfl,rfl⟩
  | (i,x)::ps,rf,st,fe,Fs,xs,cs,G,dd,k,r,I,T,hp,hG,dQ,h=>by
    simp only[Gm.iw] at h
    obtain⟨s,h,hs⟩:=I.dq h
    obtain⟨y,us,d,s1,u1,Gs,rf1,h,hf,I1,T1,hA⟩:=I.oh h hs
    obtain⟨hi,h⟩:=bg h
    have hi:i<xs.length:=Nat.lt_of_succ_le (gT hi)
    have T2:=T.trans T1
    obtain⟨G1,xJ,PO⟩:=hp.put hG hA (fun _ h=>h) T2.apart hi (by omega)
    have oZ:us.size=ao e:=by
      have:=hA.len.1
      rw[aS] at this;simpa using this
    have hmul:i*ao e+ao e≤xs.length*ao e:=by
      have:(i+1)*ao e≤xs.length*ao e:=Nat.mul_le_mul_right _ hi
      rw[Nat.add_mul] at this;omega
    have iP:=hf.cells
    obtain⟨ys,d',aI,u',Us,m0,G',Up,h1,h2,h3,h4,h5,h6,h7,h8⟩:=Inv.iw (g:=g) (rf:=rf1) I1 T2 xJ PO (by rw[cF (by simp[oZ];omega)];simpa using dQ) h
    refine⟨ys,d&&d',aI,u1++u',Us,m0,G',Up,h1,h2,by rw[← List.append_assoc];exact h3,by rw[← Bool.and_assoc];exact h4,h5,?_,by simpa using h7,?_⟩
    · rw[h6,cF (by simp[oZ];omega)]
    · simp only[List.map_cons]
      rw[tH (off:=i*ao e) (by rw[iP,oZ]) (by rw[iP,oZ];omega)]
      simpa [iP] using h8
theorem kH{T:Nat}{cs:Array Value}(w:World):(newRow T cs).run P w = .ok ⟨w.heap.size,0,none⟩ (ga w (.cells cs T)):=by
 simp[newRow,ga]
theorem Inv.B1{rf:Nat→Nat→Prop}{st0:St}(I0:Inv w0 Mf g st0 a w)(I:Inv w0 Mf (g.pE rf) st a w){fe:List (Nat×Rt)}{Fs:List (Nat→Prop)}(T:fm w g rf st0 st fe Fs){e:Ty}{xs:List (El e)}{cs:Array Value}{G:Nat→Nat→Nat→Prop}{d:Bool}
 (hp:dS w (fun k=>g.ro k∨Any Fs k) d e xs cs 0 G) (hG:∀i j k,G i j k→Any Fs k) (dQ:cs.size=xs.length*ao e) {el id ver:Nat} {md:Md} (ek:dI st id ⟨e,md,ver,[],xs⟩) (cI:md.cq=false∧md.cU=false)
 (MM:md.bF=true→d=true) {dst:Option Nat} (hd:∀d,dst=some d→d<g.n.sz):
    ∃g':Gh,g'.n=g.n∧Inv w0 Mf g' (({ st with roots:=bc st.roots id (.live ⟨e,md,ver,[],xs⟩) }:St).apply { slot:=dst.map fun d=>(d,.c (.one (.h id ver 0 []))) })
 (a.put dst (.slice (some ⟨w.heap.size,0,none⟩) xs.length xs.length)) (ga w (.cells cs el)):=by
 have hs:bw (fun k=>k=w.heap.size) w (ga w (.cells cs el)):=⟨(kb w _).1,fun b h _=>(kb w (.cells cs el)).2 b h (fun h=>h)⟩
 have B2:∀k,Any Fs k→k≠w.heap.size∧fx w0 Mf (g.pE rf) st k∧k<w.heap.size:=fun k ⟨F,hF,hk⟩=>by
  obtain⟨h1,h2⟩:=T.free I0 hF hk
  exact⟨by omega,h1,h2⟩
 obtain⟨g',h1,h2,h3⟩:=I.build (w':=ga w (.cells cs el)) (b:=w.heap.size) (o:=0) (cap:=xs.length) (el:=el) (cs:=cs) hs rfl rfl rfl (xF _ _) I.BZ hp (fun i j k h=>B2 k (hG i j k h)) B2 (Nat.le_refl _)
  (by omega) ek cI MM
 refine⟨g',h1,?_⟩
 have:=h2.pP rfl (dst:=dst) (fun d h=>by rw[h1];exact hd d h) (by rw[h3];rfl)
 rw[h3] at this
 exact this
theorem B3{zv:Array Value}{t:Ty}(h:zv=(dY t).toArray)(n:Nat):(Array.range (n*ao t)).map (fun i=>(if n*ao t=0 then #[] else zv)[i%(if n*ao t=0 then (#[]:Array Value) else zv).size]!)=pF t n:=by
 subst h
 by_cases hn:n*ao t=0
 ·simp[pF,hn]
 ·simp only[hn,if_false,pF]
  apply Array.ext
  ·simp
  ·intro i h1 h2
   simp only[Array.getElem_map,Array.getElem_range]
   have hl:(dY t).length=ao t:=by simp[dY,aS]
   have cc:i%ao t<(dY t).length:=by rw[hl];exact Nat.mod_lt _ (eN t)
   simp[hl,List.getD,List.getElem?_eq_getElem cc]
theorem qM{T n el:Nat}{e:Ty}{zv:Value}{cs:Array Value}{parts:Array (Nat×Value)}(hu:P.underlying T=some (.slice el))(hs:(sizeOf el).run P w = .ok (ao e) w)
 (hz:(zeroValue el).run P w = .ok zv w) (qG:zv.cells=(dY e).toArray) (iC:n*ao e≤16777216)
 (o5:Instr.fill (fun i=>some (i*ao e,ao e)) (pF e n) parts.toList=some cs):(Instr.buildSlice T n parts).run P w = .ok (.slice (some ⟨w.heap.size,0,none⟩) n n) (ga w (.cells cs el)):=by
 have U2 : ¬(2^24<n*ao e):=by omega
 have MQ:=B3 qG n
 by_cases F4:n*ao e=0
 ·simp only[F4,if_true] at MQ
  rw[← MQ] at o5
  simp only[Instr.buildSlice,Sem.run_bind,run_underlying hu,Result.andThen_ok,hs,gt_iff_lt,F4,if_true,Sem.run_pure]
  simp only[Nat.not_lt_zero,if_false,Sem.run_bind,Sem.run_pure,Result.andThen_ok,o5,kH]
 ·simp only[F4,if_false] at MQ
  rw[← MQ] at o5
  simp only[Instr.buildSlice,Sem.run_bind,run_underlying hu,Result.andThen_ok,hs,gt_iff_lt,U2,F4,if_false,Sem.run_pure,hz,o5,kH]
theorem vg(hE:E.Ok P)(I:Inv w0 Mf g st a w)(hd:∀d,o.dst=some d→d<g.n.sz)(hK:Then w0 Mf g st k r K){T n:Nat}{ps:Array (Nat×Operand)}(bZ:o.op = .buildSlice T n ps)
 (h:eQ E o st k=some r):o.wp P a w K Q:=by
 simp only[eQ,bZ] at h
 split at h
 case h_2=>cases h
 rename_i e hT
 obtain⟨iC,h⟩:=bg h
 have iC:=gT iC
 obtain⟨ys,d,aI,fe,Fs,cs,G,rf,h,I',TK,hp,hG,dQ,hlen,o5⟩:=Inv.iw (rf:=g.rf) (G:=fun _ _ _=>False) (dd:=true) I (fm.refl _ _ _) (o4 w _ e n) (fun _ _ _ h=>h.elim) (by simp[ot]) h
 obtain⟨ver,ek,h⟩:=lr h
 obtain⟨el,hu,lR⟩:=hE.slice hT
 obtain⟨zv,hz,qG⟩:=hE.zero lR w
 have Ge:ys.length=n:=by simpa using hlen
 obtain⟨g',hn,I2⟩:=Inv.B1 (el:=el) I I' (by simpa using TK) hp hG (by rw[dQ,ot,Ge]) ek ⟨nj rfl,lW rfl⟩ (fun h=>by simpa using (lV h).2) hd
 refine lk (v:= .slice (some ⟨w.heap.size,0,none⟩) ys.length ys.length) (w':=ga w (.cells cs el)) ?_ (hK _ g' _ _ h hn ?_)
 ·have Rw:Instr.fill (fun i=>some (i*ao e,ao e)) (pF e n) (ps.map fun p=>(p.1,a.eval p.2)).toList=some cs:=by simpa using o5
  have:=qM (n:=n) hu (hE.size lR w) hz qG iC Rw
  rw[Ge]
  simp only[execOp,bZ,Sem.run_bind,this,Result.andThen_ok,Sem.run_pure]
 ·have ix:=TK.eq
  subst ix
  simpa [St.apply,bh,ck] using I2
theorem run_makeSlice(hE:E.Ok P){T el:Nat}{e:Ty}{zv:Value}{n:Int}(hu:P.underlying T=some (.slice el))(lR:E.code el=some e)(hz:(zeroValue el).run P w = .ok zv w)(qG:zv.cells=(dY e).toArray)
 (h0:0≤n) (h1:n≤(fO:Int)):(Instr.makeSlice T (.int .i64 n) (.int .i64 n)).run P w = .ok (.slice (some ⟨w.heap.size,0,none⟩) n.toNat n.toNat) (ga w (.cells (pF e n.toNat) el)):=by
 obtain⟨i,zv',hi,dQ,Rm,_,_⟩:=hE.info el e lR
 have hw:IntKind.i64.wrap n=n:=by
  unfold fO at h1
  simp only[IntKind.wrap,IntKind.signed,IntKind.bits]
  simp
  omega
 have om : ¬(281474976710656<(i.bytes:Int)*n):=by
  have h3:(i.bytes:Int)*n≤1024*n:=Int.mul_le_mul_of_nonneg_right (by omega) h0
  unfold fO at h1;omega
 have MQ:=B3 qG n.toNat
 have hs:=hE.size lR w
 have hn : ¬n<0:=by omega
 by_cases F4:n.toNat*ao e=0
 ·simp only[F4,if_true] at MQ
  simp[Instr.makeSlice,run_underlying hu,asInt,asIntOf,typeInfo,hi,hw,hn,om,hs,F4,kH,←MQ]
 ·simp only[F4,if_false] at MQ
  simp[Instr.makeSlice,run_underlying hu,asInt,asIntOf,typeInfo,hi,hw,hn,om,hs,F4,kH,←MQ,hz]
theorem xK(hE:E.Ok P)(I:Inv w0 Mf g st a w)(hd:∀d,o.dst=some d→d<g.n.sz)(hK:Then w0 Mf g st k r K){T:Nat}{n m:Operand}(bZ:o.op = .makeSlice T n m)
 (h:eQ E o st k=some r):o.wp P a w K Q:=by
 simp only[eQ,bZ] at h
 split at h
 case h_2=>cases h
 rename_i e hT
 replace h:=I.getInt h;obtain⟨n',h,Mj⟩:=h
 replace h:=I.getInt h;obtain⟨m',h,BW⟩:=h
 replace h:=bg h;obtain⟨hc,h⟩:=h
 simp only[Bool.and_eq_true,decide_eq_true_eq] at hc
 obtain⟨rfl,h0,h1⟩:=hc
 replace h:=lr h;obtain⟨ver,ek,h⟩:=h
 obtain⟨el,hu,lR⟩:=hE.slice hT
 obtain⟨zv,hz,qG⟩:=hE.zero lR w
 obtain⟨g',hn,I2⟩:=Inv.B1 (el:=el) (G:=fun _ _ _=>False) (rf:=g.rf) I I (fm.refl _ _ _) ((o4 w (fun k=>g.ro k∨Any [] k) e n'.toNat)) (fun _ _ _ h=>h.elim) (by simp[ot]) ek ⟨rfl,rfl⟩ (fun _=>rfl) hd
 refine lk (v:= .slice (some ⟨w.heap.size,0,none⟩) n'.toNat n'.toNat) (w':=ga w (.cells (pF e n'.toNat) el)) ?_ (hK _ g' _ _ h hn ?_)
 ·simp only[execOp,bZ,Sem.run_bind,Mj,BW,run_makeSlice hE hu lR hz qG h0 h1,Result.andThen_ok,Sem.run_pure]
 ·simpa [St.apply,ck] using I2
theorem Inv.iu(hE:E.Ok P)(I:Inv w0 Mf g st a w){T:Nat}{fs:Array Field}(hu:P.underlying T=some (.struct fs)){pl:List (Nat×Nat)}
 (PS:fs.toList.mapM (fun f=>(P.info? f.type).map fun i=>(f.offset,i.size))=some pl):∀{ps:List (Nat×Operand)}{row:List Sc}{us:Array Value}{k:List Sc→Option R}{r:R},cG w g st row us→
    iu E T st ps row k=some r→∃Gf us',k Gf=some r∧cG w g st Gf us'∧Instr.fill (pl.toArray[·]?) us (ps.map fun p=>(p.1,a.eval p.2))=some us'
  | [],row,us,k,r,hr,h=>⟨row,us,h,hr,rfl⟩
  | (i,x)::ps,row,us,k,r,hr,h=>by
    simp only[Gm.iu] at h
    obtain⟨⟨off,ft⟩,FW,h⟩:=aR h
    obtain⟨t,ht,h⟩:=aR h
    obtain⟨s,h,hs⟩:=I.dq h
    obtain⟨cs,fc,h⟩:=aR h
    obtain⟨hb,h⟩:=bg h
    simp only[Bool.and_eq_true] at hb
    have hlen:=gB hb.1
    have hle:=gT hb.2
    obtain⟨vs,hf,hc⟩:=dr fc hs
    obtain⟨fs',fd,t',lS,Ri,rfl,rfl,qE⟩:=hE.pL T i _ _ FW
    rw[hu] at lS;cases lS
    rw[ht] at qE;cases qE
    obtain⟨inf,zv,hi,dQ,_⟩:=hE.info _ _ ht
    have Mr:vs.size=cs.length:=hc.1
    have oZ:us.size=row.length:=hr.1
    have Rx:pl.toArray[i]? =some (fd.offset,ao t):=by
      have:∀(l:List Field)(pl:List (Nat×Nat)),l.mapM (fun f=>(P.info? f.type).map fun i=>(f.offset,i.size))=some pl→∀(n:Nat) f,l[n]? =some f→∃inf,P.info? f.type=some inf∧pl[n]? =some (f.offset,inf.size):=by
        intro l
        induction l with
        |nil=>intro pl _ n f hn;simp at hn
        |cons f0 l ih=>
          intro pl hm n f hn
          simp only[List.mapM_cons,Option.bind_eq_bind,Option.pure_def] at hm
          obtain⟨b,hb,hm⟩:=aR hm
          obtain⟨bs,PF,hm⟩:=aR hm
          simp only[Option.some.injEq] at hm;subst hm
          cases n with
          |zero=>
            simp only[List.getElem?_cons_zero,Option.some.injEq] at hn;subst hn
            simp only[Option.map_eq_some_iff] at hb
            obtain⟨inf,h1,rfl⟩:=hb
            exact⟨inf,h1,rfl⟩
          |succ n=>simpa using ih bs PF n f (by simpa using hn)
      obtain⟨acZ,h1,h2⟩:=this fs.toList pl PS i fd (by simpa using Ri)
      rw[hi] at h1;cases h1
      simpa [dQ] using h2
    have pG:=hr.set hc fd.offset (by omega)
    obtain⟨Gf,us',h1,h2,h3⟩:=Inv.iu hE I hu PS pG h
    refine⟨Gf,us',h1,h2,?_⟩
    have iP:=hf.cells
    simp only[List.map_cons]
    rw[tH (off:=fd.offset) (by rw[iP,Mr,hlen];exact Rx) (by rw[iP,Mr,oZ];omega),iP]
    rw[← h3]
    congr 1
    apply Array.ext
    · rw[cF (by omega)];simp;omega
    · intro n h1 h2
      apply Option.some.inj
      rw[← Array.getElem?_eq_getElem,←Array.getElem?_eq_getElem,eU (by omega)]
      simp only[List.getElem?_toArray]
      by_cases zi:n<fd.offset
      · rw[if_neg (by omega),List.append_assoc,List.getElem?_append_left (by simp;omega),List.getElem?_take,if_pos zi];simp
      · by_cases DK:n<fd.offset+vs.size
        · rw[if_pos (by omega),List.getElem?_append_left (by simp;omega),List.getElem?_append_right (by simp;omega)]
          have:min fd.offset us.size=fd.offset:=by omega
          simp[this]
        · rw[if_neg (by omega),List.getElem?_append_right (by simp;omega)]
          have:min fd.offset us.size=fd.offset:=by omega
          simp only[List.length_append,List.length_take,Array.length_toList,this,List.getElem?_drop]
          rw[show fd.offset+vs.size+(n-(fd.offset+vs.size))=n by omega]
          simp
theorem MR(hE:E.Ok P)(I:Inv w0 Mf g st a w)(hd:∀d,o.dst=some d→d<g.n.sz)(hK:Then w0 Mf g st k r K){T:Nat}{ps:Array (Nat×Operand)}(bZ:o.op = .build T ps)
 (h:eQ E o st k=some r):o.wp P a w K Q:=by
 simp only[eQ,bZ] at h
 replace h:=aR h;obtain⟨t,hT,h⟩:=h
 replace h:=bg h;obtain⟨ix,h⟩:=h
 have hu:=hE.pN T t hT
 have lS:∃fs,P.underlying T=some (.struct fs):=by
  unfold bl at hu
  cases t<;>first | exact hu | (simp only[e8,Bool.false_eq_true] at ix)
 obtain⟨fs,U3⟩:=lS
 obtain⟨pl,PS⟩:=hE.Uk T fs U3 (by simp[hT])
 obtain⟨Gf,us',h,hr,o5⟩:=I.iu hE U3 PS (BX t) h
 obtain⟨i,zv,hi,_,_,hz,qG⟩:=hE.info T t hT
 have hb:P.built T (ps.map fun (i,x)=>(i,a.eval x)).toList=some us':=by
  unfold Program.built
  simp only[hi,U3,hz,PS,qG]
  rw[show (ps.map fun (i,x)=>(i,a.eval x)).toList=ps.toList.map (fun p=>(p.1,a.eval p.2)) from by simp]
  exact o5
 refine I.val hd hK (v:= .agg us') ?_ h ⟨us',rfl,hr⟩
 simp only[execOp,bZ,Sem.run_bind,run_build w T _ _ hb,Result.andThen_ok,Sem.run_pure]
theorem jh{id ver iv:Nat}{ro:cy}(h:ak st.roots id=some (.live ro)∨ak st.roots id=some (.dk ro)):cJ st id ver iv↔(ver<ro.ver∨(ver=ro.ver∧iv≤ro.log.length)):=by
 unfold cJ
 rcases h with h | h<;>simp only[h]
structure PT (g:Gh) (st:St) (id k:Nat):Prop where
 r:∀aK,aT st aK→aK≠id→ ¬g.rf aK k
 ro : ¬g.ro k
 b:∀b,bz st b→g.bx b≠k
theorem jZ.iI{id:Nat}{ro ro':cy}(h:ak st.roots id=some (.live ro)∨ak st.roots id=some (.dk ro))(ht:ro'.t=ro.t)(fJ:ro'.ver=ro.ver){l:List Nat}(MS:ro'.log=ro.log++l)
    {av:Path→Value} {F:Nat→Prop}
 (fw:∀q,(∀ D∈l,q.length≤D)→av q=g.rv id q∧∀s,aQ ro.t ro.xs q=some s→∃s',aQ ro'.t ro'.xs q=some s'∧s'.t=s.t∧s'.xs.length=s.xs.length)
    {c:Sc} {u:Value} (hc:jZ w g st c u):jZ w (g.bV id av F) { st with roots:=bc st.roots id (.live ro') } c u:=by
 have cH:ak ({ st with roots:=bc st.roots id (.live ro') }:St).roots id=some (.live ro'):=bj _ _ _
 have hv:∀aK ver iv,cJ st aK ver iv→cJ { st with roots:=bc st.roots id (.live ro') } aK ver iv:=by
  intro aK ver iv hv
  by_cases cQ:aK=id
  ·subst cQ
   rw[jh (.inl cH),fJ,MS]
   rw[jh h] at hv
   rcases hv with hv | ⟨hv,hi⟩
   ·exact .inl hv
   ·exact .inr ⟨hv,by simp;omega⟩
  ·unfold cJ at hv ⊢
   simp only[bQ _ _ cQ];exact hv
 have hx:∀aK ver iv p r',cJ st aK ver iv→Vx { st with roots:=bc st.roots id (.live ro') } aK ver iv p r'→
   (aK≠id∧Vx st aK ver iv p r')∨(aK=id∧r'=ro'∧Vx st id ver iv p ro∧∀D∈l,p.length≤D):=by
  intro aK ver iv p r' UN vh
  by_cases cQ:aK=id
  ·subst cQ
   have e:=vh.is cH
   subst e
   refine .inr ⟨rfl,rfl,?_⟩
   obtain⟨_,h2,h3⟩:=vh
   rw[jh h] at UN
   have hiv:iv≤ro.log.length:=by omega
   unfold gE at h3
   rw[MS,List.drop_append_of_le_length hiv,List.all_append,Bool.and_eq_true] at h3
   exact⟨⟨h,by omega,h3.1⟩,fun D hD=>gT (List.all_eq_true.1 h3.2 D hD)⟩
  ·refine .inl ⟨cQ,?_⟩
   obtain⟨h1,h2,h3⟩:=vh
   simp only[bQ _ _ cQ] at h1
   exact⟨h1,h2,h3⟩
 cases c with
 |h aK ver iv p=>
  refine⟨hv _ _ _ hc.1,fun r' jf=> ?_⟩
  rcases hx _ _ _ _ _ hc.1 jf with ⟨cQ,vh⟩ | ⟨rfl,rfl,vh,hl⟩
  ·simpa [Gh.bV,cQ] using hc.2 r' vh
  ·obtain⟨h1,h2⟩:=hc.2 ro vh
   obtain⟨h3,h4⟩:=fw p hl
   obtain⟨s,hs⟩:=Option.isSome_iff_exists.1 h2
   obtain⟨s',eZ,_⟩:=h4 s hs
   simp only[Gh.bV,if_true]
   exact⟨by rw[h3,h1],by rw[eZ];rfl⟩
 |vw aK ver lo hi=>
  refine⟨hv _ _ _ hc.1,fun r' jf=> ?_⟩
  rcases hx _ _ _ _ _ hc.1 jf with ⟨cQ,vh⟩ | ⟨rfl,rfl,vh,hl⟩
  ·simpa [Gh.bV,cQ] using hc.2 r' vh
  ·obtain⟨h1,h2,h5⟩:=hc.2 ro vh
   obtain⟨h3,h4⟩:=fw [] hl
   obtain⟨s',eZ,e1,e2⟩:=h4 _ rfl
   simp only[aQ,Option.some.injEq] at eZ
   subst eZ
   simp only at e1 e2
   simp only[Gh.bV,if_true]
   exact⟨h1,by rw[e2];exact h2,by rw[h3,ht];exact h5⟩
 |pe aK ver iv p i off=>
  refine⟨hv _ _ _ hc.1,fun r' jf=> ?_⟩
  rcases hx _ _ _ _ _ hc.1 jf with ⟨cQ,vh⟩ | ⟨rfl,rfl,vh,hl⟩
  ·simpa [Gh.bV,cQ] using hc.2 r' vh
  ·obtain⟨s,b,oo,n,cap,h1,h2,h5,h6⟩:=hc.2 ro vh
   obtain⟨h3,h4⟩:=fw p hl
   obtain⟨s',eZ,e1,e2⟩:=h4 s h1
   simp only[Gh.bV,if_true]
   exact⟨s',b,oo,n,cap,eZ,by rw[e2];exact h2,by rw[h3];exact h5,by rw[e1];exact h6⟩
 |_=>exact hc
theorem Inv.iI(I:Inv w0 Mf g st a w){id:Nat}{ro ro':cy}(h:ak st.roots id=some (.live ro)∨ak st.roots id=some (.dk ro)){w':World}{X:Nat→Prop}(hs:bw X w w')(hk:Kept w0 w' Mf)
 (hX:∀k,X k→PT g st id k) {G:Nat→Prop} (hG:∀k,g.ro k→G k) (hGr:∀aK k,aT st aK→aK≠id→g.rf aK k→ ¬G k) (MT:∀b,bz st b→ ¬G (g.bx b)) (DL:∀k,G k→k<w'.heap.size) (hGm:∀k,G k→g.n.r0 k∨w0.heap.size≤k∨Mf k)
 (ht:ro'.t=ro.t) (fJ:ro'.ver=ro.ver) {l:List Nat} (MS:ro'.log=ro.log++l) {av:Path→Value} {F:Nat→Prop}
 (fw:∀q,(∀ D∈l,q.length≤D)→av q=g.rv id q∧∀s,aQ ro.t ro.xs q=some s→∃s',aQ ro'.t ro'.xs q=some s'∧s'.t=s.t∧s'.xs.length=s.xs.length)
    (hr:aX w' (({ g with ro:=G }:Gh).bV id av F) id ro')
 (hF:∀k,F k→(∀ aK,aT st aK→aK≠id→ ¬g.rf aK k)∧ ¬G k∧(∀ b,bz st b→g.bx b≠k)∧(w0.heap.size≤k∨Mf k)∧k<w'.heap.size):
    Inv w0 Mf (({ g with ro:=G }:Gh).bV id av F) { st with roots:=bc st.roots id (.live ro') } a w':=by
 have dh:∀k,g.ro k→ ¬X k:=fun k h1 h2=>(hX k h2).ro h1
 have hm:∀c u,bf w g st c u→bf w' (({ g with ro:=G }:Gh).bV id av F) { st with roots:=bc st.roots id (.live ro') } c u:=fun c u hc=>
  ⟨hc.1,jZ.iI (g:={ g with ro:=G }) h ht fJ MS fw ((hc.2.world hs dh).ro hG)⟩
 have ho:∀aK,aT { st with roots:=bc st.roots id (.live ro') } aK→aK≠id→aT st aK:=fun aK ⟨r',h1,h2⟩ cQ=>
  ⟨r',by simpa [aJ,cQ] using h1,h2⟩
 exact {
  az:=fun s sv h=>let ⟨u,hu,hr⟩:=I.az s sv h;⟨u,hu,hr.map hm⟩
  boxes:=fun b x h=>let ⟨us,el,h1,h2⟩:=I.boxes b x h;⟨us,el,hs.get h1 (fun hx=>(hX _ hx).b b (by simp[bz,h]) rfl),h2.map hm⟩
  roots:=fun aK r' h=>by
   simp only[aJ] at h
   by_cases cQ:aK=id
   ·subst cQ;simp only[if_true,Option.some.injEq,Rt.live.injEq] at h;subst h;exact hr
   ·simp only[cQ,if_false] at h
    have:=I.roots aK r' h
    have ju:r'.md.cq=false→∀k,g.rf aK k→ ¬X k:=fun hm k h1 h2=>(hX k h2).r aK ⟨r',h,hm⟩ cQ h1
    unfold aX at this ⊢
    simp only[Gh.bV,cQ,if_false]
    split at this
    ·rename_i cI;exact this.same hs (ju (by rw[cI];rfl))
    ·rename_i cI
     have:=this.same hs (ju (by rw[cI];rfl)) dh
     exact⟨this.1,fun p s hp hs=>(this.2 p s hp hs).mono hG⟩
    ·exact (this.same hs dh).mono hG
    ·rename_i cI;exact this.same hs (ju (by rw[cI];rfl))
  apart:={
   rr:=fun i i' k h1 h2 h3 h4=>by
    by_cases hi:i=id<;>by_cases lf:i'=id
    ·rw[hi,lf]
    ·simp only[Gh.bV,hi,lf,if_true,if_false] at h3 h4
     exact ((hF k h3).1 i' (ho _ h2 lf) lf h4).elim
    ·simp only[Gh.bV,hi,lf,if_true,if_false] at h3 h4
     exact ((hF k h4).1 i (ho _ h1 hi) hi h3).elim
    ·simp only[Gh.bV,hi,lf,if_false] at h3 h4
     exact I.apart.rr i i' k (ho _ h1 hi) (ho _ h2 lf) h3 h4
   rb:=fun i b h1 h2 h3=>by
    by_cases hi:i=id
    ·simp only[Gh.bV,hi,if_true] at h3
     exact (hF _ h3).2.2.1 b h2 rfl
    ·simp only[Gh.bV,hi,if_false] at h3
     exact I.apart.rb i b (ho _ h1 hi) h2 h3
   bb:=I.apart.bb
   ew:=fun i k h1 h3=>by
    by_cases hi:i=id
    ·simp only[Gh.bV,hi,if_true] at h3;exact (hF _ h3).2.1
    ·simp only[Gh.bV,hi,if_false] at h3;exact hGr i k (ho _ h1 hi) hi h3
   fI:=MT
   cj:=fun i k h1 h3=>by
    by_cases hi:i=id
    ·simp only[Gh.bV,hi,if_true] at h3;exact (hF _ h3).2.2.2.1
    ·simp only[Gh.bV,hi,if_false] at h3;exact I.apart.cj i k (ho _ h1 hi) h3
   dN:=I.apart.dN
   er:=fun i k h1 h3=>by
    by_cases hi:i=id
    ·simp only[Gh.bV,hi,if_true] at h3;exact (hF _ h3).2.2.2.2
    ·simp only[Gh.bV,hi,if_false] at h3;exact Nat.lt_of_lt_of_le (I.apart.er i k (ho _ h1 hi) h3) hs.1
   da:=DL
   bM:=hGm }
  kept:=hk
  defers:=I.defers
  size:=I.size
  base:=⟨I.base.wl,I.base.ap,fun k h=>hG k (I.base.ro k h)⟩ }
theorem Inv.YV(I:Inv w0 Mf g st a w){id:Nat}{ro:cy}(h:ak st.roots id=some (.live ro)):Inv w0 Mf g { st with roots:=bc st.roots id (.dk ro) } a w:=by
 have hv:∀aK ver iv,cJ st aK ver iv→cJ { st with roots:=bc st.roots id (.dk ro) } aK ver iv:=by
  intro aK ver iv hv
  by_cases cQ:aK=id
  ·subst cQ
   rw[jh (.inr (bj _ _ _))]
   exact (jh (.inl h)).1 hv
  ·unfold cJ at hv ⊢
   simp only[bQ _ _ cQ];exact hv
 have hx:∀aK ver iv p r',Vx { st with roots:=bc st.roots id (.dk ro) } aK ver iv p r'→Vx st aK ver iv p r':=by
  intro aK ver iv p r' ⟨h1,h2,h3⟩
  simp only[aJ] at h1
  by_cases cQ:aK=id
  ·subst cQ
   simp only[if_true,Option.some.injEq,reduceCtorEq,Rt.dk.injEq,false_or] at h1
   subst h1;exact⟨.inl h,h2,h3⟩
  ·simp only[cQ,if_false] at h1;exact⟨h1,h2,h3⟩
 have hm:∀c u,bf w g st c u→bf w g { st with roots:=bc st.roots id (.dk ro) } c u:=fun c u hc=>
  ⟨hc.1,jZ.roots (st:=st) (fun b hb=>hb) hv (fun _ _ _ _ _ _ h=>hx _ _ _ _ _ h) hc.2⟩
 have ho:∀aK,aT { st with roots:=bc st.roots id (.dk ro) } aK→aT st aK:=fun aK ⟨r',h1,h2⟩=>by
  simp only[aJ] at h1
  by_cases cQ:aK=id
  ·simp[cQ] at h1
  ·exact⟨r',by simpa [cQ] using h1,h2⟩
 exact {
  az:=fun s sv hs=>let ⟨u,hu,hr⟩:=I.az s sv hs;⟨u,hu,hr.map hm⟩
  boxes:=fun b x hb=>let ⟨us,el,h1,h2⟩:=I.boxes b x hb;⟨us,el,h1,h2.map hm⟩
  roots:=fun aK r' hr=>I.roots aK r' (by
   simp only[aJ] at hr
   by_cases cQ:aK=id
   ·simp[cQ] at hr
   ·simpa [cQ] using hr)
  apart:={
   rr:=fun i i' k h1 h2=>I.apart.rr i i' k (ho _ h1) (ho _ h2)
   rb:=fun i b h1 h2=>I.apart.rb i b (ho _ h1) h2
   bb:=I.apart.bb
   ew:=fun i k h1=>I.apart.ew i k (ho _ h1)
   fI:=I.apart.fI
   cj:=fun i k h1=>I.apart.cj i k (ho _ h1)
   dN:=I.apart.dN
   er:=fun i k h1=>I.apart.er i k (ho _ h1)
   da:=I.apart.da
   bM:=I.apart.bM }
  kept:=I.kept
  defers:=I.defers
  size:=I.size
  base:=⟨I.base.wl,I.base.ap,I.base.ro⟩ }
end Go.Gm
namespace Go.Gm
open Go
variable {w : World}
theorem o6:∀{p:Path}{t:Ty}{xs zs:List (El t)}{s s':Sl},aQ t xs p=some s→dt t xs p s'=some zs→s'.t=s.t
  | [],t,xs,zs,s,s',h,hz=>by
    simp only[dt] at hz
    have:=cY hz
    simp only[enc,List.cons.injEq,and_true] at this
    simp only[aQ,Option.some.injEq] at h
    cases s' with | mk t' qp=>cases this;subst h;rfl
  | (i,j)::p,t,xs,zs,s,s',h,hz=>by
    simp only[aQ] at h
    split at h
    case h_2=>cases h
    rename_i x hx
    split at h
    case h_2=>cases h
    rename_i t1 ys hc
    simp only[dt,dG hx,hc,Option.bind_eq_some_iff,Option.some.injEq] at hz
    obtain⟨z1,FI,y,hy,rfl⟩:=hz
    exact o6 h FI
theorem lX:∀{p:Path}{t:Ty}{xs zs:List (El t)}{s s':Sl},aQ t xs p=some s→dt t xs p s'=some zs→s'.xs.length=s.xs.length→
    ∀q sq,(p <+: q→q=p)→aQ t xs q=some sq→∃Ry,aQ t zs q=some Ry∧Ry.t=sq.t∧Ry.xs.length=sq.xs.length
  | [],t,xs,zs,s,s',h,hz,hl,q,sq,hq,iT=>by
    have e:=hq (List.nil_prefix)
    subst e
    have ht:=o6 h hz
    simp only[dt] at hz
    have:=cY hz
    simp only[enc,List.cons.injEq,and_true] at this
    simp only[aQ,Option.some.injEq] at h iT
    subst h;subst iT
    cases s' with | mk t' qp=>cases this;exact⟨_,rfl,rfl,hl⟩
  | (i,j)::p,t,xs,zs,s,s',h,hz,hl,q,sq,hq,iT=>by
    simp only[aQ] at h
    split at h
    case h_2=>cases h
    rename_i x hx
    split at h
    case h_2=>cases h
    rename_i t1 ys hc
    simp only[dt,dG hx,hc,Option.bind_eq_some_iff,Option.some.injEq] at hz
    obtain⟨z1,FI,y,hy,rfl⟩:=hz
    have DA:=cY hy
    have cc:=jA hx
    have hj:j<(enc t x).length:=by rw[aS];exact hQ hc
    cases q with
    |nil=>
      simp only[aQ,Option.some.injEq] at iT
      subst iT
      exact⟨⟨t,xs.set i y⟩,rfl,rfl,by simp⟩
    |cons ij q=>
      obtain⟨i',j'⟩:=ij
      simp only[aQ] at iT ⊢
      by_cases nc:i=i'
      · subst nc
        simp only[List.getElem?_set_self cc,←DA]
        rw[hx] at iT
        simp only at iT
        by_cases FJ:j=j'
        · subst FJ
          simp only[hc,List.getElem?_set_self hj] at iT ⊢
          exact lX h FI hl q sq (fun hp=>by simpa using hq (by simpa using hp)) iT
        · rw[List.getElem?_set_ne FJ]
          exact⟨sq,iT,rfl,rfl⟩
      · simp only[List.getElem?_set_ne nc]
        exact⟨sq,iT,rfl,rfl⟩
def iJ(t:Ty)(xs:List (El t))(av:Path→Value)(p:Path)(k:Nat):Prop:=∃q s,¬p <+: q∧aQ t xs q=some s∧j8 (av q)=some k
theorem aW.Gg{F:Nat→Prop}{t:Ty}{xs zs:List (El t)}{av:Path→Value}(h:aW w F t xs av){p:Path}{s s':Sl}(hs:aQ t xs p=some s)(hz:dt t xs p s'=some zs)
    {w':World} {X:Nat→Prop} (bR:bw X w w') (hX:∀k,X k→ ¬iJ t xs av p k) {B:Nat→Prop} {zj:Path→Value} (gV:aW w' B s'.t s'.xs zj) (h0:zj []=av p) (hB:∀k,B k→ ¬iJ t xs av p k):
    ∃mq:Path→Value,(∀ q,(p <+: q→q=p)→mq q=av q)∧(∀ q,mq (p++q)=zj q)∧aW w' (fun k=>B k∨iJ t xs av p k) t zs mq:=by
 let mq:Path→Value:=fun q=>if p <+: q then zj (q.drop p.length) else av q
 have hu:∀q,mq (p++q)=zj q:=fun q=>by simp[mq]
 have ho:∀q,¬p <+: q→mq q=av q:=fun q hq=>by simp[mq,hq]
 have hk:∀q,(p <+: q→q=p)→mq q=av q:=fun q hq=>by
  by_cases hp:p <+: q
  ·have:=hq hp;subst this
   have:=hu [];rw[List.append_nil] at this;rw[this,h0]
  ·exact ho q hp
 refine⟨mq,hk,hu,?_,?_⟩
 ·intro q zh qt
  rcases jd hs hz q zh qt with ⟨q',rfl,DM⟩ | ⟨hn,s2,DM,pB⟩
  ·rw[hu]
   have:=(gV.1 q' zh DM).mono (Q:=fun k=>B k∨iJ t xs av p k) fun k=> .inl
   refine this.kid fun i y j t' ys _ _=> ?_
   rw[List.append_assoc,hu]
  ·rw[ho q hn]
   have h1:=(h.1 q s2 DM).Un (G:=fun k=>B k∨iJ t xs av p k) fun k hk=> .inr ⟨q,s2,hn,DM,hk⟩
   have h2:=h1.here bR fun k hk hx=>hX k hx ⟨q,s2,hn,DM,hk⟩
   refine (pB.own h2).kid fun i y j t' ys _ _=> ?_
   refine hk _ fun hp=> ?_
   rw[List.prefix_concat_iff] at hp
   exact hp.elim (fun h=>h.symm) (fun h=>(hn h).elim)
 ·intro q1 q2 s1 s2 b h1 h2 h3 h4
  rcases jd hs hz q1 s1 h1 with ⟨q1',rfl,mo⟩ | ⟨zi,s1',mo,_⟩<;>rcases jd hs hz q2 s2 h2 with ⟨q2',rfl,qt⟩ | ⟨DK,zh,qt,_⟩
  ·rw[hu] at h3 h4
   rw[gV.2 _ _ _ _ b mo qt h3 h4]
  ·rw[hu] at h3;rw[ho _ DK] at h4
   exact (hB b ((gV.1 _ _ mo).k8 h3) ⟨_,_,DK,qt,h4⟩).elim
  ·rw[hu] at h4;rw[ho _ zi] at h3
   exact (hB b ((gV.1 _ _ qt).k8 h4) ⟨_,_,zi,mo,h3⟩).elim
  ·rw[ho _ zi] at h3;rw[ho _ DK] at h4
   exact h.2 _ _ _ _ b mo qt h3 h4
theorem aW.eA{F:Nat→Prop}{t:Ty}{xs:List (El t)}{av:Path→Value}(h:aW w F t xs av){p:Path}{k:Nat}(hu:eb t xs av p k): ¬iJ t xs av p k:=by
 rintro⟨q,s,hn,hs,hb⟩
 obtain⟨q',s',eZ,fl⟩:=hu
 have:=h.2 _ _ _ _ k hs eZ hb fl
 subst this
 exact hn (List.prefix_append _ _)
theorem aW.iD{F:Nat→Prop}{t:Ty}{xs:List (El t)}{av:Path→Value}(h:aW w F t xs av){p:Path}{k:Nat}(hu:iJ t xs av p k):F k:=by
 obtain⟨q,s,hn,hs,hb⟩:=hu
 exact (h.1 q s hs).k8 hb
theorem aW.gL{F:Nat→Prop}{t:Ty}{xs:List (El t)}{av:Path→Value}(h:aW w F t xs av){p:Path}{k:Nat}(hu:eb t xs av p k):F k:=by
 obtain⟨q,s,hs,hb⟩:=hu
 exact (h.1 _ s hs).k8 hb
theorem ou{t:Ty}{xs:List (El t)}{i:Nat}{x y:El t}(hx:xs[i]? =some x)(hy:∀(j:Nat) t' (ys:List (El t')),(enc t y)[j]? =some (.l t' ys)↔(enc t x)[j]? =some (.l t' ys)):
    ∀q,q≠[]→aQ t (xs.set i y) q=aQ t xs q:=by
 intro q hq
 cases q with
 |nil=>exact (hq rfl).elim
 |cons ij q=>
  obtain⟨i',j⟩:=ij
  have cc:=jA hx
  simp only[aQ]
  by_cases nc:i=i'
  ·subst nc
   simp only[List.getElem?_set_self cc,hx]
   cases hc:(enc t x)[j]? with
   |none=>
    cases mZ:(enc t y)[j]? with
    |none=>rfl
    |some c=>
     cases c with
     |v z=>rfl
     |l t' ys=>rw[(hy j t' ys).1 mZ] at hc;cases hc
   |some c=>
    cases c with
    |v z=>
     cases mZ:(enc t y)[j]? with
     |none=>rfl
     |some c'=>
      cases c' with
      |v z'=>rfl
      |l t' ys=>rw[(hy j t' ys).1 mZ] at hc;cases hc
    |l t' ys=>rw[(hy j t' ys).2 hc]
  ·simp only[List.getElem?_set_ne nc]
end Go.Gm
namespace Go.Gm
open Go
variable {R : Type} {P : Program} {E : Env} {w0 w : World} {Mf : Nat → Prop} {g : Gh} {st : St} {a : Act} {Q : Exit → Act → World → Prop}
  {o:Oper} {k:Dl→Option R} {r:R} {K:Act→World→Prop}
theorem iW{us vs:Array Value}{at_:Nat}(h:at_+vs.size≤us.size):(us.toList.take at_++vs.toList++us.toList.drop (at_+vs.toList.length)).toArray=putAt us at_ vs:=by
 apply Array.ext
 ·rw[cF h];simp;omega
 ·intro n h1 h2
  apply Option.some.inj
  rw[← Array.getElem?_eq_getElem,←Array.getElem?_eq_getElem,eU h]
  simp only[List.getElem?_toArray]
  by_cases zi:n<at_
  ·rw[if_neg (by omega),List.append_assoc,List.getElem?_append_left (by simp;omega),List.getElem?_take,if_pos zi];simp
  ·by_cases DK:n<at_+vs.size
   ·rw[if_pos (by omega),List.getElem?_append_left (by simp;omega),List.getElem?_append_right (by simp;omega)]
    have:min at_ us.size=at_:=by omega
    simp[this]
   ·rw[if_neg (by omega),List.getElem?_append_right (by simp;omega)]
    have:min at_ us.size=at_:=by omega
    simp only[List.length_append,List.length_take,Array.length_toList,this,List.getElem?_drop]
    rw[show at_+vs.size+(n-(at_+vs.size))=n by omega]
    simp
theorem iU{α:Type}{l ys:List α}{off:Nat}(h:off+ys.length≤l.length)(n:Nat):(eu l off ys)[n]? =if off≤n∧n<off+ys.length then ys[n-off]? else l[n]? :=by
 simp only[eu]
 by_cases zi:n<off
 ·rw[if_neg (by omega),List.append_assoc,List.getElem?_append_left (by simp;omega),List.getElem?_take,if_pos zi]
 ·by_cases DK:n<off+ys.length
  ·rw[if_pos (by omega),List.getElem?_append_left (by simp;omega),List.getElem?_append_right (by simp;omega)]
   have:min off l.length=off:=by omega
   simp[this]
  ·rw[if_neg (by omega),List.getElem?_append_right (by simp;omega)]
   have:min off l.length=off:=by omega
   simp only[List.length_append,List.length_take,this,List.getElem?_drop]
   rw[show off+ys.length+(n-(off+ys.length))=n by omega]
theorem dS.U4{ro gr:Nat→Prop}{dd d:Bool}{e:Ty}{xs:List (El e)}{us:Array Value}{oo:Nat}{G:Nat→Nat→Nat→Prop}{Gs:List (Nat→Prop)}(hp:dS w ro dd e xs us oo G)
    {i:Nat} {x y:El e} (hx:xs[i]? =some x) {cv:List Cv} {vs:Array Value} {off:Nat} (hA:kE w gr cv vs.toList Gs d) (hy:enc e y=eu (enc e x) off cv) (hle:off+cv.length≤ao e) (dh:∀k,gr k→ro k)
 (qL:bH Gs) (sW:∀i j k,G i j k→Any Gs k→False) (dQ:oo+xs.length*ao e≤us.size):
    ∃G',dS w (fun k=>ro k∨Any Gs k) (dd&&d) e (xs.set i y) (putAt us (oo+i*ao e+off) vs) oo G'∧∀i j k,G' i j k→Any Gs k∨G i j k:=by
 have hi:=jA hx
 have hlen:vs.size=cv.length:=by have:=hA.len.1;simpa using this
 have hmul:i*ao e+ao e≤xs.length*ao e:=by
  have:(i+1)*ao e≤xs.length*ao e:=Nat.mul_le_mul_right _ hi
  rw[Nat.add_mul] at this;omega
 have jP:=fun m=>eU (cells:=us) (off:=oo+i*ao e+off) (vs:=vs) (by omega) m
 have fy:=hA.rd
 let In:Nat→Nat→Prop:=fun i' j=>i'=i∧off≤j∧j<off+cv.length
 let G':Nat→Nat→Nat→Prop:=fun i' j k=>(In i' j∧∃F,Gs[j-off]? =some F∧F k)∨(¬ In i' j∧G i' j k)
 have mf:∀i j k,G' i j k→Any Gs k∨G i j k:=by
  rintro i' j k (⟨_,F,h1,h2⟩ | ⟨_,h⟩)
  ·exact .inl ⟨F,List.mem_of_getElem? h1,h2⟩
  ·exact .inr h
 -- a cell that stays
 have stays:∀i' x' j c,xs[i']? =some x'→(enc e x')[j]? =some c→ ¬In i' j→∃u,(putAt us (oo+i*ao e+off) vs)[oo+i'*ao e+j]? =some u∧lQ w (fun k=>G' i' j k∨ro k∨Any Gs k) c u∧((dd&&d)=true→fP w (G' i' j) c u):=by
  intro i' x' j c kF hc hn
  have hj:=hQ hc
  obtain⟨z,hz,hr,ho⟩:=hp.rows i' x' j c kF hc
  refine⟨z,?_,hr.mono fun k hk=> ?_,fun hd=> ?_⟩
  ·rw[jP,if_neg ?_]
   ·exact hz
   ·intro ⟨h1,h2⟩
    rw[hlen] at h2
    rcases Nat.lt_trichotomy i' i with cc | heq | cc
    ·have:(i'+1)*ao e≤i*ao e:=Nat.mul_le_mul_right _ cc
     rw[Nat.add_mul] at this;omega
    ·subst heq;exact hn ⟨rfl,by omega,by omega⟩
    ·have:(i+1)*ao e≤i'*ao e:=Nat.mul_le_mul_right _ cc
     rw[Nat.add_mul] at this;omega
  ·rcases hk with hk | hk
   ·exact .inl (.inr ⟨hn,hk⟩)
   ·exact .inr (.inl hk)
  ·simp only[Bool.and_eq_true] at hd
   exact (ho hd.1).mono fun k hk=> .inr ⟨hn,hk⟩
 refine⟨G',⟨fun i' x' j c kF hc=> ?_,?_⟩,mf⟩
 ·by_cases nc:i'=i
  ·subst nc
   rw[List.getElem?_set_self hi] at kF
   cases kF
   rw[hy,iU (by rw[aS];exact hle)] at hc
   by_cases kZ:off≤j∧j<off+cv.length
   ·rw[if_pos kZ] at hc
    obtain⟨z,hz,hr⟩:=fy.get (j-off) c hc
    refine⟨z,?_,hr.mono fun k hk=> ?_,fun hd=> ?_⟩
    ·rw[jP,if_pos (by omega),show oo+i'*ao e+j-(oo+i'*ao e+off)=j-off by omega]
     simpa using hz
    ·rcases hk with hk | hk
     ·exact .inr (.inr hk)
     ·exact .inr (.inl (dh k hk))
    ·simp only[Bool.and_eq_true] at hd
     obtain⟨z',F,h1,h2,h3⟩:=hA.own hd.2 (j-off) c hc
     rw[hz] at h1;cases h1
     exact h3.mono fun k hk=> .inl ⟨⟨rfl,kZ.1,kZ.2⟩,F,h2,hk⟩
   ·rw[if_neg kZ] at hc
    exact stays i' x j c hx hc fun h=>kZ h.2
  ·rw[List.getElem?_set_ne (Ne.symm nc)] at kF
   exact stays i' x' j c kF hc fun h=>nc h.1
 ·rintro i1 j1 i2 j2 k (⟨⟨rfl,ha,hb⟩,F,h1,h2⟩ | ⟨hn,h⟩) (⟨⟨rfl,ha',fl⟩,F',sI,BV⟩ | ⟨Mj,h'⟩)
  ·refine⟨rfl,?_⟩
   have PR:=List.pairwise_iff_getElem.1 qL
   obtain⟨hj,rfl⟩:=List.getElem?_eq_some_iff.1 h1
   obtain⟨sR,rfl⟩:=List.getElem?_eq_some_iff.1 sI
   rcases Nat.lt_trichotomy (j1-off) (j2-off) with cc | heq | cc
   ·exact (PR _ _ hj sR cc k h2 BV).elim
   ·omega
   ·exact (PR _ _ sR hj cc k BV h2).elim
  ·exact (sW _ _ k h' ⟨F,List.mem_of_getElem? h1,h2⟩).elim
  ·exact (sW _ _ k h ⟨F',List.mem_of_getElem? sI,BV⟩).elim
  ·exact hp.PH _ _ _ _ k h h'
theorem B4:∀{p:Path}{t:Ty}{xs zs:List (El t)}{s s':Sl},aQ t xs p=some s→dt t xs p s'=some zs→aQ t zs p=some s'
  | [],t,xs,zs,s,s',h,hz=>by
    simp only[dt] at hz
    have:=cY hz
    simp only[enc,List.cons.injEq,and_true] at this
    cases s' with | mk t' qp=>cases this;rfl
  | (i,j)::p,t,xs,zs,s,s',h,hz=>by
    simp only[aQ] at h
    split at h
    case h_2=>cases h
    rename_i x hx
    split at h
    case h_2=>cases h
    rename_i t1 ys hc
    simp only[dt,dG hx,hc,Option.bind_eq_some_iff,Option.some.injEq] at hz
    obtain⟨z1,FI,y,hy,rfl⟩:=hz
    have DA:=cY hy
    have cc:=jA hx
    have hj:j<(enc t x).length:=by rw[aS];exact hQ hc
    simp only[aQ,List.getElem?_set_self cc,←DA,List.getElem?_set_self hj]
    exact B4 h FI
theorem aX.node{id:Nat}{ro:cy}(h:aX w g id ro){p:Path}{s:Sl}(hs:aQ ro.t ro.xs p=some s)(hm:ro.md.bF=true∨(ro.md.ja=true∧p=[])):
    bp w (g.rf id) s.t s.xs (g.rv id p) fun i j=>g.rv id (p++[(i,j)]):=by
 unfold aX at h
 split at h
 ·exact h.1 p s hs
 ·rename_i cI
  rcases hm with hm | ⟨_,rfl⟩
  ·simp[cI,Md.bF] at hm
  ·simp only[aQ,Option.some.injEq] at hs;subst hs;exact h.1
 ·rename_i cI;simp[cI,Md.bF,Md.ja] at hm
 ·rename_i cI;simp[cI,Md.bF,Md.ja] at hm
theorem xL{t:Ty}{xs:List (El t)}{us:Array Value}{oo:Nat}{kid:Nat→Nat→Value}(h:RowsIn t xs us oo kid){i:Nat}{x y:El t}(hx:xs[i]? =some x){cv:List Cv}{vs:Array Value}{off:Nat}
 (hc:∀(j:Nat) c,cv[j]? =some c→∃z,vs[j]? =some z∧c = .v z) (hv:vs.size=cv.length) (hy:enc t y=eu (enc t x) off cv) (hle:off+cv.length≤ao t) (dQ:oo+xs.length*ao t≤us.size):
    RowsIn t (xs.set i y) (putAt us (oo+i*ao t+off) vs) oo kid:=by
 have hi:=jA hx
 have hmul:i*ao t+ao t≤xs.length*ao t:=by
  have:(i+1)*ao t≤xs.length*ao t:=Nat.mul_le_mul_right _ hi
  rw[Nat.add_mul] at this;omega
 have jP:=fun m=>eU (cells:=us) (off:=oo+i*ao t+off) (vs:=vs) (by omega) m
 have stays:∀i' x' j c,xs[i']? =some x'→(enc t x')[j]? =some c→ ¬(i'=i∧off≤j∧j<off+cv.length)→∃u,(putAt us (oo+i*ao t+off) vs)[oo+i'*ao t+j]? =some u∧dH c u (kid i' j):=by
  intro i' x' j c kF j0 hn
  have hj:=hQ j0
  obtain⟨z,hz,hr⟩:=h i' x' j c kF j0
  refine⟨z,?_,hr⟩
  rw[jP,if_neg ?_]
  ·exact hz
  ·intro ⟨h1,h2⟩
   rw[hv] at h2
   rcases Nat.lt_trichotomy i' i with cc | heq | cc
   ·have:(i'+1)*ao t≤i*ao t:=Nat.mul_le_mul_right _ cc
    rw[Nat.add_mul] at this;omega
   ·subst heq;exact hn ⟨rfl,by omega,by omega⟩
   ·have:(i+1)*ao t≤i'*ao t:=Nat.mul_le_mul_right _ cc
    rw[Nat.add_mul] at this;omega
 intro i' x' j c kF j0
 by_cases nc:i'=i
 ·subst nc
  rw[List.getElem?_set_self hi] at kF
  cases kF
  rw[hy,iU (by rw[aS];exact hle)] at j0
  by_cases kZ:off≤j∧j<off+cv.length
  ·rw[if_pos kZ] at j0
   obtain⟨z,hz,rfl⟩:=hc (j-off) c j0
   refine⟨z,?_,rfl⟩
   rw[jP,if_pos (by omega),show oo+i'*ao t+j-(oo+i'*ao t+off)=j-off by omega]
   exact hz
  ·rw[if_neg kZ] at j0
   exact stays i' x j c hx j0 fun h=>kZ h.2
 ·rw[List.getElem?_set_ne (Ne.symm nc)] at kF
  exact stays i' x' j c kF j0 fun h=>nc h.1
theorem Gi{t:Ty}{x y:El t}{cv:List Cv}{off:Nat}(hc:∀(j:Nat) c,cv[j]? =some c→∃z,c = .v z)(hk:∀(j:Nat) c,off≤j→j<off+cv.length→(enc t x)[j]? =some c→∃z,c = .v z)
 (hy:enc t y=eu (enc t x) off cv) (hle:off+cv.length≤ao t):∀(j:Nat) t' (ys:List (El t')),(enc t y)[j]? =some (.l t' ys)↔(enc t x)[j]? =some (.l t' ys):=by
 intro j t' ys
 rw[hy,iU (by rw[aS];exact hle)]
 by_cases kZ:off≤j∧j<off+cv.length
 ·rw[if_pos kZ]
  constructor
  ·intro h;obtain⟨z,hz⟩:=hc _ _ h;cases hz
  ·intro h;obtain⟨z,hz⟩:=hk _ _ kZ.1 kZ.2 h;cases hz
 ·rw[if_neg kZ]
theorem aW.YW{F:Nat→Prop}{t:Ty}{xs:List (El t)}{av:Path→Value}(h:aW w F t xs av){i:Nat}{x y:El t}(hx:xs[i]? =some x)(hy:∀(j:Nat) t' (ys:List (El t')),(enc t y)[j]? =some (.l t' ys)↔(enc t x)[j]? =some (.l t' ys))
    {w':World} {b oo cap el:Nat} {us':Array Value} (bR:bw (fun k=>k=b) w w') (fw:av [] = .slice (some ⟨b,oo,none⟩) xs.length cap) (hb:w'.heap[b]? =some (.cells us' el (0,0))) (dJ:xs.length≤cap)
 (dQ:oo+cap*ao t≤us'.size) (hr:RowsIn t (xs.set i y) us' oo fun i j=>av [(i,j)]):aW w' F t (xs.set i y) av:=by
 have dp:=ou hx hy
 have hbF:F b:=(h.1 [] _ rfl).k8 (by rw[fw];rfl)
 refine⟨fun p s hs=> ?_,fun p q s s' k h1 h2 h3 h4=> ?_⟩
 ·by_cases hp:p=[]
  ·subst hp
   simp only[aQ,Option.some.injEq] at hs
   subst hs
   exact .inr ⟨b,oo,cap,us',el,by simpa using fw,hbF,hb,by simpa using dJ,dQ,hr⟩
  ·rw[dp p hp] at hs
   refine (h.1 p s hs).here bR fun k hk e=> ?_
   subst e
   exact hp (h.2 p [] s ⟨t,xs⟩ k hs rfl hk (by rw[fw];rfl))
 ·have fix:∀p s,aQ t (xs.set i y) p=some s→∃s0,aQ t xs p=some s0:=fun p s hs=>by
   by_cases hp:p=[]
   ·subst hp;exact⟨_,rfl⟩
   ·rw[dp p hp] at hs;exact⟨s,hs⟩
  obtain⟨s1,mo⟩:=fix p s h1
  obtain⟨s2,qt⟩:=fix q s' h2
  exact h.2 _ _ _ _ k mo qt h3 h4
theorem Inv.alone(I:Inv w0 Mf g st a w){id:Nat}(h:aT st id){k:Nat}(hk:g.rf id k):PT g st id k:=
 ⟨fun aK h1 h2 h3=>h2 (I.apart.rr aK id k h1 h h3 hk),I.apart.ew id k h hk,fun b hb e=>I.apart.rb id b h hb (e▸hk)⟩
theorem qN{t:Ty}{xs zs ys:List (El t)}(h:dt t xs [] ⟨t,ys⟩=some zs):zs=ys:=by
 simp only[dt] at h
 have:=cY h
 simp only[enc,List.cons.injEq,and_true,Cv.l.injEq,heq_eq_eq,true_and] at this
 exact this.symm
theorem Inv.DN(I:Inv w0 Mf g st a w){id:Nat}{ro:cy}(eh:ak st.roots id=some (.live ro)){p:Path}{s:Sl}(hs:aQ ro.t ro.xs p=some s)(hm:ro.md.bF=true∨(ro.md.ja=true∧p=[]))
    {i:Nat} {x y:El s.t} (hx:s.xs[i]? =some x) {cv:List Cv} {vs:Array Value} {off:Nat} (m8:∀(j:Nat) c,cv[j]? =some c→∃z,vs[j]? =some z∧c = .v z) (hv:vs.size=cv.length)
 (hk:∀(j:Nat) c,off≤j→j<off+cv.length→(enc s.t x)[j]? =some c→∃z,c = .v z) (hy:enc s.t y=eu (enc s.t x) off cv) (hle:off+cv.length≤ao s.t)
    {zs:List (El ro.t)} (hz:dt ro.t ro.xs p ⟨s.t,s.xs.set i y⟩=some zs) {b oo n cap:Nat} (fw:g.rv id p = .slice (some ⟨b,oo,none⟩) n cap):
    ∃us el,w.heap[b]? =some (.cells us el (0,0))∧oo+i*ao s.t+ao s.t≤us.size∧∃g':Gh,g'.n=g.n∧
      Inv w0 Mf g' { st with roots:=bc st.roots id (.live ⟨ro.t,ro.md,ro.ver,ro.log,zs⟩) } a (w.setRow b (putAt us (oo+i*ao s.t+off) vs)):=by
  have hi:=jA hx
  have sJ:ro.md.cq=false:=by
    rcases hm with hm | hm
    · cases h:ro.md<;>simp_all [Md.bF,Md.cq]
    · cases h:ro.md<;>simp_all [Md.ja,Md.cq]
  have cH:aT st id:=⟨ro,eh,sJ⟩
  have hr:=I.roots id ro eh
  have dz:=hr.node hs hm
  rcases dz with ⟨h0,_⟩ | ⟨b',Rj,gU,us,el,e1,hF,hb,dJ,dy,db⟩
  · rw[h0] at hi;simp at hi
  rw[fw] at e1
  simp only[Value.slice.injEq,Option.some.injEq,Addr.mk.injEq,and_true] at e1
  obtain⟨⟨rfl,rfl⟩,rfl,rfl⟩:=e1
  have hmul:i*ao s.t+ao s.t≤s.xs.length*ao s.t:=by
    have:(i+1)*ao s.t≤s.xs.length*ao s.t:=Nat.mul_le_mul_right _ hi
    rw[Nat.add_mul] at this;omega
  have B5:s.xs.length*ao s.t≤cap*ao s.t:=Nat.mul_le_mul_right _ dJ
  refine⟨us,el,hb,by omega,?_⟩
  have bR:=dZ w b (putAt us (oo+i*ao s.t+off) vs)
  have fl:=setRow_heap w b us (putAt us (oo+i*ao s.t+off) vs) el (0,0) hb
  have Gj:=xL db hx m8 hv hy hle (by omega)
  have Rz:=Gi (fun j c h=>let ⟨z,_,e⟩:=m8 j c h;⟨z,e⟩) hk hy hle
  have xI:oo+cap*ao s.t≤(putAt us (oo+i*ao s.t+off) vs).size:=by rw[cF (by omega)];exact dy
  have gY:Kept w0 (w.setRow b (putAt us (oo+i*ao s.t+off) vs)) Mf:=I.kept.step rfl rfl rfl bR (fun k e=>by subst e;exact I.apart.cj id _ cH hF)
  have k0:aX (w.setRow b (putAt us (oo+i*ao s.t+off) vs)) (({ g with ro:=g.ro }:Gh).bV id (g.rv id) (g.rf id)) id ⟨ro.t,ro.md,ro.ver,ro.log,zs⟩:=by
    unfold aX at hr ⊢
    simp only[Gh.bV,if_true]
    split at hr
    · rename_i cI
      try simp only[cI]
      have n0:=(hr.at hs).YW hx Rz bR (b:=b) (oo:=oo) (cap:=cap) (el:=el) (us':=putAt us (oo+i*ao s.t+off) vs) (by simpa using fw) fl dJ xI Gj
      have vi:eb ro.t ro.xs (g.rv id) p b:=⟨[],s,by rw[List.append_nil];exact hs,by rw[List.append_nil,fw];rfl⟩
      obtain⟨mq,h1,h2,h3⟩:=hr.Gg hs hz bR (fun k e=>by subst e;exact hr.eA vi) n0 (by simp) (fun k hk=>hr.eA hk)
      have:mq=g.rv id:=by
        funext q
        by_cases hp:p <+: q
        · obtain⟨q',rfl⟩:=hp;exact h2 q'
        · exact h1 q fun h=>(hp h).elim
      subst this
      exact h3.mono fun k hk=>hk.elim hr.gL hr.iD
    · rename_i cI
      have hp:p=[]:=by rcases hm with hm | hm;simp[cI,Md.bF] at hm;exact hm.2
      subst hp
      simp only[aQ,Option.some.injEq] at hs
      subst hs
      have:=qN hz
      subst this
      try simp only[cI]
      refine⟨.inr ⟨b,oo,cap,_,el,by simpa using fw,hF,fl,by simpa using dJ,xI,Gj⟩,fun q s' hq eZ=> ?_⟩
      rw[ou hx Rz q hq] at eZ
      exact (hr.2 q s' hq eZ).same bR fun k hk e=>I.apart.ew id k cH (e▸hF) hk
    · rename_i cI;simp[cI,Md.cq] at sJ
    · rename_i cI;simp[cI,Md.bF,Md.ja] at hm
  refine⟨_,by rfl,I.iI (ro':=⟨ro.t,ro.md,ro.ver,ro.log,zs⟩) (.inl eh) bR gY (fun k e=>by subst e;exact I.alone cH hF) (fun _ h=>h) (fun aK k h1 _ h3=>I.apart.ew aK k h1 h3)
    I.apart.fI (fun k h=>Nat.lt_of_lt_of_le (I.apart.da k h) bR.1) I.apart.bM rfl rfl (l:=[]) (by simp) (fun q _=>⟨rfl,fun sq iT=> ?_⟩) k0
    (fun k hk=>⟨(I.alone cH hk).r,(I.alone cH hk).ro,(I.alone cH hk).b,I.apart.cj id k cH hk,Nat.lt_of_lt_of_le (I.apart.er id k cH hk) bR.1⟩)⟩
  by_cases hq:p <+: q→q=p
  · exact lX hs hz (by simp) q sq hq iT
  · have hp:p <+: q:=by
      by_cases h:p <+: q
      · exact h
      · exact (hq fun h'=>(h h').elim).elim
    obtain⟨q',rfl⟩:=hp
    have U5:q'≠[]:=fun e=>hq fun _=>by rw[e,List.append_nil]
    rw[cn q' hs] at iT
    refine⟨sq,?_,rfl,rfl⟩
    simp only
    rw[cn q' (B4 hs hz),ou hx Rz q' U5]
    exact iT
end Go.Gm
namespace Go.Gm
open Go
variable {R : Type} {P : Program} {E : Env} {w0 w : World} {Mf : Nat → Prop} {g : Gh} {st0 st : St} {a : Act} {Q : Exit → Act → World → Prop}
  {o:Oper} {k:Dl→Option R} {r:R} {K:Act→World→Prop}
theorem Inv.DO(I0:Inv w0 Mf g st0 a w)(I:Inv w0 Mf g st a w){fe:List (Nat×Rt)}{Gs:List (Nat→Prop)}(T:iS w g st0 st fe Gs){id:Nat}{ro:cy}(eh:ak st.roots id=some (.live ro))
    {p:Path} {s:Sl} (hs:aQ ro.t ro.xs p=some s) (hm:ro.md = .deep)
    {i:Nat} {x y:El s.t} (hx:s.xs[i]? =some x) {cv:List Cv} {vs:Array Value} {off:Nat} (hA:kE w g.ro cv vs.toList Gs true) (hy:enc s.t y=eu (enc s.t x) off cv) (hle:off+cv.length≤ao s.t)
    {zs:List (El ro.t)} (hz:dt ro.t ro.xs p ⟨s.t,s.xs.set i y⟩=some zs) {b oo n cap:Nat} (fw:g.rv id p = .slice (some ⟨b,oo,none⟩) n cap):
    ∃us el,w.heap[b]? =some (.cells us el (0,0))∧oo+i*ao s.t+ao s.t≤us.size∧∃g':Gh,g'.n=g.n∧
      Inv w0 Mf g' { st with roots:=bc st.roots id (.live ⟨ro.t,.deep,ro.ver,ro.log++[p.length],zs⟩) } a (w.setRow b (putAt us (oo+i*ao s.t+off) vs)):=by
 have hi:=jA hx
 have cH:aT st id:=⟨ro,eh,by rw[hm];rfl⟩
 have hr:=I.roots id ro eh
 have dz:=hr.node hs (.inl (by rw[hm];rfl))
 have hv:vs.size=cv.length:=by have:=hA.len.1;simpa using this
 rcases dz with ⟨h0,_⟩ | ⟨b',Rj,gU,us,el,e1,hF,hb,dJ,dy,db⟩
 ·rw[h0] at hi;simp at hi
 rw[fw] at e1
 simp only[Value.slice.injEq,Option.some.injEq,Addr.mk.injEq,and_true] at e1
 obtain⟨⟨rfl,rfl⟩,rfl,rfl⟩:=e1
 have hmul:i*ao s.t+ao s.t≤s.xs.length*ao s.t:=by
  have:(i+1)*ao s.t≤s.xs.length*ao s.t:=Nat.mul_le_mul_right _ hi
  rw[Nat.add_mul] at this;omega
 have B5:s.xs.length*ao s.t≤cap*ao s.t:=Nat.mul_le_mul_right _ dJ
 refine⟨us,el,hb,by omega,?_⟩
 have bR:=dZ w b (putAt us (oo+i*ao s.t+off) vs)
 have fl:=setRow_heap w b us (putAt us (oo+i*ao s.t+off) vs) el (0,0) hb
 have xI:oo+cap*ao s.t≤(putAt us (oo+i*ao s.t+off) vs).size:=by rw[cF (by omega)];exact dy
 have gY:Kept w0 (w.setRow b (putAt us (oo+i*ao s.t+off) vs)) Mf:=I.kept.step rfl rfl rfl bR (fun k e=>by subst e;exact I.apart.cj id _ cH hF)
 have n0:aW w (g.rf id) ro.t ro.xs (g.rv id):=by unfold aX at hr;rw[hm] at hr;exact hr
 have dp:=n0.at hs
 have cK:∀k,Any Gs k→fx w0 Mf g st k∧k<w.heap.size:=fun k ⟨F,hF,hk⟩=>T.free I0 hF hk
 have ju:∀k,Any Gs k→ ¬g.rf id k:=fun k ⟨F,hF,hk⟩=>T.off F hF k hk id cH
 have vi:eb ro.t ro.xs (g.rv id) p b:=⟨[],s,by rw[List.append_nil];exact hs,by rw[List.append_nil,fw];rfl⟩
 have vj:∀i j k,eb s.t s.xs (fun q=>g.rv id (p++q)) [(i,j)] k→eb ro.t ro.xs (g.rv id) p k∧k≠b:=by
  rintro i j k ⟨q,s2,h1,h2⟩
  have h3:aQ ro.t ro.xs (p++([(i,j)]++q))=some s2:=by rw[cn _ hs];exact h1
  refine⟨⟨[(i,j)]++q,s2,h3,h2⟩,fun e=> ?_⟩
  subst e
  have:=n0.2 _ p s2 s k h3 hs h2 (by rw[fw];rfl)
  simp at this
 obtain⟨G',Mp,mf⟩:=(dp.pieces (ro:=g.ro) (by simpa using db)).U4 hx hA hy hle (fun _ h=>h) T.apart (fun i j k h1 h2=>ju k h2 (n0.gL (vj i j k h1).1)) (by omega)
 have Ye:∀i j k,G' i j k→k≠b:=fun i j k h=>(mf i j k h).elim (fun h e=>ju k h (e▸hF)) fun h=>(vj i j k h).2
 have tI:=Mp.same bR Ye (fun k h e=>by
  subst e
  exact h.elim (fun h=>I.apart.ew id _ cH hF h) (fun h=>ju _ h hF))
 simp only[Bool.and_self] at tI
 obtain⟨zj,h0,gV⟩:=tI.own fl (by simpa using dJ) xI (fun i j h=>Ye i j b h rfl)
 have YX:∀k,(k=b∨∃i j,G' i j k)→ ¬iJ ro.t ro.xs (g.rv id) p k:=by
  rintro k (rfl | ⟨i,j,h⟩)
  ·exact n0.eA vi
  ·rcases mf i j k h with h | h
   ·exact fun h'=>ju k h (n0.iD h')
   ·exact n0.eA (vj i j k h).1
 obtain⟨mq,h1,h2,h3⟩:=n0.Gg hs hz bR (fun k e=>by subst e;exact n0.eA vi) gV (by rw[h0,fw];simp) YX
 refine⟨_,by rfl,I.iI (ro':=⟨ro.t,.deep,ro.ver,ro.log++[p.length],zs⟩) (.inl eh) bR gY (fun k e=>by subst e;exact I.alone cH hF) (fun _ h=>h) (fun aK k h1 _ h3=>I.apart.ew aK k h1 h3)
  I.apart.fI (fun k h=>Nat.lt_of_lt_of_le (I.apart.da k h) bR.1) I.apart.bM rfl rfl (l:=[p.length]) rfl (av:=mq) (F:=fun k=>(k=b∨∃i j,G' i j k)∨iJ ro.t ro.xs (g.rv id) p k) (fun q hq=> ?_) ?_ (fun k hk=> ?_)⟩
 ·have YY:q.length≤p.length:=hq _ (by simp)
  have B6:p <+: q→q=p:=fun h=>(h.eq_of_length_le YY).symm
  exact⟨h1 q B6,fun sq iT=>lX hs hz (by simp) q sq B6 iT⟩
 ·unfold aX
  simp only[Gh.bV,if_true]
  exact h3
 ·have hold:g.rf id k→(∀ aK,aT st aK→aK≠id→ ¬g.rf aK k)∧ ¬g.ro k∧(∀ b,bz st b→g.bx b≠k)∧(w0.heap.size≤k∨Mf k)∧k<(w.setRow b (putAt us (oo+i*ao s.t+off) vs)).heap.size:=fun hk=>
   ⟨(I.alone cH hk).r,(I.alone cH hk).ro,(I.alone cH hk).b,I.apart.cj id k cH hk,Nat.lt_of_lt_of_le (I.apart.er id k cH hk) bR.1⟩
  rcases hk with (rfl | ⟨i',j',h⟩) | h
  ·exact hold hF
  ·rcases mf i' j' k h with h | h
   ·obtain⟨hf,cc⟩:=cK k h
    exact⟨fun aK h1 _=>hf.r aK h1,hf.ro,hf.b,hf.fV,Nat.lt_of_lt_of_le cc bR.1⟩
   ·exact hold (n0.gL (vj i' j' k h).1)
  ·exact hold (n0.iD h)
theorem Inv.DP(I0:Inv w0 Mf g st0 a w)(I:Inv w0 Mf g st a w){fe:List (Nat×Rt)}{Gs:List (Nat→Prop)}(T:iS w g st0 st fe Gs){id:Nat}{ro:cy}(eh:ak st.roots id=some (.live ro))
 (hm:ro.md.cq=false) (Ya:ro.md.cU=false) {i:Nat} {x y:El ro.t} (hx:ro.xs[i]? =some x) {cv:List Cv} {vs:Array Value} {off:Nat} {d:Bool} (hA:kE w g.ro cv vs.toList Gs d) (hy:enc ro.t y=eu (enc ro.t x) off cv) (hle:off+cv.length≤ao ro.t)
    {b oo n cap:Nat} (fw:g.rv id [] = .slice (some ⟨b,oo,none⟩) n cap):
    ∃us el,w.heap[b]? =some (.cells us el (0,0))∧oo+i*ao ro.t+ao ro.t≤us.size∧∃g':Gh,g'.n=g.n∧
      Inv w0 Mf g' { st with roots:=bc st.roots id (.live ⟨ro.t,.iZ,ro.ver,ro.log++[0],ro.xs.set i y⟩) } a (w.setRow b (putAt us (oo+i*ao ro.t+off) vs)):=by
 have hi:=jA hx
 have cH:aT st id:=⟨ro,eh,hm⟩
 have hr:=I.roots id ro eh
 have dz:=hr.node (p:=[]) (s:=⟨ro.t,ro.xs⟩) rfl (by cases h:ro.md<;>simp_all [Md.bF,Md.ja,Md.cq,Md.cU])
 have hv:vs.size=cv.length:=by have:=hA.len.1;simpa using this
 rcases dz with ⟨h0,_⟩ | ⟨b',Rj,gU,us,el,e1,hF,hb,dJ,dy,db⟩
 ·simp only at h0;rw[h0] at hi;simp at hi
 rw[fw] at e1
 simp only[Value.slice.injEq,Option.some.injEq,Addr.mk.injEq,and_true] at e1
 obtain⟨⟨rfl,rfl⟩,rfl,rfl⟩:=e1
 simp only at dJ dy db
 have hmul:i*ao ro.t+ao ro.t≤ro.xs.length*ao ro.t:=by
  have:(i+1)*ao ro.t≤ro.xs.length*ao ro.t:=Nat.mul_le_mul_right _ hi
  rw[Nat.add_mul] at this;omega
 have B5:ro.xs.length*ao ro.t≤cap*ao ro.t:=Nat.mul_le_mul_right _ dJ
 refine⟨us,el,hb,by omega,?_⟩
 have bR:=dZ w b (putAt us (oo+i*ao ro.t+off) vs)
 have fl:=setRow_heap w b us (putAt us (oo+i*ao ro.t+off) vs) el (0,0) hb
 have xI:oo+cap*ao ro.t≤(putAt us (oo+i*ao ro.t+off) vs).size:=by rw[cF (by omega)];exact dy
 have gY:Kept w0 (w.setRow b (putAt us (oo+i*ao ro.t+off) vs)) Mf:=I.kept.step rfl rfl rfl bR (fun k e=>by subst e;exact I.apart.cj id _ cH hF)
 have cK:∀k,Any Gs k→fx w0 Mf g st k∧k<w.heap.size:=fun k ⟨F,hF,hk⟩=>T.free I0 hF hk
 have ju:∀k,Any Gs k→ ¬g.rf id k:=fun k ⟨F,hF,hk⟩=>T.off F hF k hk id cH
 -- what was there, in pieces
 have YZ:∃dd G,dS w g.ro dd ro.t ro.xs us oo G∧∀i j k,G i j k→g.rf id k∧k≠b:=by
  unfold aX at hr
  split at hr
  ·refine⟨true,_,hr.pieces (ro:=g.ro) (by simpa using db),?_⟩
   rintro i j k ⟨q,s2,h1,h2⟩
   refine⟨(hr.1 _ s2 h1).k8 h2,fun e=> ?_⟩
   subst e
   have:=hr.2 _ [] s2 ⟨ro.t,ro.xs⟩ k h1 rfl h2 (by rw[fw];rfl)
   simp at this
  ·exact⟨false,_,hr.pieces (by simpa using db),fun _ _ _ h=>h.elim⟩
  ·rename_i cI;simp[cI,Md.cq] at hm
  ·rename_i cI;simp[cI,Md.cU] at Ya
 obtain⟨dd,G,YZ,hG⟩:=YZ
 obtain⟨G',Mp,mf⟩:=YZ.U4 hx hA hy hle (fun _ h=>h) T.apart (fun i j k h1 h2=>ju k h2 (hG i j k h1).1) (by omega)
 have Ye:∀i j k,G' i j k→k≠b:=fun i j k h=>(mf i j k h).elim (fun h e=>ju k h (e▸hF)) fun h=>(hG i j k h).2
 let MO:Nat→Prop:=fun k=>(g.ro k∨Any Gs k)∨∃i j,G' i j k
 have tI:=Mp.same bR Ye (fun k h e=>by
  subst e
  exact h.elim (fun h=>I.apart.ew id _ cH hF h) (fun h=>ju _ h hF))
 obtain⟨zj,h0,gV⟩:=tI.iZ fl (by simpa using dJ) xI (ro':=MO) (fun k=> .inl) (fun i j k h=> .inr ⟨i,j,h⟩)
 -- who holds what is read from now on
 have Yf:∀k,MO k→(∀ aK,aT st aK→aK≠id→ ¬g.rf aK k)∧(∀ b,bz st b→g.bx b≠k)∧k<w.heap.size∧k≠b:=by
  have Ut:∀k,Any Gs k→(∀ aK,aT st aK→aK≠id→ ¬g.rf aK k)∧(∀ b,bz st b→g.bx b≠k)∧k<w.heap.size∧k≠b:=fun k h=>by
   obtain⟨hf,cc⟩:=cK k h
   exact⟨fun aK h1 _=>hf.r aK h1,hf.b,cc,fun e=>ju k h (e▸hF)⟩
  rintro k ((h | h) | ⟨i',j',h⟩)
  ·exact⟨fun aK h1 _ h3=>I.apart.ew aK k h1 h3 h,fun b' fl e=>I.apart.fI b' fl (e▸h),I.apart.da k h,fun e=>I.apart.ew id b cH hF (e▸h)⟩
  ·exact Ut k h
  ·rcases mf i' j' k h with h | h
   ·exact Ut k h
   ·have hk:=(hG i' j' k h).1
    exact⟨(I.alone cH hk).r,(I.alone cH hk).b,I.apart.er id k cH hk,(hG i' j' k h).2⟩
 have Y0:∀k,MO k→g.n.r0 k∨w0.heap.size≤k∨Mf k:=by
  rintro k ((h | h) | ⟨i',j',h⟩)
  ·exact I.apart.bM k h
  ·exact .inr (cK k h).1.fV
  ·rcases mf i' j' k h with h | h
   ·exact .inr (cK k h).1.fV
   ·exact .inr (I.apart.cj id k cH (hG i' j' k h).1)
 refine⟨_,by rfl,I.iI (ro':=⟨ro.t,.iZ,ro.ver,ro.log++[0],ro.xs.set i y⟩) (G:=MO) (.inl eh) bR gY (fun k e=>by subst e;exact I.alone cH hF) (fun _ h=> .inl (.inl h)) (fun aK k h1 h2 h3 h4=>(Yf k h4).1 aK h1 h2 h3)
  (fun b' fl h=>(Yf _ h).2.1 b' fl rfl) (fun k h=>Nat.lt_of_lt_of_le (Yf k h).2.2.1 bR.1) Y0 rfl rfl (l:=[0]) rfl (av:=zj) (F:=fun k=>k=b) (fun q hq=> ?_) ?_ (fun k hk=> ?_)⟩
 ·have MU:q=[]:=List.eq_nil_of_length_eq_zero (Nat.le_zero.1 (hq 0 (by simp)))
  subst MU
  refine⟨by rw[h0,fw];simp,fun sq iT=> ?_⟩
  simp only[aQ,Option.some.injEq] at iT
  subst iT
  exact⟨_,rfl,rfl,by simp⟩
 ·unfold aX
  simp only[Gh.bV,if_true]
  exact gV
 ·subst hk
  exact⟨(I.alone cH hF).r,fun h=>(Yf _ h).2.2.2 rfl,(I.alone cH hF).b,I.apart.cj id _ cH hF,Nat.lt_of_lt_of_le (I.apart.er id _ cH hF) bR.1⟩
theorem qO:∀{p:Path}{t:Ty}{xs zs:List (El t)}{s s':Sl},aQ t xs p=some s→dt t xs p s'=some zs→
    ∀q sq,¬p <+: q→aQ t xs q=some sq→∃Ry,aQ t zs q=some Ry∧Ry.t=sq.t∧Ry.xs.length=sq.xs.length
  | [],t,xs,zs,s,s',h,hz,q,sq,hq,iT=>absurd List.nil_prefix hq
  | (i,j)::p,t,xs,zs,s,s',h,hz,q,sq,hq,iT=>by
    simp only[aQ] at h
    split at h
    case h_2=>cases h
    rename_i x hx
    split at h
    case h_2=>cases h
    rename_i t1 ys hc
    simp only[dt,dG hx,hc,Option.bind_eq_some_iff,Option.some.injEq] at hz
    obtain⟨z1,FI,y,hy,rfl⟩:=hz
    have DA:=cY hy
    have cc:=jA hx
    have hj:j<(enc t x).length:=by rw[aS];exact hQ hc
    cases q with
    |nil=>
      simp only[aQ,Option.some.injEq] at iT
      subst iT
      exact⟨⟨t,xs.set i y⟩,rfl,rfl,by simp⟩
    |cons ij q=>
      obtain⟨i',j'⟩:=ij
      simp only[aQ] at iT ⊢
      by_cases nc:i=i'
      · subst nc
        simp only[List.getElem?_set_self cc,←DA]
        rw[hx] at iT
        simp only at iT
        by_cases FJ:j=j'
        · subst FJ
          simp only[hc,List.getElem?_set_self hj] at iT ⊢
          exact qO h FI q sq (fun hp=>hq (by simpa using hp)) iT
        · rw[List.getElem?_set_ne FJ]
          exact⟨sq,iT,rfl,rfl⟩
      · simp only[List.getElem?_set_ne nc]
        exact⟨sq,iT,rfl,rfl⟩
theorem jQ:∀{q:Path}{t:Ty}{xs:List (El t)}{s:Sl},aQ t xs q=some s→∀p,sub t xs (q++p)=sub s.t s.xs p
  | [],t,xs,s,h,p=>by simp only[aQ,Option.some.injEq] at h;subst h;rfl
  | (i,j)::q,t,xs,s,h,p=>by
    simp only[aQ] at h
    split at h
    · rename_i x hx
      split at h
      · rename_i t' ys hc
        simp only[List.cons_append,sub,dG hx,hc]
        exact jQ h p
      · cases h
    · cases h
theorem DQ{us:Array Value}{off:Nat}{u:Value}(h:off<us.size)(m:Nat):(putAt us off #[u])[m]? =if m=off then some u else us[m]? :=by
 rw[eU (by simp;omega)]
 by_cases e:m=off
 ·subst e;rw[if_pos ⟨Nat.le_refl _,by simp⟩,if_pos rfl,Nat.sub_self];rfl
 ·rw[if_neg (by simp;omega),if_neg e]
theorem cW.fill{F F2:Nat→Prop}{t:Ty}{xs zs:List (El t)}{av:Path→Value}{q:Path}{i j:Nat}(h:cW w F (.hole (q++[(i,j)])) t xs av){s s':Sl}(hs:aQ t xs (q++[(i,j)])=some s)
 (hz:dt t xs (q++[(i,j)]) s'=some zs) {b oo n cap:Nat} (fw:av q = .slice (some ⟨b,oo,none⟩) n cap) {sq:Sl} (iT:aQ t xs q=some sq) {us:Array Value} {el:TypeId} {fz:Nat×Nat} (hb:w.heap[b]? =some (.cells us el fz))
    {u:Value} (hu:cO u=true) {zj:Path→Value} (gV:aW w F2 s'.t s'.xs zj) (h0:zj []=u) (U6:∀k,F2 k→ ¬F k):
    ∃mq:Path→Value,(∀ r,¬(q++[(i,j)]) <+: r→mq r=av r)∧aW (w.setRow b (putAt us (oo+i*ao sq.t+j) #[u])) (fun k=>F k∨F2 k) t zs mq:=by
 have Yg:(Pt.hole (q++[(i,j)])).nodeAt q=true:=(gI (by simp)).2 fun hp=>by
  have:=hp.length_le
  simp at this
  omega
 obtain⟨xq,hxq,hcq⟩:∃xq,sq.xs[i]? =some xq∧(enc sq.t xq)[j]? =some (.l s.t s.xs):=by
  rw[cn _ iT] at hs
  exact DH hs
 have hi:=jA hxq
 have hj:=hQ hcq
 rcases h.1 q sq Yg iT with ⟨e0,_⟩ | ⟨b',Rj,gU,us',mc,e1,Mq,fl,dJ,dy,db⟩
 ·rw[e0] at hi;simp at hi
 rw[fw] at e1
 simp only[Value.slice.injEq,Option.some.injEq,Addr.mk.injEq,and_true] at e1
 obtain⟨⟨rfl,rfl⟩,rfl,rfl⟩:=e1
 rw[hb] at fl
 simp only[Option.some.injEq,Obj.cells.injEq] at fl
 obtain⟨rfl,rfl,rfl⟩:=fl
 have hmul:i*ao sq.t+ao sq.t≤sq.xs.length*ao sq.t:=by
  have:(i+1)*ao sq.t≤sq.xs.length*ao sq.t:=Nat.mul_le_mul_right _ hi
  rw[Nat.add_mul] at this;omega
 have B5:sq.xs.length*ao sq.t≤cap*ao sq.t:=Nat.mul_le_mul_right _ dJ
 have ju:oo+i*ao sq.t+j<us.size:=by omega
 have bR:=dZ w b (putAt us (oo+i*ao sq.t+j) #[u])
 have Yh:=setRow_heap w b us (putAt us (oo+i*ao sq.t+j) #[u]) el (0,0) hb
 have Y1:(putAt us (oo+i*ao sq.t+j) #[u]).size=us.size:=cF (by simp;omega)
 let mq:Path→Value:=fun r=>if (q++[(i,j)]) <+: r then zj (r.drop (q++[(i,j)]).length) else av r
 have Uu:∀r,mq ((q++[(i,j)])++r)=zj r:=fun r=>by simp only[mq];rw[if_pos (List.prefix_append _ _),List.drop_left]
 have xM:∀r,¬(q++[(i,j)]) <+: r→mq r=av r:=fun r hr=>by simp only[mq];rw[if_neg hr]
 have B7:aW (w.setRow b (putAt us (oo+i*ao sq.t+j) #[u])) F2 s'.t s'.xs zj:=gV.same bR fun k hk e=>by subst e;exact U6 _ hk Mq
 refine⟨mq,xM,fun r zh qt=> ?_,fun r1 r2 s1 s2 n h1 h2 h3 h4=> ?_⟩
 ·rcases jd hs hz r zh qt with ⟨r',rfl,DM⟩ | ⟨hn,s2,DM,pB⟩
  ·rw[Uu]
   have:=(B7.1 r' zh DM).mono (Q:=fun k=>F k∨F2 k) fun k=> .inr
   refine this.kid fun i y j t' ys _ _=> ?_
   rw[List.append_assoc,Uu]
  ·rw[xM r hn]
   have ha:=(gI (by simp)).2 hn
   have h1:=h.1 r s2 ha DM
   by_cases Y2:r=q
   ·subst Y2
    rw[iT] at DM;cases DM
    refine .inr ⟨b,oo,cap,_,el,by rw[fw,pB.2.1],.inl Mq,Yh,by rw[pB.2.1];exact dJ,by rw[Y1,pB.1];exact dy,?_⟩
    have U7:=pB.rows db
    intro i2 y j2 c hy hc
    obtain⟨z,Y3,iO⟩:=U7 i2 y j2 c hy hc
    rw[pB.1] at Y3 ⊢
    rw[DQ ju]
    have YK:j2<ao sq.t:=by rw[← pB.1];exact hQ hc
    by_cases e:oo+i2*ao sq.t+j2=oo+i*ao sq.t+j
    ·rw[if_pos e]
     have:i2=i∧j2=j:=by
      rcases Nat.lt_trichotomy i2 i with cc | heq | cc
      ·have:(i2+1)*ao sq.t≤i*ao sq.t:=Nat.mul_le_mul_right _ cc
       rw[Nat.add_mul] at this;omega
      ·subst heq;exact⟨rfl,by omega⟩
      ·have:(i+1)*ao sq.t≤i2*ao sq.t:=Nat.mul_le_mul_right _ cc
       rw[Nat.add_mul] at this;omega
     obtain⟨rfl,rfl⟩:=this
     refine⟨u,rfl,?_⟩
     have sX:c.kind.isSome=true:=by
      obtain⟨y0,c0,h5,h6,h7⟩:=pB.2.2 i2 y j2 c hy hc
      rw[hxq] at h5;cases h5
      rw[hcq] at h6;cases h6
      cases c with
      |v x=>exact h7.elim
      |l t' ys=>rfl
     cases c with
     |v x=>cases sX
     |l t' ys=>
      show u=mq (r++[(i2,j2)])
      have:=Uu []
      rw[List.append_nil] at this
      rw[this,h0]
    ·rw[if_neg e]
     refine⟨z,Y3,?_⟩
     cases c with
     |v x=>exact iO
     |l t' ys=>
      have iO:z=av (r++[(i2,j2)]):=iO
      show z=mq (r++[(i2,j2)])
      rw[iO,xM]
      intro hp
      have hl:=hp.eq_of_length (by simp)
      have:=List.append_cancel_left hl
      simp only[List.cons.injEq,Prod.mk.injEq,and_true] at this
      exact e (by rw[this.1,this.2])
   ·have lq:∀k,j8 (av r)=some k→k≠b:=fun k hk e=>by
     subst e
     exact Y2 (h.2.1 r q s2 sq k ha Yg DM iT hk (by rw[fw];rfl))
    have h2:=(h1.Un (G:=fun k=>F k∧k≠b) fun k hk=>⟨h1.k8 hk,lq k hk⟩).same bR fun k hk e=>hk.2 e
    refine ((pB.own h2).mono fun k hk=>Or.inl hk.1).kid fun i2 y j2 t' ys _ _=> ?_
    refine xM _ fun hp=> ?_
    rw[List.prefix_concat_iff] at hp
    rcases hp with hp | hp
    ·have:=List.append_inj_left' hp rfl
     exact Y2 this.symm
    ·exact hn hp
 ·rcases jd hs hz r1 s1 h1 with ⟨r1',rfl,mo⟩ | ⟨zi,s1',mo,_⟩<;>rcases jd hs hz r2 s2 h2 with ⟨r2',rfl,qt⟩ | ⟨DK,zh,qt,_⟩
  ·rw[Uu] at h3 h4
   rw[B7.2 _ _ _ _ n mo qt h3 h4]
  ·rw[Uu] at h3;rw[xM _ DK] at h4
   exact (U6 n ((B7.1 _ _ mo).k8 h3) ((h.1 _ _ ((gI (by simp)).2 DK) qt).k8 h4)).elim
  ·rw[Uu] at h4;rw[xM _ zi] at h3
   exact (U6 n ((B7.1 _ _ qt).k8 h4) ((h.1 _ _ ((gI (by simp)).2 zi) mo).k8 h3)).elim
  ·rw[xM _ zi] at h3;rw[xM _ DK] at h4
   exact h.2.1 _ _ _ _ n ((gI (by simp)).2 zi) ((gI (by simp)).2 DK) mo qt h3 h4
theorem Inv.DR(I0:Inv w0 Mf g st0 a w)(I:Inv w0 Mf g st a w){fe:List (Nat×Rt)}{F2:Nat→Prop}(T:iS w g st0 st fe [F2]){id:Nat}{ro:cy}(eh:ak st.roots id=some (.live ro))
    {q:Path} {i j:Nat} (hm:ro.md = .part (.hole (q++[(i,j)]))) {sq:Sl} (iT:aQ ro.t ro.xs q=some sq) (hi:i<sq.xs.length) {s:Sl} (hs:sub ro.t ro.xs (q++[(i,j)])=some s) {ys:List (El s.t)} {u:Value} (hu:cO u=true)
 (gV:gX w F2 s.t ys u) {zs:List (El ro.t)} (hz:dt ro.t ro.xs (q++[(i,j)]) ⟨s.t,ys⟩=some zs) {b oo n cap:Nat} (fw:g.rv id q = .slice (some ⟨b,oo,none⟩) n cap) (hj:j<ao sq.t):
    ∃us el,w.heap[b]? =some (.cells us el (0,0))∧oo+i*ao sq.t+ao sq.t≤us.size∧∃g':Gh,g'.n=g.n∧
      Inv w0 Mf g' { st with roots:=bc st.roots id (.live ⟨ro.t,.deep,ro.ver,ro.log++[q.length],zs⟩) } a (w.setRow b (putAt us (oo+i*ao sq.t+j) #[u])):=by
 have hr:=I.roots id ro eh
 unfold aX at hr
 rw[hm] at hr
 have hr:cW w (g.rf id) (.hole (q++[(i,j)])) ro.t ro.xs (g.rv id):=hr
 have cH:aT st id:=⟨ro,eh,by rw[hm];rfl⟩
 have Yg:(Pt.hole (q++[(i,j)])).nodeAt q=true:=(gI (by simp)).2 fun hp=>by
  have:=hp.length_le
  simp at this
  omega
 rcases hr.1 q sq Yg iT with ⟨e0,_⟩ | ⟨b',Rj,gU,us,el,e1,Mq,hb,dJ,dy,db⟩
 ·rw[e0] at hi;simp at hi
 rw[fw] at e1
 simp only[Value.slice.injEq,Option.some.injEq,Addr.mk.injEq,and_true] at e1
 obtain⟨⟨rfl,rfl⟩,rfl,rfl⟩:=e1
 have hmul:i*ao sq.t+ao sq.t≤sq.xs.length*ao sq.t:=by
  have:(i+1)*ao sq.t≤sq.xs.length*ao sq.t:=Nat.mul_le_mul_right _ hi
  rw[Nat.add_mul] at this;omega
 have B5:sq.xs.length*ao sq.t≤cap*ao sq.t:=Nat.mul_le_mul_right _ dJ
 have hsR:∃s1,aQ ro.t ro.xs (q++[(i,j)])=some s1:=by
  have hx:=eo hi
  rw[jQ iT] at hs
  rw[cn _ iT]
  simp only[sub,aQ,hx] at hs ⊢
  split at hs
  ·rename_i t' ys' hc;first | exact⟨_,rfl⟩ | (simp only[hc];exact⟨_,rfl⟩)
  ·cases hs
 obtain⟨s1,mo⟩:=hsR
 have:=cV mo
 rw[hs] at this;cases this
 have cK:∀k,F2 k→fx w0 Mf g st k∧k<w.heap.size:=fun k hk=>T.free I0 (by simp) hk
 obtain⟨zj,h0,DK⟩:=gV
 obtain⟨mq,h1,h2⟩:=hr.fill mo hz fw iT hb hu DK h0 fun k hk jf=>(cK k hk).1.r id cH jf
 have bR:=dZ w b (putAt us (oo+i*ao sq.t+j) #[u])
 have gY:Kept w0 (w.setRow b (putAt us (oo+i*ao sq.t+j) #[u])) Mf:=I.kept.step rfl rfl rfl bR (fun k e=>by subst e;exact I.apart.cj id _ cH Mq)
 refine⟨us,el,hb,by omega,_,by rfl,I.iI (ro':=⟨ro.t,.deep,ro.ver,ro.log++[q.length],zs⟩) (.inl eh) bR gY (fun k e=>by subst e;exact I.alone cH Mq) (fun _ h=>h) (fun aK k h1 _ h3=>I.apart.ew aK k h1 h3)
  I.apart.fI (fun k h=>Nat.lt_of_lt_of_le (I.apart.da k h) bR.1) I.apart.bM rfl rfl (l:=[q.length]) rfl (av:=mq) (F:=fun k=>g.rf id k∨F2 k) (fun r jf=> ?_) ?_ (fun k hk=> ?_)⟩
 ·have hrl:r.length≤q.length:=jf _ (by simp)
  have Yb : ¬(q++[(i,j)]) <+: r:=fun hp=>by
   have:=hp.length_le
   simp at this
   omega
  exact⟨h1 r Yb,fun sr hsr=>qO mo hz r sr Yb hsr⟩
 ·unfold aX
  simp only[Gh.bV,if_true]
  exact h2
 ·rcases hk with hk | hk
  ·exact⟨(I.alone cH hk).r,(I.alone cH hk).ro,(I.alone cH hk).b,I.apart.cj id k cH hk,Nat.lt_of_lt_of_le (I.apart.er id k cH hk) bR.1⟩
  ·obtain⟨hf,cc⟩:=cK k hk
   exact⟨fun aK h1 _=>hf.r aK h1,hf.ro,hf.b,hf.fV,Nat.lt_of_lt_of_le cc bR.1⟩
end Go.Gm
namespace Go.Gm
open Go
variable {R : Type} {P : Program} {E : Env} {w0 w : World} {Mf : Nat → Prop} {g : Gh} {st : St} {a : Act} {Q : Exit → Act → World → Prop}
  {o:Oper} {k:Dl→Option R} {r:R} {K:Act→World→Prop}
theorem kI{w':World}(hd:o.dst=none)(h:(execOp a.eval o).run P w = .ok .skip w')(hK:K a w'):o.wp P a w K Q:=by
 unfold Oper.wp;rw[h,Oper.upon_skip,hd];exact hK
theorem B8(t:Ty)(x:El t)(j:Nat):((enc t x)[j]?).map Cv.kind=(kinds t)[j]? :=by
 rw[← ql t x,List.getElem?_map]
theorem MV(hE:E.Ok P)(I:Inv w0 Mf g st a w)(hK:Then w0 Mf g st k r K){T:Nat}{x y:Operand}(bZ:o.op = .store T x y)
 (h:eQ E o st k=some r):o.wp P a w K Q:=by
 simp only[eQ,bZ] at h
 replace h:=bg h;obtain⟨jg,h⟩:=h
 have jg:=Option.isNone_iff_eq_none.1 jg
 replace h:=aR h;obtain⟨t,hT,h⟩:=h
 replace h:=I.fu h;obtain⟨c,h,hc⟩:=h
 replace h:=I.dq h;obtain⟨s,h,hs⟩:=h
 replace h:=aR h;obtain⟨cs,fc,h⟩:=h
 replace h:=bg h;obtain⟨hlen,h⟩:=h
 have hlen:=gB hlen
 obtain⟨vs,eM,pC⟩:=dr fc hs
 have Mr:vs.size=cs.length:=pC.1
 have dM:∀(b off:Nat)(us:Array Value)(el:Nat),a.eval x = .pointer (some ⟨b,off,none⟩)→w.heap[b]? =some (.cells us el (0,0))→off+ao t≤us.size→
   (execOp a.eval o).run P w = .ok .skip (w.setRow b (putAt us off vs)):=by
  intro b off us el hx hb hl
  have:=ni hE hT (off:=off) hb eM (by omega) hl pC.flat
  rw[iW (by omega)] at this
  simp[execOp,bZ,Instr.storeAt,hx,Instr.sureAddr,this]
 split at h
 ·-- into a variable in memory
  rename_i b off
  replace h:=aR h;obtain⟨bx,u6,h⟩:=h
  replace h:=bg h;obtain⟨hl,h⟩:=h
  have hl:=gT hl
  obtain⟨us,el,hb,ll⟩:=I.boxes b bx u6
  have oZ:=ll.1
  have cH:bz st b:=by simp[bz,u6]
  refine kI jg (dM _ _ us el hc.2.1 hb (by omega)) (hK _ g _ _ h rfl ?_)
  have bR:=dZ w (g.bx b) (putAt us off vs)
  have pG:=ll.set pC off (by omega)
  rw[iW (by omega)] at pG
  have:=I.ng (t:=bx.t) cH bR (I.kept.step rfl rfl rfl bR (fun k e=>by subst e;exact I.apart.dN b cH)) (setRow_heap w _ us _ el (0,0) hb) pG
  simpa [St.apply,ck] using this
 ·-- into an own list
  rename_i id ver iv p i off
  replace h:=de h;obtain⟨ro,dh,h⟩:=h
  split at h
  ·rename_i p0 tJ
   replace h:=bg h;obtain⟨heq,h⟩:=h
   have heq:=BR.1 heq
   subst heq
   split at h
   case h_2=>cases h
   rename_i c1 _
   replace h:=aR h;obtain⟨s0,RA,h⟩:=h
   obtain⟨u1,RB,gu⟩:=pC.2 0 c1 rfl
   have Y4:vs = #[u1]:=by
    apply Array.ext_getElem?
    intro n
    cases n with
    |zero=>simpa using RB
    |succ n=>rw[Array.getElem?_eq_none (by rw[Mr];simp),Array.getElem?_eq_none (by simp)]
   subst Y4
   replace h:=I.iM h gu;obtain⟨cv,d,aI,fe,F,h,I',TK,hr,ho⟩:=h
   replace h:=bg h;obtain⟨hd,h⟩:=h
   subst hd
   replace h:=dg h;obtain⟨sK,eh,fJ,h⟩:=h
   have zK:=TK.live id sK eh
   have:sK=ro:=by have:=zK.symm.trans dh.1;simpa using this
   subst this
   replace h:=aR h;obtain⟨ys,Ge,h⟩:=h
   replace h:=aR h;obtain⟨zs,hz,h⟩:=h
   obtain⟨s',b,oo,n,cap,h1,h2,h3,hu⟩:=hc.2.2 sK dh.x
   have hm:sK.md = .part (.hole (p++[(i,off)])):=by
    cases hq:sK.md with
    |part k=>
     cases k with
     |cur a b=>rw[hq] at tJ;cases tJ
     |hole p1=>rw[hq] at tJ;cases tJ;rfl
    |_=>rw[hq] at tJ;cases tJ
   have hj:off<ao s'.t:=by
    rw[jQ h1] at RA
    simp only[sub] at RA
    split at RA
    ·rename_i j0;exact hQ j0
    ·cases RA
   have U8:=Cv.eO Ge
   subst U8
   obtain⟨us,el,hb,dQ,g',hn,I2⟩:=I.DR I' TK eh hm h1 h2 RA gu.1 (ho rfl) hz h3 hj
   refine kI jg (dM _ _ us el (by rw[hu]) hb (by simp only[List.length_cons,List.length_nil] at hlen;omega)) (hK _ g' _ _ h hn ?_)
   have ix:=TK.eq
   subst ix
   simpa [St.apply,bh,ck] using I2
  replace h:=aR h;obtain⟨s1,mo,h⟩:=h
  replace h:=bg h;obtain⟨ji,h⟩:=h
  replace h:=I.mE h pC.l;obtain⟨cv,d,aI,fe,Gs,h,I',TK,hA⟩:=h
  replace h:=dg h;obtain⟨sK,eh,fJ,h⟩:=h
  have zK:=TK.live id sK eh
  have:sK=ro:=by have:=zK.symm.trans dh.1;simpa using this
  subst this
  replace h:=bg h;obtain⟨hdp,h⟩:=h
  replace h:=aR h;obtain⟨y1,hy1,h⟩:=h
  replace h:=aR h;obtain⟨zs,hz,h⟩:=h
  obtain⟨s',b,oo,n,cap,h1,h2,h3,hu⟩:=hc.2.2 sK dh.x
  have:=cV h1;rw[mo] at this;cases this
  simp only[Bool.and_eq_true,Bool.or_eq_true,Bool.not_eq_true',List.isEmpty_iff] at ji
  obtain⟨cI,hl⟩:=ji
  have hl:=gT hl
  have MW:=eo h2
  have DA:=(cY hy1).symm
  have U8:cv.length=cs.length:=by have:=hA.len.1;simp[Mr] at this;omega
  have MX:sK.md.bF=true∨(sK.md.ja=true∧p=[]):=cI
  have ix:=TK.eq
  cases B9:cv.all fun c=>c.kind.isNone
  ·-- lists go in
   simp only[B9,cond_false] at h
   by_cases o3:sK.md.bF=true∧d=true
   ·obtain⟨hm,rfl⟩:=o3
    have BW:sK.md = .deep:=by cases hq:sK.md<;>simp_all [Md.bF]
    obtain⟨us,el,hb,dQ,g',hn,I2⟩:=I.DO I' TK eh h1 BW MW hA DA (by omega) hz h3
    refine kI jg (dM _ _ us el (by rw[hu]) hb (by omega)) (hK _ g' _ _ h hn ?_)
    subst ix
    rw[BW]
    simpa [St.apply,bh,ck,Md.meet] using I2
   ·have hp:p=[]:=by
     rcases MX with hm | hm
     ·simp only[Bool.or_eq_true,List.isEmpty_iff] at hdp
      rcases hdp with hd | hp
      ·exact (o3 ⟨hm,hd⟩).elim
      ·exact hp
     ·exact hm.2
    have sJ:sK.md.cq=false:=by
     rcases MX with hm | hm
     ·cases hq:sK.md<;>simp_all [Md.bF,Md.cq]
     ·cases hq:sK.md<;>simp_all [Md.ja,Md.cq]
    have DJ:sK.md.cU=false:=by
     rcases MX with hm | hm
     ·cases hq:sK.md<;>simp_all [Md.bF,Md.cU]
     ·cases hq:sK.md<;>simp_all [Md.ja,Md.cU]
    subst hp
    simp only[aQ,Option.some.injEq] at h1
    subst h1
    have DG:=qN hz
    subst DG
    obtain⟨us,el,hb,dQ,g',hn,I2⟩:=I.DP I' TK eh sJ DJ MW hA DA (by simp only at hl ⊢;omega) h3
    refine kI jg (dM _ _ us el (by rw[hu]) hb (by simp only at hl dQ ⊢;omega)) (hK _ g' _ _ h hn ?_)
    have U9:sK.md.meet d = .iZ:=by
     cases hq:sK.md<;>cases d<;>simp_all [Md.meet,Md.bF,Md.cq,Md.cU]
    rw[U9]
    subst ix
    simpa [St.apply,bh,ck] using I2
  ·simp only[B9,cond_true] at h
   rw[List.all_eq_true] at B9
   have m8:∀(j:Nat) c,cv[j]? =some c→∃z,vs[j]? =some z∧c = .v z:=by
    intro j c hj
    obtain⟨z,hz,hr⟩:=hA.rd.get j c hj
    have:=B9 c (List.mem_of_getElem? hj)
    cases c with
    |v q=>exact⟨z,by simpa using hz,by simp only[lQ] at hr;rw[hr]⟩
    |l t' ys=>simp[Cv.kind] at this
   obtain⟨us,el,hb,dQ,g',hn,I2⟩:=I'.DN eh h1 MX MW m8 (by omega) (fun j c X8 YK xl=>by
     have e1:=B8 s1.t (ax s1.xs i) j
     have e2:=B8 s1.t y1 j
     rw[← e1,DA,iU (by rw[aS];omega),if_pos ⟨X8,YK⟩,xl] at e2
     have hj3:j-off<cv.length:=by omega
     rw[List.getElem?_eq_getElem hj3] at e2
     have:=B9 cv[j-off] (List.getElem_mem hj3)
     simp only[Option.map_some,Option.some.injEq] at e2
     cases c with
     |v q=>exact⟨q,rfl⟩
     |l t' ys=>rw[e2] at this;simp[Cv.kind] at this) DA (by omega) hz h3
   refine kI jg (dM _ _ us el (by rw[hu]) hb (by omega)) (hK _ g' _ _ h hn ?_)
   subst ix
   simpa [St.apply,bh,ck] using I2
 ·cases h
theorem nk(t e ty:TypeId)(zv:Value)(ht:P.underlying t=some (.slice e))(hv:∀w,(zeroValue e).run P w = .ok zv w)(hz:∀v∈zv.cells.toList,v.oneCell'=true)(hz0:0<zv.cells.size)(b o n c:Nat)(hn:0<n)(cs:Array Value)(el:TypeId)
 (hb:w.heap[b]? =some (.cells cs el (0,0))) (ek:o+n*zv.cells.size≤cs.size):
 (Builtin.clear_ #[t] ty #[.slice (some ⟨b,o,none⟩) n c]).run P w = .ok (.tuple #[]) (w.setRow b (putAt cs o (Builtin.zeroCells zv.cells n))):=by
 have zL:∀v∈(Builtin.zeroCells zv.cells n).toList,v.oneCell'=true:=by
  intro v FK
  simp only[Builtin.zeroCells,Array.toList_map,List.mem_map] at FK
  obtain⟨i,_,rfl⟩:=FK
  refine hz _ ?_
  have cc:i%zv.cells.size<zv.cells.size:=Nat.mod_lt _ hz0
  rw[getElem!_pos zv.cells _ cc]
  exact Array.getElem_mem_toList cc
 have dQ:=size_zeroCells zv.cells n
 have ix:=run_storeCells_at P b o el (Builtin.zeroCells zv.cells n).toList 0 cs w hb (by simp[dQ];omega) zL
 simp only[Nat.add_zero] at ix
 rw[← iW (by rw[dQ];omega)]
 obtain⟨m,rfl⟩:∃m,n=m+1:=⟨n-1,by omega⟩
 simp[Builtin.clear_,run_underlying ht,hv,ix]
theorem DS{e:Ty}:∀v∈(dY e),v.oneCell'=true:=by
 intro v hv
 simp only[dY] at hv
 obtain⟨c,hc,rfl⟩:=List.mem_map.1 hv
 obtain⟨m,hm⟩:=List.getElem?_of_mem hc
 cases c with
 |v x=>exact lp (ff (P':=fun _=>True) (w:=default) hm rfl)
 |l t ys=>rfl
theorem kf{t:Ty}(h:(kinds t).all (fun q=>q.isNone)=true)(xs:List (El t)){p:Path}(hp:p≠[]):aQ t xs p=none:=by
 cases p with
 |nil=>exact (hp rfl).elim
 |cons x p=>
  obtain⟨i,j⟩:=x
  simp only[aQ]
  split
  ·split
   ·rename_i hc
    obtain⟨_,e⟩:=qK h hc
    cases e
   ·rfl
  ·rfl
theorem Inv.PU(I:Inv w0 Mf g st a w){id:Nat}{ro:cy}(eh:ak st.roots id=some (.live ro))(cI:ro.md = .deep)(j3:(kinds ro.t).all (fun q=>q.isNone)=true){ys:List (El ro.t)}(hlen:ys.length=ro.xs.length)
    {w':World} (h1:w'.os=w.os) (h2:w'.tape=w.tape) (h3:w'.output=w.output) (hs:bw (g.rf id) w w') (dz:bp w' (g.rf id) ro.t ys (g.rv id []) fun i j=>g.rv id [(i,j)]):
    ∃g':Gh,g'.n=g.n∧Inv w0 Mf g' { st with roots:=bc st.roots id (.live ⟨ro.t,ro.md,ro.ver,ro.log,ys⟩) } a w':=by
 have cH:aT st id:=⟨ro,eh,by rw[cI];rfl⟩
 have gY:Kept w0 w' Mf:=I.kept.step h1 h2 h3 hs (fun k e=>I.apart.cj id _ cH e)
 have k0:aX w' (({ g with ro:=g.ro }:Gh).bV id (g.rv id) (g.rf id)) id ⟨ro.t,ro.md,ro.ver,ro.log,ys⟩:=by
  unfold aX
  simp only[Gh.bV,if_true,cI]
  refine⟨fun p s hp=> ?_,fun p q s s' b hp hq _ _=> ?_⟩
  ·by_cases e:p=[]
   ·subst e;simp only[aQ,Option.some.injEq] at hp;subst hp;exact dz
   ·rw[kf j3 ys e] at hp;cases hp
  ·have e1:p=[]:=Classical.byContradiction fun e=>by rw[kf j3 ys e] at hp;cases hp
   have e2:q=[]:=Classical.byContradiction fun e=>by rw[kf j3 ys e] at hq;cases hq
   rw[e1,e2]
 exact⟨_,by rfl,I.iI (ro':=⟨ro.t,ro.md,ro.ver,ro.log,ys⟩) (.inl eh) hs gY (fun k e=>I.alone cH e) (fun _ h=>h) (fun aK k h1 _ h3=>I.apart.ew aK k h1 h3)
  I.apart.fI (fun k h=>Nat.lt_of_lt_of_le (I.apart.da k h) hs.1) I.apart.bM rfl rfl (l:=[]) (by simp) (fun q _=>⟨rfl,fun sq iT=>by
   by_cases e:q=[]
   ·subst e;simp only[aQ,Option.some.injEq] at iT;subst iT;exact⟨_,rfl,rfl,hlen⟩
   ·rw[kf j3 ro.xs e] at iT;cases iT⟩) k0
  (fun k hk=>⟨(I.alone cH hk).r,(I.alone cH hk).ro,(I.alone cH hk).b,I.apart.cj id k cH hk,Nat.lt_of_lt_of_le (I.apart.er id k cH hk) hs.1⟩)⟩
theorem nn{α:Type}(z:α){xs:List α}{lo hi:Nat}(h1:lo≤hi)(h2:hi≤xs.length):(oi z xs lo hi).length=xs.length:=by simp[oi];omega
theorem Gk{α:Type}(z:α){xs:List α}{lo hi:Nat}(h1:lo≤hi)(h2:hi≤xs.length)(i:Nat):(oi z xs lo hi)[i]? =if lo≤i∧i<hi then some z else xs[i]? :=by
 unfold oi
 by_cases h3:i<lo
 ·rw[List.append_assoc,List.getElem?_append_left (by simp;omega),List.getElem?_take,if_pos h3,if_neg (by omega)]
 ·by_cases h4:i<hi
  ·rw[List.getElem?_append_left (by simp;omega),List.getElem?_append_right (by simp;omega),if_pos (by omega),List.getElem?_replicate]
   simp;omega
  ·rw[List.getElem?_append_right (by simp;omega),List.getElem?_drop,if_neg (by omega)]
   congr 1;simp;omega
theorem MY(hE:E.Ok P)(I:Inv w0 Mf g st a w)(hK:Then w0 Mf g st k r K){c:Call}(bZ:o.op = .call c)(hc:c.callee = .builtin .clear)
 (h:eQ E o st k=some r):o.wp P a w K Q:=by
 simp only[eQ,bZ,hc,eP] at h
 split at h
 case h_2=>cases h
 rename_i x T fZ FY
 have hI:c.args = #[x]:=by apply Array.ext';simpa using fZ
 have xE:c.argTypes = #[T]:=by apply Array.ext';simpa using FY
 replace h:=bg h;obtain⟨jg,h⟩:=h
 have jg:=Option.isNone_iff_eq_none.1 jg
 replace h:=aR h;obtain⟨e,he,h⟩:=h
 obtain⟨el,hu,lR⟩:=hE.slice (fK he)
 obtain⟨ii,zv,lf,dQ,Rm,hz,qG⟩:=hE.info el e lR
 replace h:=I.fu h;obtain⟨c',h,j0⟩:=h
 split at h
 case h_2=>cases h
 rename_i id ver lo hi
 replace h:=dg h;obtain⟨ro,hv,fJ,h⟩:=h
 obtain⟨h1,h2,hx⟩:=j0.2.2 ro ⟨.inl hv,fJ,fY _ _⟩
 replace h:=bg h;obtain⟨ji,h⟩:=h
 simp only[Bool.and_eq_true] at ji
 obtain⟨cI,Gl,dm⟩:=ji
 have Gl:=gB Gl
 have cI:ro.md = .deep:=by cases hq:ro.md<;>simp_all [Md.bF]
 replace h:=aR h;obtain⟨z,FI,h⟩:=h
 have hez:enc ro.t z=enc e (zero e):=(cY FI).symm
 have j3:(kinds ro.t).all (fun q=>q.isNone)=true:=by
  rw[← ql ro.t z,hez,List.all_map];exact dm
 have me:=eN e
 have DG:zv.cells.size=ao e:=by rw[qG];simp[dY,aS]
 have key:∀w',(Builtin.clear_ #[T] o.type #[a.eval x]).run P w = .ok (.tuple #[]) w'→(∃ g',g'.n=g.n∧Inv w0 Mf g' { st with roots:=bc st.roots id (.live ⟨ro.t,ro.md,ro.ver,ro.log,oi z ro.xs lo hi⟩) } a w')→o.wp P a w K Q:=by
  rintro w' hr ⟨g',hn,I'⟩
  have dM:(execOp a.eval o).run P w = .ok (.value (.tuple #[])) w':=by simp[execOp,bZ,resolve,hc,invoke,builtin,hI,xE,hr]
  unfold Oper.wp
  rw[dM,Oper.upon_value,jg]
  refine hK _ g' _ _ h hn ?_
  show Inv w0 Mf g' _ a w'
  simpa [St.apply,ck] using I'
 have cH:aT st id:=⟨ro,hv,by rw[cI];rfl⟩
 have dz:=(I.roots id ro hv).node (p:=[]) (s:=⟨ro.t,ro.xs⟩) rfl (.inl (by rw[cI];rfl))
 simp only[List.nil_append] at dz
 by_cases hlh:lo=hi
 ·subst hlh
  have e:oi z ro.xs lo lo=ro.xs:=by simp[oi]
  have tK:∃ad cap,a.eval x = .slice ad 0 cap:=by
   rw[hx]
   rcases dz with ⟨_,e⟩ | ⟨b,oo,cap,cs,mc,e,_⟩<;>rw[e]<;>simp[jM]
  obtain⟨ad,cap,e1⟩:=tK
  refine key w ?_ (I.PU hv cI j3 (by rw[e]) rfl rfl rfl ⟨Nat.le_refl _,fun _ _ _=>rfl⟩ (by rw[e];exact dz))
  rw[e1]
  cases ad<;>simp[Builtin.clear_,run_underlying hu]
 ·rcases dz with ⟨e,_⟩ | ⟨b,oo,cap,cs,mc,e1,hF,hb,dJ,dy,db⟩
  ·have e:ro.xs=[]:=e
   rw[e] at h2;simp at h2;omega
  ·have dJ:ro.xs.length≤cap:=dJ
   have dy:oo+cap*ao ro.t≤cs.size:=dy
   have db:RowsIn ro.t ro.xs cs oo fun i j=>g.rv id [(i,j)]:=db
   rw[← Gl] at dy
   have e2:a.eval x = .slice (some ⟨b,oo+lo*ao e,none⟩) (hi-lo) (cap-lo):=by
    rw[hx,e1]
    simp only[jM]
    rw[if_neg (by omega),Option.map_some,ez,←Gl]
   have m1:lo*ao e≤hi*ao e:=Nat.mul_le_mul_right _ h1
   have m2:hi*ao e≤cap*ao e:=Nat.mul_le_mul_right _ (by omega)
   have m3:(hi-lo)*ao e=hi*ao e-lo*ao e:=Nat.sub_mul _ _ _
   have PV:(Builtin.zeroCells zv.cells (hi-lo)).size=hi*ao e-lo*ao e:=by rw[size_zeroCells,DG,m3]
   have ek:oo+lo*ao e+(Builtin.zeroCells zv.cells (hi-lo)).size≤cs.size:=by rw[PV];omega
   have qz:=nk (P:=P) T el o.type zv hu (fun w=>by simp[zeroValue,typeInfo,lf,hz]) (by rw[qG];simpa using DS) (by omega) b (oo+lo*ao e) (hi-lo) (cap-lo) (by omega) cs mc hb (by rw[DG,m3];omega)
   have bR:=dZ w b (putAt cs (oo+lo*ao e) (Builtin.zeroCells zv.cells (hi-lo)))
   have fl:=setRow_heap w b cs (putAt cs (oo+lo*ao e) (Builtin.zeroCells zv.cells (hi-lo))) mc (0,0) hb
   generalize hW:w.setRow b (putAt cs (oo+lo*ao e) (Builtin.zeroCells zv.cells (hi-lo)))=W at qz bR fl
   refine key W (by rw[e2];exact qz) (I.PU hv cI j3 (nn z h1 h2) (by rw[← hW];rfl) (by rw[← hW];rfl) (by rw[← hW];rfl) ⟨bR.1,fun k h3 h4=>bR.2 k h3 fun e=>h4 (by subst e;exact hF)⟩
     (.inr ⟨b,oo,cap,_,mc,by rw[e1,nn z h1 h2],hF,fl,by rw[nn z h1 h2];exact dJ,by rw[cF ek,←Gl];exact dy,?_⟩))
   intro i y j c0 hy j0
   have hj:=hQ j0
   rw[Gk z h1 h2] at hy
   rw[eU ek,PV]
   have mi:i*ao ro.t=i*ao e:=by rw[Gl]
   have m4:i<lo→i*ao ro.t+ao ro.t≤lo*ao e:=fun hi=>by
    have:(i+1)*ao e≤lo*ao e:=Nat.mul_le_mul_right _ hi
    rw[Nat.add_mul] at this;omega
   have m5:hi≤i→hi*ao e≤i*ao ro.t:=fun hi=>by rw[← Gl];exact Nat.mul_le_mul_right _ hi
   by_cases kZ:lo≤i∧i<hi
   ·rw[if_pos kZ] at hy
    cases hy
    have m6:lo*ao e≤i*ao ro.t:=by rw[← Gl];exact Nat.mul_le_mul_right _ kZ.1
    have m7:i*ao ro.t+ao ro.t≤hi*ao e:=by
     have:(i+1)*ao e≤hi*ao e:=Nat.mul_le_mul_right _ kZ.2
     rw[Nat.add_mul] at this;omega
    rw[if_pos (by omega)]
    rw[hez] at j0
    have sR:j<ao e:=by omega
    refine⟨zv.cells[j]'(by omega),?_,?_⟩
    ·have Y5:oo+i*ao ro.t+j-(oo+lo*ao e)=(i-lo)*ao e+j:=by
      have:(i-lo)*ao e=i*ao e-lo*ao e:=Nat.sub_mul _ _ _
      omega
     rw[Y5]
     have cc:(i-lo)*ao e+j<(hi-lo)*zv.cells.size:=by
      rw[DG,m3]
      have:(i-lo)*ao e=i*ao e-lo*ao e:=Nat.sub_mul _ _ _
      rw[← Gl] at m7 m6;omega
     unfold Builtin.zeroCells
     rw[Array.getElem?_map,Array.getElem?_range,if_pos cc]
     simp only[Option.map_some,Option.some.injEq]
     have Rv:((i-lo)*ao e+j)%zv.cells.size=j:=by rw[DG,Nat.mul_comm,Nat.mul_add_mod];exact Nat.mod_eq_of_lt sR
     rw[Rv,getElem!_pos zv.cells j (by omega)]
    ·rw[List.all_eq_true] at dm
     have:=dm c0 (List.mem_of_getElem? j0)
     cases c0 with
     |v q=>
      simp only[dH]
      have hq:(dY e)[j]? =some q:=by simp[dY,j0]
      have:zv.cells[j]? =some q:=by rw[qG];simpa using hq
      rw[Array.getElem?_eq_getElem (by omega)] at this
      exact Option.some.inj this
     |l t' ys=>simp[Cv.kind] at this
   ·rw[if_neg kZ] at hy
    obtain⟨u,lS,gu⟩:=db i y j c0 hy j0
    refine⟨u,?_,gu⟩
    rw[if_neg ?_]
    ·exact lS
    ·intro h5
     by_cases h6:i<lo
     ·have:=m4 h6;omega
     ·have:=m5 (by omega);omega
theorem Inv.U'(I:Inv w0 Mf g st a w){id:Nat}{r:cy}(h:ak st.roots id=some (.live r)){p:Path}(hp:r.md.nodeAt p=true){s:Sl}(hs:aQ r.t r.xs p=some s){P:Nat→Prop}(dh:∀k,g.ro k→P k)(hr:aT st id→∀k,g.rf id k→P k):
    eH w P s.t s.xs (g.rv id p) fun i j=>g.rv id (p++[(i,j)]):=by
 have hR:=I.roots id r h
 unfold aX at hR
 split at hR
 ·rename_i hm;exact (hR.rd p s hs).mono (hr ⟨r,h,by rw[hm];rfl⟩)
 ·rename_i hm;exact (hR.rd p s hs).mono fun k hk=>hk.elim (hr ⟨r,h,by rw[hm];rfl⟩ k) (dh k)
 ·exact (hR p s hs).mono dh
 ·rename_i hm;rw[hm,oY] at hp;exact (hR.1 p s hp hs).rd.mono (hr ⟨r,h,by rw[hm];rfl⟩)
theorem Inv.MZ(I:Inv w0 Mf g st a w){id:Nat}{r:cy}(h:ak st.roots id=some (.live r)){p:Path}(hp:r.md.iG p=true){s:Sl}(hs:aQ r.t r.xs p=some s){P:Nat→Prop}(dh:∀k,g.ro k→P k)(hr:aT st id→∀k,g.rf id k→P k):
    ep w P s.t s.xs fun q=>g.rv id (p++q):=by
 intro q s' eZ
 have:=I.U' h (qy hp q) (p:=p++q) (s:=s') (by rw[cn q hs];exact eZ) dh hr
 simpa [List.append_assoc] using this
theorem Inv.PW(I:Inv w0 Mf g st a w){id:Nat}{r:cy}(h:ak st.roots id=some (.live r))(hp:r.md.iG []=true){P:Nat→Prop}(dh:∀k,g.ro k→P k)(hr:aT st id→∀k,g.rf id k→P k):ep w P r.t r.xs (g.rv id):=by
 have hR:=I.roots id r h
 unfold aX at hR
 split at hR
 ·rename_i hm;exact hR.rd.mono (hr ⟨r,h,by rw[hm];rfl⟩)
 ·rename_i hm;exact hR.rd.mono fun k hk=>hk.elim (hr ⟨r,h,by rw[hm];rfl⟩ k) (dh k)
 ·exact hR.mono dh
 ·rename_i k hm;rw[hm] at hp;cases k<;>cases hp
theorem Inv.Va(I:Inv w0 Mf g st a w){c:Sc}{q:Option Ty}{k:Cv→Option R}{r:R}{u:Value}(h:Gm.ma st c q k=some r)(hc:bf w g st c u){P:Nat→Prop}(dh:∀k,g.ro k→P k)
 (hr:∀id∈c.names.2,aT st id→∀k,g.rf id k→P k):∃cv,k cv=some r∧lQ w P cv u:=by
 unfold Gm.ma at h
 split at h
 ·exact⟨_,h,hc.2⟩
 ·exact⟨_,h,BU _ _ _ ⟨none,0,hc.2⟩⟩
 ·exact⟨_,h,fk.mono dh hc.2⟩
 ·exact⟨_,h,fk.mono dh (I.X5 hc.2)⟩
 ·rename_i id ver iv p t
  obtain⟨ro,hv,h⟩:=de h
  obtain⟨DB,h⟩:=bg h
  obtain⟨s,hs,h⟩:=aR h
  obtain⟨hu,je⟩:=hc.2.2 ro hv.x
  obtain⟨s',eZ⟩:=Option.isSome_iff_exists.1 je
  have:=cV eZ
  rw[hs] at this;cases this
  refine⟨_,h,_,?_,I.MZ hv.1 DB eZ dh (hr id (by simp[Sc.names]))⟩
  simpa using hu.symm
 ·rename_i id ver lo hi t
  obtain⟨ro,hv,fJ,h⟩:=dg h
  obtain⟨DB,h⟩:=bg h
  obtain⟨h1,h2,hu⟩:=hc.2.2 ro ⟨.inl hv,fJ,fY _ _⟩
  refine⟨_,h,?_⟩
  simp only[lQ,hu]
  exact (I.PW hv DB dh (hr id (by simp[Sc.names]))).cut h1 h2
 ·cases h
theorem Inv.RC(I:Inv w0 Mf g st a w){P:Nat→Prop}(dh:∀k,g.ro k→P k):∀{cs:List Sc}{qs:List (Option Ty)}{k:List Cv→Option R}{r:R}{us:List Value},Gm.zy st cs qs k=some r→ka w g st cs us→
 (∀ c∈cs,∀id∈c.names.2,aT st id→∀k,g.rf id k→P k)→∃cv,k cv=some r∧gK w P cv us
 | [],[],k,r,us,h,hc,_=>by
  cases us with
  |nil=>exact⟨[],h,trivial⟩
  |cons u us=>exact hc.elim
 |c::cs,q::qs,k,r,us,h,hc,hr=>by
  cases us with
  |nil=>exact hc.elim
  |cons u us=>
   obtain⟨cv,h1,h2⟩:=I.Va h hc.1 dh (hr c (by simp))
   obtain⟨xy,h3,h4⟩:=I.RC dh h1 hc.2 (fun c hc=>hr c (by simp[hc]))
   exact⟨cv::xy,h3,h2,h4⟩
 | [],_::_,k,r,us,h,hc,_=>by cases h
 |_::_,[],k,r,us,h,hc,_=>by cases h
theorem sY{t:Ty}{s:Sv}{cs:List Sc}(h:fa t s=some cs):s.cells=cs:=by
 unfold fa at h
 split at h
 ·simp only[Option.some.injEq] at h;subst h;rfl
 ·simp only[Option.some.injEq] at h;subst h;rfl
 ·cases h
theorem Inv.M0(I:Inv w0 Mf g st a w){t:Ty}{s:Sv}{k:El t→Option R}{r:R}{u:Value}(h:Gm.og st t s k=some r)(hs:dX w g st s u){P:Nat→Prop}(dh:∀k,g.ro k→P k)
 (hr:∀c∈s.cells,∀id∈c.names.2,aT st id→∀k,g.rf id k→P k):∃x,k x=some r∧lh w P t x u:=by
 obtain⟨cs,fc,h⟩:=aR h
 obtain⟨us,hf,hc⟩:=dr fc hs
 have:=sY fc
 subst this
 obtain⟨cv,h1,h2⟩:=I.RC dh h hc.l hr
 obtain⟨x,hx,h3⟩:=aR h1
 refine⟨x,h3,us,hf,?_⟩
 rw[← cY hx]
 exact h2.arr
def Sc.iK:Sc→Bool | .dead=>true | _=>false
structure Y6 (g:Gh) (st:St) (P:Nat→Prop) (s:Sv):Prop where
 ro:∀k,g.ro k→P k
 r:∀c∈s.cells,∀id∈c.names.2,aT st id→∀k,g.rf id k→P k
 b:(∀ c∈s.cells,c.names.1=[])∨((∀ b x,ak st.boxes b=some x→(∃ c∈x.cs,c.iK=false)→P (g.bx b))∧∀id,aT st id→∀k,g.rf id k→P k)
theorem gG.mono{P Q:Nat→Prop}(tB:∀k,P k→Q k){t:Ty}{x:El t}{off:Nat}{u:Value}(h:gG w P t x off u):gG w Q t x off u:=by
 obtain⟨b,oo,cs,el,fz,h1,h2,h3,h4⟩:=h
 exact⟨b,oo,cs,el,fz,h1,tB _ h2,h3,fun j c hj=>let ⟨z,hz,hc⟩:=h4 j c hj;⟨z,hz,hc.mono tB⟩⟩
theorem xN:∀{cs:List Sc}{qs:List (Option Ty)}{k:List Cv→Option R}{r:R},zy st cs qs k=some r→∀c∈cs,c.iK=false
 | [],_,_,_,_,c,hc=>by simp at hc
 |c::cs,[],_,_,h,_,_=>by cases h
 |c::cs,q::qs,k,r,h,c',hc=>by
  simp only[Gm.zy] at h
  have:c.iK=false∧∃cv,zy st cs qs (fun xs=>k (cv::xs))=some r:=by
   unfold Gm.ma at h
   split at h
   ·exact⟨rfl,_,h⟩
   ·exact⟨rfl,_,h⟩
   ·exact⟨rfl,_,h⟩
   ·exact⟨rfl,_,h⟩
   ·obtain⟨ro,_,h⟩:=de h
    obtain⟨_,h⟩:=bg h
    obtain⟨s,_,h⟩:=aR h
    exact⟨rfl,_,h⟩
   ·obtain⟨ro,_,_,h⟩:=dg h
    obtain⟨_,h⟩:=bg h
    exact⟨rfl,_,h⟩
   ·cases h
  obtain⟨h1,cv,h2⟩:=this
  rcases List.mem_cons.1 hc with rfl | hc
  ·exact h1
  ·exact xN h2 c' hc
theorem Inv.PX(I:Inv w0 Mf g st a w){b:Nat}{x:Bx}(hb:ak st.boxes b=some x){k:El x.t→Option R}{r:R}(h:(Gm.zy st x.cs (kinds x.t) fun cv=>(dec x.t cv).bind k)=some r){P:Nat→Prop}
 (hP:(∀ b x,ak st.boxes b=some x→(∃ c∈x.cs,c.iK=false)→P (g.bx b))∧∀id,aT st id→∀k,g.rf id k→P k) (dh:∀k,g.ro k→P k):
    ∃y,k y=some r∧gG w P x.t y 0 (.pointer (some ⟨g.bx b,0,none⟩)):=by
 obtain⟨us,el,h1,h2⟩:=I.boxes b x hb
 obtain⟨cv,h3,h4⟩:=I.RC dh h h2.l (fun c _ id _=>hP.2 id)
 obtain⟨y,hy,h5⟩:=aR h3
 have m8:=cY hy
 subst m8
 have me:0<x.cs.length:=by
  have e1:=h4.len
  have e2:=h2.1
  rw[aS] at e1
  have:=eN x.t
  simp at e1;omega
 refine⟨y,h5,g.bx b,0,us,el,_,rfl,hP.1 b x hb ⟨x.cs[0],List.getElem_mem me,?_⟩,h1,fun j c hj=> ?_⟩
 ·exact xN h _ (List.getElem_mem me)
 ·obtain⟨z,hz,hc⟩:=h4.get j c hj
  exact⟨z,by simpa using hz,hc⟩
theorem Inv.kC(I:Inv w0 Mf g st a w){P:Nat→Prop}(hP:(∀ b x,ak st.boxes b=some x→(∃ c∈x.cs,c.iK=false)→P (g.bx b))∧∀id,aT st id→∀k,g.rf id k→P k)(dh:∀k,g.ro k→P k):
    ∀{bs:List Nat}{k:List (Σ t:Ty,El t)→Option R}{r:R},Gm.kC st bs k=some r→∃ys,k ys=some r∧ys.length=bs.length∧
      ∀(i:Nat)(y:Σ t:Ty,El t)(b:Nat),ys[i]? =some y→bs[i]? =some b→gG w P y.1 y.2 0 (.pointer (some ⟨g.bx b,0,none⟩))
 | [],k,r,h=>⟨[],h,rfl,fun i y b h=>by simp at h⟩
 |b::bs,k,r,h=>by
  obtain⟨x,hx,h⟩:=aR h
  obtain⟨y,h,hy⟩:=I.PX hx h hP dh
  obtain⟨ys,h1,h2,h3⟩:=I.kC hP dh h
  refine⟨⟨x.t,y⟩::ys,h1,by simp[h2],fun i y' b' hi hb=> ?_⟩
  cases i with
  |zero=>simp only[List.getElem?_cons_zero,Option.some.injEq] at hi hb;subst hi;subst hb;exact hy
  |succ i=>exact h3 i y' b' (by simpa using hi) (by simpa using hb)
theorem Kl.nil{wl:World}{t:Ty}{u:Value}(h:u = .slice none 0 0):Kl wl t [] u:=BU _ _ _ ⟨none,0,h⟩
theorem DT{c:Sc}{q:Option Ty}{cv:Cv}{u:Value}(h:YF c q=some cv)(hc:bf w g st c u):YG g.n.wl cv u:=by
 unfold YF at h
 split at h
 ·cases h;exact hc.2
 ·cases h;exact Kl.nil hc.2
 ·cases h;exact hc.2
 ·cases h
theorem qP{cs:List Sc}{qs:List (Option Ty)}{cv:List Cv}{us:Array Value}(h:xu cs qs=some cv)(hc:ka w g st cs us.toList):BS g.n.wl cv us:=by
 have key:∀{cs:List Sc}{qs:List (Option Ty)}{cv:List Cv}{us:List Value},xu cs qs=some cv→ka w g st cs us→us.length=cv.length∧∀(j:Nat) c,cv[j]? =some c→∃z,us[j]? =some z∧YG g.n.wl c z:=by
  intro cs
  induction cs with
  |nil=>
   intro qs cv us h hc
   cases qs with
   |cons _ _=>cases h
   |nil=>
    cases h
    cases us with
    |nil=>exact⟨rfl,fun j c hj=>by simp at hj⟩
    |cons _ _=>exact hc.elim
  |cons c cs ih=>
   intro qs cv us h hc
   cases qs with
   |nil=>cases h
   |cons q qs=>
    simp only[xu] at h
    obtain⟨x,hx,h⟩:=aR h
    obtain⟨xs,pO,h⟩:=aR h
    cases h
    cases us with
    |nil=>exact hc.elim
    |cons u us=>
     obtain⟨h1,h2⟩:=ih pO hc.2
     refine⟨by simp[h1],fun j c' hj=> ?_⟩
     cases j with
     |zero=>simp only[List.getElem?_cons_zero,Option.some.injEq] at hj;subst hj;exact⟨u,rfl,DT hx hc.1⟩
     |succ j=>simpa using h2 j c' (by simpa using hj)
 obtain⟨h1,h2⟩:=key h hc
 exact⟨by simpa using h1,fun j c hj=>by simpa using h2 j c hj⟩
theorem Kl.flat{wl:World}{t:Ty}{xs:List (El t)}{u:Value}(h:Kl wl t xs u):cO u=true:=by
 obtain⟨av,h0,fw⟩:=h
 obtain⟨ad,cap,e,_⟩:=fw [] _ rfl
 rw[h0] at e;subst e;rfl
theorem qQ{xy:List Cv}{us:Array Value}(h:BS g.n.wl xy us)(hf:∀x,.v x∈xy→cO x=true):cG w g st (Dz xy) us:=by
 refine⟨by simpa [Dz] using h.1,fun j c hj=> ?_⟩
 simp only[Dz,List.getElem?_map] at hj
 cases hc:xy[j]? with
 |none=>simp[hc] at hj
 |some cv=>
  simp only[hc,Option.map_some,Option.some.injEq] at hj
  obtain⟨z,hz,hk⟩:=h.2 j cv hc
  refine⟨z,hz,?_⟩
  cases cv with
  |v x=>
   subst hj
   have hk:z=x:=hk
   subst hk
   exact⟨hf z (List.mem_of_getElem? hc),rfl⟩
  |l t xs=>
   subst hj
   exact⟨Kl.flat hk,hk⟩
theorem Inv.RD(I:Inv w0 Mf g st a w){m:Am}(hm:m.reads=true){T:Nat}{s:Sv}{u:Value}(hs:dX w g st s u){k:Dt→List Bk→St→Dl→Option R}{r:R}(h:fC E m T s st k=some r)
    {P:Nat→Prop} (hP:Y6 g st P s):∃d,k d [] st {}=some r∧∀F,qw g.n.wl w P m d u F:=by
 cases m with
 |ro=>
  obtain⟨t,ht,h⟩:=aR h
  obtain⟨x,h,hx⟩:=I.M0 h hs hP.ro hP.r
  exact⟨_,h,fun _=>hx⟩
 |sG=>
  simp only[fC] at h
  split at h
  ·rename_i b
   obtain⟨x,hx,h⟩:=aR h
   have hb:=hP.b.resolve_left fun hn=>by simpa [Sv.cells,Cm.cells,Sc.names] using hn (.pt b 0) (by simp[Sv.cells,Cm.cells])
   obtain⟨y,h,hy⟩:=I.PX hx h hb hP.ro
   have hu:u = .pointer (some ⟨g.bx b,0,none⟩):=hs.2.1
   subst hu
   exact⟨_,h,fun _=>hy⟩
  ·rename_i t x
   exact⟨_,h,fun _=>gG.mono hP.ro hs.2⟩
  ·cases h
 |fn=>
  simp only[fC] at h
  split at h
  ·rename_i f bs
   obtain⟨hu,PF⟩:=hs.2
   by_cases Yh:bs=[]
   ·subst Yh
    exact⟨_,h,fun _=>⟨[],by rw[hu];rfl,rfl,fun i y q h=>by simp at h⟩⟩
   ·have hb:=hP.b.resolve_left fun hn=>by
     have:=hn (.fq f bs) (by simp[Sv.cells,Cm.cells])
     exact Yh this
    obtain⟨ys,h,hl,hy⟩:=I.kC hb hP.ro h
    refine⟨_,h,fun _=>⟨bs.map fun b=> .pointer (some ⟨g.bx b,0,none⟩),hu,by simp[hl],fun i y q hi hq=> ?_⟩⟩
    rw[List.getElem?_map] at hq
    cases Y7:bs[i]? with
    |none=>simp[Y7] at hq
    |some b=>
     simp only[Y7,Option.map_some,Option.some.injEq] at hq
     subst hq
     exact hy i y b hi Y7
  ·rename_i f ys
   obtain⟨ps,h1,h2,h3⟩:=hs.2
   exact⟨_,h,fun _=>⟨ps,h1,h2,fun i y q hy hq=>gG.mono hP.ro (h3 i y q hy hq)⟩⟩
  ·cases h
 |Mz=>
  simp only[fC] at h
  split at h
  ·rename_i c
   exact⟨_,h,fun _=>hs.1⟩
  ·cases h
 |kp=>
  obtain⟨t,ht,h⟩:=aR h
  obtain⟨cs,fc,h⟩:=aR h
  obtain⟨us,hf,hc⟩:=dr fc hs
  obtain⟨cv,m8,h⟩:=aR h
  obtain⟨x,hx,h⟩:=aR h
  have hr:=qP m8 hc.l
  refine⟨_,h,fun _=>⟨us,hf,?_⟩⟩
  rw[← cY hx]
  exact hr
 | «mut» =>cases hm
 |jK=>cases hm
 |bX=>cases hm
theorem ef{α:Type}:∀(L:List (Nat×α))(l:List (Nat×α))(n:Nat),ak (ck l L) n=(ak (ck [] L) n).or (ak l n)
  | [],l,n=>by simp[ck,ak]
  | (m,v)::L,l,n=>by
    simp only[ck]
    rw[ef L (bc l m v) n,ef L (bc [] m v) n]
    cases h:ak (ck [] L) n with
    |some x=>simp
    |none=>
      simp only[Option.none_or,aJ]
      by_cases e:n=m
      · simp[e]
      · simp[e,ak]
def nd(st:St)(b:Nat):Prop:=∃x,ak st.boxes b=some x∧∃c∈x.cs,c.iK=false
theorem nd.at{b:Nat}(h:nd st b):bz st b:=by obtain⟨x,hx,_⟩:=h;simp[bz,hx]
structure vk (g:Gh) (w:World) (st br:St) (bs:List Bk) (d:Dl) (H:Nat→Prop):Prop where
 own:∀id,aT br id→aT st id
 live:∀id r,ak br.roots id=some (.live r)→ak st.roots id=some (.live r)
 dk:∀id r,ak st.roots id=some (.dk r)→ak br.roots id=some (.dk r)
 map:∀c u,bf w g st c u→bf w g br c u
 box:∀b,bz br b↔bz st b
 nd:∀b,nd br b→nd st b
 src:∀k,H k→(∃ id,aT st id∧g.rf id k)∨(∃ b,Gm.nd st b∧ ¬Gm.nd br b∧ .box b∈bs∧g.bx b=k)
 off:∀k,H k→∀id,aT br id→ ¬g.rf id k
 roots:∀id,(∀ r p,.root id r p ∉ bs)→ak br.roots id=ak (ck st.roots d.roots) id
 boxes:∀b,ak br.boxes b=ak (ck st.boxes d.boxes) b
 az:br.az=st.az
 jR:d.slot=none
 sZ:∀id r p,.root id r p∈bs→aT st id∧ ¬aT br id
 pH:∀b,.box b∈bs→Gm.nd st b∧ ¬Gm.nd br b
theorem vk.refl:vk g w st st [] {} (fun _=>False):=
 ⟨fun _ h=>h,fun _ _ h=>h,fun _ _ h=>h,fun _ _ h=>h,fun _=> .rfl,fun _ h=>h,fun _ h=>h.elim,fun _ h=>h.elim,fun _ _=>rfl,fun _=>rfl,rfl,rfl,fun _ _ _ h=>by simp at h,fun _ h=>by simp at h⟩
theorem vk.trans{s1 s2 s3:St}{bs cs:List Bk}{d e:Dl}{H G:Nat→Prop}(h:vk g w s1 s2 bs d H)(k:vk g w s2 s3 cs e G):vk g w s1 s3 (bs++cs) { boxes:=d.boxes++e.boxes,roots:=d.roots++e.roots } (fun n=>H n∨G n):={
 own:=fun id hi=>h.own id (k.own id hi)
 live:=fun id r hr=>h.live id r (k.live id r hr)
 dk:=fun id r hr=>k.dk id r (h.dk id r hr)
 map:=fun c u hc=>k.map c u (h.map c u hc)
 box:=fun b=>(k.box b).trans (h.box b)
 nd:=fun b hb=>h.nd b (k.nd b hb)
 src:=fun n hn=>by
  rcases hn with hn | hn
  ·rcases h.src n hn with h1 | ⟨b,h1,h2,h3,h4⟩
   ·exact .inl h1
   ·exact .inr ⟨b,h1,fun h=>h2 (k.nd b h),List.mem_append_left _ h3,h4⟩
  ·rcases k.src n hn with ⟨id,h1,h2⟩ | ⟨b,h1,h2,h3,h4⟩
   ·exact .inl ⟨id,h.own id h1,h2⟩
   ·exact .inr ⟨b,h.nd b h1,h2,List.mem_append_right _ h3,h4⟩
 off:=fun n hn id hi=>hn.elim (fun hn=>h.off n hn id (k.own id hi)) fun hn=>k.off n hn id hi
 roots:=fun id cQ=>by
  rw[k.roots id fun r p hm=>cQ r p (List.mem_append_right _ hm),ef,h.roots id fun r p hm=>cQ r p (List.mem_append_left _ hm)]
  simp only[bh]
  exact (ef e.roots _ id).symm
 boxes:=fun b=>by
  rw[k.boxes b,ef,h.boxes b]
  simp only[bh]
  exact (ef e.boxes _ b).symm
 az:=k.az.trans h.az
 jR:=rfl
 sZ:=fun id r p hm=>by
  rcases List.mem_append.1 hm with hm | hm
  ·exact⟨(h.sZ id r p hm).1,fun h2=>(h.sZ id r p hm).2 (k.own id h2)⟩
  ·exact⟨h.own id (k.sZ id r p hm).1,(k.sZ id r p hm).2⟩
 pH:=fun b hm=>by
  rcases List.mem_append.1 hm with hm | hm
  ·exact⟨(h.pH b hm).1,fun h2=>(h.pH b hm).2 (k.nd b h2)⟩
  ·exact⟨h.nd b (k.pH b hm).1,(k.pH b hm).2⟩ }
theorem iS.lnd{br:St}{fe:List (Nat×Rt)}{Fs:List (Nat→Prop)}(T:iS w g st br fe Fs):vk g w st br [] { roots:=fe } (Any Fs):={
 own:=T.own
 live:=T.live
 dk:=T.dk
 map:=T.map
 box:=fun b=>by rw[T.eq];exact .rfl
 nd:=fun b h=>by rw[T.eq] at h;exact h
 src:=fun k ⟨F,hF,hk⟩=> .inl (T.src F hF k hk)
 off:=fun k ⟨F,hF,hk⟩=>T.off F hF k hk
 roots:=fun id _=>by rw[T.eq]
 boxes:=fun b=>by rw[T.eq];rfl
 az:=by rw[T.eq]
 jR:=rfl
 sZ:=fun _ _ _ h=>by simp at h
 pH:=fun _ h=>by simp at h }
def fE(w:World)(g:Gh)(br:St)(m:Am)(u:Value)(F:Nat→Prop)(bk:List Bk)(H:Nat→Prop):Prop:=
  match m with
 | .mut=>∃id r p s,bk=[.root id r p]∧ak br.roots id=some (.dk r)∧r.md = .deep∧aW w (g.rf id) r.t r.xs (g.rv id)∧aQ r.t r.xs p=some s∧u=g.rv id p∧(∀ k,F k↔eb r.t r.xs (g.rv id) p k)∧H=g.rf id
 | .bX=>∃b,bk=[.box b]∧ ¬nd br b∧bz br b∧u = .pointer (some ⟨g.bx b,0,none⟩)∧H=F∧F (g.bx b)
 |_=>bk=[]∧H=F
theorem fE.keep{br mH:St}(hl:∀id r,ak br.roots id=some (.dk r)→ak mH.roots id=some (.dk r))(hn:∀b,nd mH b→nd br b)(hb:∀b,bz br b→bz mH b){m:Am}{u:Value}{F:Nat→Prop}{bk:List Bk}{H:Nat→Prop}
 (h:fE w g br m u F bk H):fE w g mH m u F bk H:=by
 cases m with
 | «mut» =>obtain⟨id,r,p,s,h1,h2,h3⟩:=h;exact⟨id,r,p,s,h1,hl _ _ h2,h3⟩
 |bX=>obtain⟨b,h1,h2,h3,h4⟩:=h;exact⟨b,h1,fun h=>h2 (hn b h),hb b h3,h4⟩
 |_=>exact h
theorem Inv.M1(I:Inv w0 Mf g st a w){T:Nat}{s:Sv}{u:Value}(hs:dX w g st s u){k:Dt→List Bk→St→Dl→Option R}{r:R}(h:fC E .jK T s st k=some r):
    ∃d bk br δ F H,k d bk br δ=some r∧Inv w0 Mf g br a w∧(∀ P,qw g.n.wl w P .jK d u F)∧fE w g br .jK u F bk H∧vk g w st br bk δ H:=by
 obtain⟨t,ht,h⟩:=aR h
 obtain⟨x,us,d,br,fe,Gs,h,hf,I1,T,hA⟩:=I.tw h hs
 obtain⟨hd,h⟩:=bg h
 exact⟨_,_,_,_,Any Gs,Any Gs,h,I1,fun P=>⟨us,hf,by simpa using hA.row hd T.apart⟩,⟨rfl,rfl⟩,T.lnd⟩
theorem M3{id:Nat}{ro:cy}(h:ak st.roots id=some (.live ro)):∀c u,bf w g st c u→bf w g { st with roots:=bc st.roots id (.dk ro) } c u:=by
 have hv:∀aK ver iv,cJ st aK ver iv→cJ { st with roots:=bc st.roots id (.dk ro) } aK ver iv:=by
  intro aK ver iv hv
  by_cases cQ:aK=id
  ·subst cQ
   rw[jh (.inr (bj _ _ _))]
   exact (jh (.inl h)).1 hv
  ·unfold cJ at hv ⊢
   simp only[bQ _ _ cQ];exact hv
 have hx:∀aK ver iv p r',Vx { st with roots:=bc st.roots id (.dk ro) } aK ver iv p r'→Vx st aK ver iv p r':=by
  intro aK ver iv p r' ⟨h1,h2,h3⟩
  simp only[aJ] at h1
  by_cases cQ:aK=id
  ·subst cQ
   simp only[if_true,Option.some.injEq,reduceCtorEq,Rt.dk.injEq,false_or] at h1
   subst h1;exact⟨.inl h,h2,h3⟩
  ·simp only[cQ,if_false] at h1;exact⟨h1,h2,h3⟩
 exact fun c u hc=>⟨hc.1,jZ.roots (st:=st) (fun b hb=>hb) hv (fun _ _ _ _ _ _ h=>hx _ _ _ _ _ h) hc.2⟩
theorem Inv.M4(I:Inv w0 Mf g st a w){T:Nat}{s:Sv}{u:Value}(hs:dX w g st s u){k:Dt→List Bk→St→Dl→Option R}{r:R}(h:fC E .mut T s st k=some r):
    ∃d bk br δ F H,k d bk br δ=some r∧Inv w0 Mf g br a w∧(∀ P,qw g.n.wl w P .mut d u F)∧fE w g br .mut u F bk H∧vk g w st br bk δ H:=by
 simp only[fC] at h
 split at h
 case h_2=>cases h
 rename_i id ver iv p
 obtain⟨ro,dh,h⟩:=de h
 obtain⟨o3,h⟩:=bg h
 obtain⟨s1,mo,h⟩:=aR h
 obtain⟨hu,je⟩:=hs.2.2 ro dh.x
 obtain⟨s',eZ⟩:=Option.isSome_iff_exists.1 je
 have:=cV eZ
 rw[mo] at this;cases this
 have cI:ro.md = .deep:=by cases hq:ro.md<;>simp_all [Md.bF]
 have n0:aW w (g.rf id) ro.t ro.xs (g.rv id):=by have:=I.roots id ro dh.1;unfold aX at this;rw[cI] at this;exact this
 have cH:aT st id:=⟨ro,dh.1,by rw[cI];rfl⟩
 have I1:=I.YV dh.1
 have ho:∀aK,aT { st with roots:=bc st.roots id (.dk ro) } aK→aK≠id∧aT st aK:=fun aK ⟨r',h1,h2⟩=>by
  simp only[aJ] at h1
  by_cases cQ:aK=id
  ·simp[cQ] at h1
  ·exact⟨cQ,r',by simpa [cQ] using h1,h2⟩
 refine⟨_,_,_,_,eb ro.t ro.xs (g.rv id) p,g.rf id,h,I1,fun P=>⟨s1.t,s1.xs,rfl,fun q=>g.rv id (p++q),by simpa using hu.symm,n0.at eZ⟩,
  ⟨id,ro,p,s1,rfl,bj _ _ _,cI,n0,eZ,hu,fun _=> .rfl,rfl⟩,?_⟩
 exact {
  own:=fun aK h=>(ho aK h).2
  live:=fun aK r' h=>by
   simp only[aJ] at h
   by_cases cQ:aK=id
   ·simp[cQ] at h
   ·simpa [cQ] using h
  dk:=fun aK r' Gn=>by
   simp only[aJ]
   by_cases cQ:aK=id
   ·rw[cQ,dh.1] at Gn;cases Gn
   ·simpa [cQ] using Gn
  map:=M3 dh.1
  box:=fun _=> .rfl
  nd:=fun _ h=>h
  src:=fun k hk=> .inl ⟨id,cH,hk⟩
  off:=fun k hk aK h h3=>(ho aK h).1 (I.apart.rr aK id k (ho aK h).2 cH h3 hk)
  roots:=fun aK cQ=>by
   have:aK≠id:=fun e=>cQ ro p (by rw[e];simp)
   simp only[ck]
   rw[bQ _ _ this]
  boxes:=fun _=>rfl
  az:=rfl
  jR:=rfl
  sZ:=fun aK r' p' hm=>by
   simp only[List.mem_singleton,Bk.root.injEq] at hm
   rw[hm.1]
   exact⟨cH,fun h=>(ho id h).1 rfl⟩
  pH:=fun _ h=>by simp at h }
theorem tL:∀{cs:List Sc}{st:St}{qs:List (Option Ty)}{k:List Cv→Bool→St→List (Nat×Rt)→Option R}{r:R},mE st cs qs k=some r→∀c∈cs,c.iK=false
 | [],_,_,_,_,_,c,hc=>by simp at hc
 |c::cs,_,[],_,_,h,_,_=>by cases h
 |c::cs,st,q::qs,k,r,h,c',hc=>by
  simp only[Gm.mE] at h
  have:c.iK=false∧∃aI d cv u,mE aI cs qs (fun xs d' Y8 u'=>k (cv::xs) (d&&d') Y8 (u++u'))=some r:=by
   unfold Gm.iM at h
   split at h
   ·exact⟨rfl,_,_,_,_,h⟩
   ·exact⟨rfl,_,_,_,_,h⟩
   ·exact⟨rfl,_,_,_,_,h⟩
   ·exact⟨rfl,_,_,_,_,h⟩
   ·obtain⟨ro,_,_,h⟩:=dg h
    obtain⟨_,h⟩:=bg h
    cases hf:ro.md.cq
    ·simp only[hf,cond_false] at h;exact⟨rfl,_,_,_,_,h⟩
    ·simp only[hf,cond_true] at h;exact⟨rfl,_,_,_,_,h⟩
   ·obtain⟨ro,_,_,h⟩:=dg h
    obtain⟨_,h⟩:=bg h
    cases hf:ro.md.cq
    ·simp only[hf,cond_false] at h;exact⟨rfl,_,_,_,_,h⟩
    ·simp only[hf,cond_true] at h;exact⟨rfl,_,_,_,_,h⟩
   ·cases h
  obtain⟨h1,_,_,_,_,h2⟩:=this
  rcases List.mem_cons.1 hc with rfl | hc
  ·exact h1
  ·exact tL h2 c' hc
theorem tM:∀{cs:List Sc}{qs:List (Option Ty)}{cv:List Cv},xu cs qs=some cv→∀c∈cs,c.iK=false
 | [],_,_,_,c,hc=>by simp at hc
 |_::_,[],_,h,_,_=>by cases h
 |c::cs,q::qs,cv,h,c',hc=>by
  simp only[xu] at h
  obtain⟨x,hx,h⟩:=aR h
  obtain⟨xs,pO,h⟩:=aR h
  rcases List.mem_cons.1 hc with rfl | hc
  ·cases c'<;>first | rfl | (cases q<;>cases hx)
  ·exact tM pO c' hc
theorem jN.mono{F G:Nat→Prop}(YU:∀k,F k→G k){cs:List Cv}{us:Array Value}(h:jN w F cs us):jN w G cs us:=by
 obtain⟨Fs,h1,h2,h3,h4⟩:=h
 exact⟨Fs,fun j k hk=>YU k (h1 j k hk),h2,h3,h4⟩
theorem Inv.Gp(I:Inv w0 Mf g st a w){T:Nat}{s:Sv}{u:Value}(hs:dX w g st s u){k:Dt→List Bk→St→Dl→Option R}{r:R}(h:fC E .bX T s st k=some r):
    ∃d bk br δ F H,k d bk br δ=some r∧Inv w0 Mf g br a w∧(∀ P,qw g.n.wl w P .bX d u F)∧fE w g br .bX u F bk H∧vk g w st br bk δ H:=by
 simp only[fC] at h
 split at h
 case h_2=>cases h
 rename_i b
 obtain⟨x,hx,h⟩:=aR h
 obtain⟨us,el,hb,fc⟩:=I.boxes b x hx
 have core:∃cv br fe Gs y,k (.d x.t y) [.box b] { br with boxes:=bc br.boxes b ⟨x.t,x.cs.map fun _=> .dead⟩ } { boxes:=[(b,⟨x.t,x.cs.map fun _=> .dead⟩)],roots:=fe }=some r∧Inv w0 Mf g br a w∧iS w g st br fe Gs∧cv=enc x.t y∧
   us.size=cv.length∧qu g.n.wl (shr x.t) w (Any Gs) cv us∧∀c∈x.cs,c.iK=false:=by
  unfold MA at h
  cases ke:shr x.t
  ·rw[ke] at h
   simp only[cond_false] at h
   have h0:=h
   obtain⟨cv,d,br,fe,Gs,h,I1,T,hA⟩:=I.mE h fc.l
   obtain⟨hd,h⟩:=bg h
   obtain⟨y,hy,ov⟩:=aR h
   have fy:=hA.row hd T.apart
   rw[Array.toArray_toList] at fy
   have:=hA.len.1
   exact⟨cv,br,fe,Gs,y,ov,I1,T,(cY hy),by simpa using this,fy,tL h0⟩
  ·rw[ke] at h
   simp only[cond_true] at h
   obtain⟨cv,m8,h⟩:=aR h
   obtain⟨y,hy,ov⟩:=aR h
   have hr:=qP m8 fc.l
   exact⟨cv,st,[],[],y,ov,I,iS.refl _ _ _,(cY hy),hr.1,hr,tM m8⟩
 clear h
 obtain⟨cv,br,fe,Gs,y,ov,I1,T,m8,Vb,fy,hlv⟩:=core
 subst m8
 have hu:u = .pointer (some ⟨g.bx b,0,none⟩):=hs.2.1
 have cH:bz st b:=by simp[bz,hx]
 have RE:bz br b:=by rw[T.eq];exact cH
 have oZ:us.size=x.cs.length:=fc.1
 have bR:bw (fun k=>k=g.bx b) w w:=⟨Nat.le_refl _,fun _ _ _=>rfl⟩
 have Ca:cG w g br (x.cs.map fun _=>Sc.dead) us:=⟨by simpa using oZ,fun j c hj=>by
  rw[List.getElem?_map] at hj
  cases hc:x.cs[j]? with
  |none=>simp[hc] at hj
  |some c0=>
   simp only[hc,Option.map_some,Option.some.injEq] at hj
   subst hj
   obtain⟨z,hz,hr⟩:=fc.2 j c0 hc
   exact⟨z,hz,hr.1,trivial⟩⟩
 have I2:=I1.ng (t:=x.t) RE bR I1.kept hb Ca
 have hlen:0<x.cs.length:=by
  rw[aS] at Vb
  have:=eN x.t
  omega
 have Ut:∀k,Any Gs k→k≠g.bx b:=fun k ⟨F,hF,hk⟩ e=>by
  obtain⟨id,h1,h2⟩:=T.src F hF k hk
  exact I.apart.rb id b h1 cH (e▸h2)
 have Mm : ¬nd { br with boxes:=bc br.boxes b ⟨x.t,x.cs.map fun _=> .dead⟩ } b:=by
  rintro⟨x',kF,c,hc,hcd⟩
  simp only[bj,Option.some.injEq] at kF
  subst kF
  simp only[List.mem_map] at hc
  obtain⟨_,_,rfl⟩:=hc
  cases hcd
 have mg:∀b',bz { br with boxes:=bc br.boxes b ⟨x.t,x.cs.map fun _=> .dead⟩ } b'↔bz st b':=fun b'=>by
  have e:br.boxes=st.boxes:=by rw[T.eq]
  simp only[bz,aJ,e]
  by_cases M5:b'=b
  ·subst M5;simpa [bz] using cH
  ·simp[M5]
 have L:=T.lnd
 refine⟨_,_,_,_,fun k=>k=g.bx b∨Any Gs k,fun k=>k=g.bx b∨Any Gs k,ov,I2,fun P=>⟨g.bx b,us,el,hu,.inl rfl,hb,?_⟩,⟨b,rfl,Mm,(mg b).2 cH,hu,rfl,.inl rfl⟩,?_⟩
 ·revert fy
  cases shr x.t
  ·exact fun fy=>jN.mono (fun k hk=>⟨.inr hk,Ut k hk⟩) fy
  ·exact fun fy=>fy
 ·exact {
   own:=T.own
   live:=T.live
   dk:=T.dk
   map:=fun c u hc=>by
    have:=T.map c u hc
    exact⟨this.1,jZ.roots (st:=br) (fun b' fl=>by
     simp only[aJ];split
     ·rfl
     ·exact fl) (fun _ _ _ h=>h) (fun _ _ _ _ _ _ h=>h) this.2⟩
   box:=mg
   nd:=fun b' fl=>by
    by_cases e:b'=b
    ·subst e;exact (Mm fl).elim
    ·obtain⟨x',kF,hh⟩:=fl
     simp only[aJ,e,if_false] at kF
     rw[T.eq] at kF
     exact⟨x',kF,hh⟩
   src:=fun k hk=>by
    rcases hk with rfl | hk
    ·exact .inr ⟨b,⟨x,hx,x.cs[0],List.getElem_mem hlen,hlv _ (List.getElem_mem hlen)⟩,Mm,by simp,rfl⟩
    ·rcases L.src k hk with h1 | ⟨_,_,_,h3,_⟩
     ·exact .inl h1
     ·simp at h3
   off:=fun k hk id hi h3=>by
    rcases hk with rfl | hk
    ·exact I.apart.rb id b (T.own id hi) cH h3
    ·exact L.off k hk id hi h3
   roots:=fun id _=>by simp only;rw[T.eq]
   boxes:=fun b'=>by simp only[ck];rw[T.eq]
   az:=by simp only;rw[T.eq]
   jR:=rfl
   sZ:=fun _ _ _ h=>by simp at h
   pH:=fun b' hm=>by
    simp only[List.mem_singleton,Bk.box.injEq] at hm
    subst hm
    exact⟨⟨x,hx,x.cs[0],List.getElem_mem hlen,hlv _ (List.getElem_mem hlen)⟩,Mm⟩ }
inductive jS (w:World) (g:Gh) (br:St):List Am→List Value→List (Nat→Prop)→List Bk→List (Nat→Prop)→Prop where
 | nil:jS w g br [] [] [] [] []
 | cons {m ms u us F Fs b bs H Hs} (h:fE w g br m u F b H) (hs:jS w g br ms us Fs bs Hs):jS w g br (m::ms) (u::us) (F::Fs) (b++bs) (H::Hs)
theorem jS.keep{br mH:St}(hl:∀id r,ak br.roots id=some (.dk r)→ak mH.roots id=some (.dk r))(hn:∀b,nd mH b→nd br b)(hb:∀b,bz br b→bz mH b){ms:List Am}{us:List Value}{Fs:List (Nat→Prop)}{bs:List Bk}
    {Hs:List (Nat→Prop)} (h:jS w g br ms us Fs bs Hs):jS w g mH ms us Fs bs Hs:=by
 induction h with
 |nil=>exact .nil
 |cons h hs ih=>exact .cons (h.keep hl hn hb) ih
theorem fE.sub{br:St}{m:Am}{u:Value}{F:Nat→Prop}{bk:List Bk}{H:Nat→Prop}(h:fE w g br m u F bk H):∀k,F k→H k:=by
 intro k hk
 cases m with
 | «mut» =>obtain⟨id,r,p,s,h1,h2,h3,h4,h5,h6,h7,rfl⟩:=h;exact h4.gL ((h7 k).1 hk)
 |bX=>obtain⟨b,h1,h2,h3,h4,rfl,_⟩:=h;exact hk
 |_=>obtain⟨_,rfl⟩:=h;exact hk
def Bk.key:Bk→Bool×Nat | .root id _ _=>(true,id) | .box b=>(false,b)
def ArgRel(w:World)(g:Gh)(st:St):List (Am×Nat×Sv)→List Value→Prop
  | [],[]=>True
  | (_,_,s)::l,u::us=>dX w g st s u∧ArgRel w g st l us
  |_,_=>False
theorem ArgRel.map{br:St}(hm:∀c u,bf w g st c u→bf w g br c u):∀{l:List (Am×Nat×Sv)}{us:List Value},ArgRel w g st l us→ArgRel w g br l us
  | [],[],_=>trivial
  | [],_::_,h=>h.elim
  |_::_,[],h=>h.elim
  | (_,_,_)::_,_::_,h=>⟨h.1.map hm,ArgRel.map hm h.2⟩
theorem Inv.dL:∀{l:List (Am×Nat×Sv)}{us:List Value}{st:St}{k:List Dt→List Bk→St→Dl→Option R}{r:R},Inv w0 Mf g st a w→ArgRel w g st l us→dL E l st k=some r→
    ∃br,Inv w0 Mf g br a w∧∀Pr,(∀ x∈l,x.1.reads=true→Y6 g br Pr x.2.2)→∃ds bs d Fs Hs,k ds bs br d=some r∧cE g.n.wl w Pr (l.map (·.1)) ds us Fs∧jS w g br (l.map (·.1)) us Fs bs Hs∧vk g w st br bs d (Any Hs)∧bH Hs∧bs.Pairwise fun b c=>b.key≠c.key
  | [],us,st,k,r,I,hu,h=>by
    cases us with
    |cons u us=>exact hu.elim
    |nil=>
      refine⟨st,I,fun Pr _=>⟨[],[],{},[],[],h,.nil,.nil,?_,List.Pairwise.nil,List.Pairwise.nil⟩⟩
      have:(fun _=>False:Nat→Prop)=Any []:=by funext k;exact propext ⟨fun h=>h.elim,MP⟩
      rw[← this];exact vk.refl
  | (m,T,s)::l,us,st,k,r,I,hu,h=>by
    cases us with
    |nil=>exact hu.elim
    |cons u us=>
      simp only[Gm.dL] at h
      split at h
      · rename_i hm
        obtain⟨br,I1,hh⟩:=Inv.dL I hu.2 h
        refine⟨br,I1,fun Pr hP=> ?_⟩
        obtain⟨ds,bs,d,Fs,Hs,h1,h2,h3,h4,h5,pI⟩:=hh Pr fun x hx=>hP x (by simp[hx])
        obtain⟨x,h6,h7⟩:=I1.RD hm (hu.1.map h4.map) h1 (hP (m,T,s) (by simp) hm)
        have xO:fE w g br m u (fun _=>False) [] (fun _=>False):=by cases m<;>first | exact⟨rfl,rfl⟩ | cases hm
        refine⟨_,bs,d,(fun _=>False)::Fs,(fun _=>False)::Hs,h6,.cons (h7 _) h2,by simpa using jS.cons xO h3,?_,List.pairwise_cons.2 ⟨fun _ _ _ h=>h.elim,h5⟩,pI⟩
        have:Any ((fun _=>False)::Hs)=Any Hs:=by
          funext k
          refine propext ⟨fun ⟨F,hF,hk⟩=> ?_,fun ⟨F,hF,hk⟩=>⟨F,List.mem_cons_of_mem _ hF,hk⟩⟩
          rcases List.mem_cons.1 hF with rfl | hF
          · exact hk.elim
          · exact⟨F,hF,hk⟩
        rw[this];exact h4
      · rename_i hm
        have key:∃d bk br δ F H,(Gm.dL E l br fun xs bs mH d'=>k (d::xs) (bk++bs) mH { boxes:=δ.boxes++d'.boxes,roots:=δ.roots++d'.roots })=some r∧Inv w0 Mf g br a w∧(∀ P,qw g.n.wl w P m d u F)∧fE w g br m u F bk H∧vk g w st br bk δ H:=by
          cases m with
          |jK=>exact I.M1 hu.1 h
          | «mut» =>exact I.M4 hu.1 h
          |bX=>exact I.Gp hu.1 h
          |ro=>cases hm
          |sG=>cases hm
          |fn=>cases hm
          |Mz=>cases hm
          |kp=>cases hm
        obtain⟨x,bk,s1,δ,F,H,h1,I1,hA,hH,L1⟩:=key
        obtain⟨br,I2,hh⟩:=Inv.dL I1 (hu.2.map L1.map) h1
        refine⟨br,I2,fun Pr hP=> ?_⟩
        obtain⟨ds,bs,d,Fs,Hs,h2,h3,h4,h5,h6,pI⟩:=hh Pr fun x hx=>hP x (by simp[hx])
        refine⟨_,_,_,F::Fs,H::Hs,h2,.cons (hA _) h3,.cons (hH.keep h5.dk h5.nd fun b hb=>(h5.box b).2 hb) h4,?_,List.pairwise_cons.2 ⟨fun G hG n h7 h8=> ?_,h6⟩,List.pairwise_append.2 ⟨?_,pI,fun b hb c hc=> ?_⟩⟩
        · have:Any (H::Hs)=fun n=>H n∨Any Hs n:=by
            funext n
            refine propext ⟨fun ⟨F,hF,hk⟩=> ?_,fun h=> ?_⟩
            · rcases List.mem_cons.1 hF with rfl | hF
              · exact .inl hk
              · exact .inr ⟨F,hF,hk⟩
            · rcases h with h | ⟨F,hF,hk⟩
              · exact⟨H,by simp,h⟩
              · exact⟨F,by simp[hF],hk⟩
          rw[this];exact L1.trans h5
        · rcases h5.src n ⟨G,hG,h8⟩ with ⟨id,h9,nZ⟩ | ⟨b,h9,_,_,nZ⟩
          · exact L1.off n h7 id h9 nZ
          · have hb:=(L1.nd b h9).at
            rcases L1.src n h7 with ⟨id,uR,Ra⟩ | ⟨b',uR,Ra,_,Y9⟩
            · exact I.apart.rb id b uR hb (nZ▸Ra)
            · have:=I.apart.bb b b' hb uR.at (by rw[nZ,Y9])
              subst this
              exact Ra h9
        · cases m with
          | «mut» =>obtain⟨id,r,p,s,rfl,_⟩:=hH;exact List.pairwise_singleton _ _
          |bX=>obtain⟨b,rfl,_⟩:=hH;exact List.pairwise_singleton _ _
          |_=>obtain⟨rfl,_⟩:=hH;exact List.Pairwise.nil
        · cases b<;>cases c<;>simp only[Bk.key,ne_eq,Prod.mk.injEq,Bool.true_eq_false,Bool.false_eq_true,false_and,not_false_eq_true,true_and]
          · rename_i id r p aK r' p'
            intro e;subst e
            exact (L1.sZ _ _ _ hb).2 (h5.sZ _ _ _ hc).1
          · rename_i b b'
            intro e;subst e
            exact (L1.pH _ hb).2 (h5.pH _ hc).1
theorem zM{id:Nat}{t:Ty}{md:Md}{xs:List (El t)}{k:cy→Option R}{r:R}(h:mkRoot st id t md xs k=some r):
    ∃ver,dI st id ⟨t,md,ver,[],xs⟩∧k ⟨t,md,ver,[],xs⟩=some r∧∀ro,ak st.roots id≠some (.live ro)∧ak st.roots id≠some (.dk ro):=by
 unfold mkRoot at h
 split at h
 ·rename_i hn;exact⟨0,by unfold dI;rw[hn];trivial,h,fun ro=>by rw[hn];simp⟩
 ·rename_i v hn;exact⟨v+1,by unfold dI;rw[hn];simp,h,fun ro=>by rw[hn];simp⟩
 ·cases h
def zN(w:World):List Cv→List Value→List (Nat→Prop)→Prop
 | [],[],[]=>True
 |c::cs,u::us,F::Fs=>fP w F c u∧zN w cs us Fs
 |_,_,_=>False
theorem zN.of:∀{cs:List Cv}{us:List Value}{Fs:Nat→Nat→Prop},us.length=cs.length→(∀(j:Nat) c,cs[j]? =some c→∃z,us[j]? =some z∧fP w (Fs j) c z)→zN w cs us ((List.range cs.length).map Fs)
 | [],[],_,_,_=>trivial
 | [],_::_,_,h,_=>by simp at h
 |_::_,[],_,h,_=>by simp at h
 |c::cs,u::us,Fs,h,hr=>by
  rw[List.length_cons,List.range_succ_eq_map,List.map_cons,List.map_map]
  refine⟨?_,zN.of (Fs:=Fs∘Nat.succ) (by simpa using h) fun j c' hj=>by simpa using hr (j+1) c' (by simpa using hj)⟩
  obtain⟨z,hz,hc⟩:=hr 0 c rfl
  simp only[List.getElem?_cons_zero,Option.some.injEq] at hz;subst hz;exact hc
theorem jN.list{F:Nat→Prop}{cs:List Cv}{us:Array Value}(h:jN w F cs us):∃Gs,zN w cs us.toList Gs∧bH Gs∧∀G∈Gs,∀k,G k→F k:=by
 obtain⟨Fs,h1,h2,h3,h4⟩:=h
 refine⟨_,zN.of (Fs:=Fs) (by simpa using h3) (fun j c hj=>by simpa using h4 j c hj),?_,fun G hG k hk=> ?_⟩
 ·unfold bH
  rw[List.pairwise_map]
  refine List.pairwise_lt_range.imp fun {i j} vl k hi hj=> ?_
  have:=h2 i j k hi hj
  omega
 ·simp only[List.mem_map] at hG
  obtain⟨j,_,rfl⟩:=hG
  exact h1 j k hk
structure Grow (w:World) (g:Gh) (st:St) (g':Gh) (aI:St) (u:List (Nat×Rt)) (F:Nat→Prop):Prop where
 n:g'.n=g.n
 ro:g'.ro=g.ro
 bx:g'.bx=g.bx
 eq:aI={ st with roots:=ck st.roots u }
 live:∀id r,ak st.roots id=some (.live r)→ak aI.roots id=some (.live r)∧g'.rf id=g.rf id∧g'.rv id=g.rv id
 dk:∀id r,ak st.roots id=some (.dk r)→ak aI.roots id=some (.dk r)∧g'.rf id=g.rf id∧g'.rv id=g.rv id
 own:∀id,aT aI id→(aT st id∧g'.rf id=g.rf id)∨∀k,g'.rf id k→F k
 map:∀c v,bf w g st c v→bf w g' aI c v
theorem Grow.refl(F:Nat→Prop):Grow w g st g st [] F:=⟨rfl,rfl,rfl,rfl,fun _ _ h=>⟨h,rfl,rfl⟩,fun _ _ h=>⟨h,rfl,rfl⟩,fun _ h=> .inl ⟨h,rfl⟩,fun _ _ h=>h⟩
theorem Grow.trans{g1 g2:Gh}{s1 s2:St}{u v:List (Nat×Rt)}{F G H:Nat→Prop}(h:Grow w g st g1 s1 u F)(k:Grow w g1 s1 g2 s2 v G)(hF:∀n,F n→H n)(hG:∀n,G n→H n):Grow w g st g2 s2 (u++v) H:={
 n:=k.n.trans h.n
 ro:=k.ro.trans h.ro
 bx:=k.bx.trans h.bx
 eq:=by rw[k.eq,h.eq,bh]
 live:=fun id r hr=>by
  obtain⟨h1,h2,h3⟩:=h.live id r hr
  obtain⟨h4,h5,h6⟩:=k.live id r h1
  exact⟨h4,h5.trans h2,h6.trans h3⟩
 dk:=fun id r hr=>by
  obtain⟨h1,h2,h3⟩:=h.dk id r hr
  obtain⟨h4,h5,h6⟩:=k.dk id r h1
  exact⟨h4,h5.trans h2,h6.trans h3⟩
 own:=fun id hi=>by
  rcases k.own id hi with ⟨h1,h2⟩ | h1
  ·rcases h.own id h1 with ⟨h3,h4⟩ | h3
   ·exact .inl ⟨h3,h2.trans h4⟩
   ·exact .inr fun n hn=>hF n (h3 n (by rw[← h2];exact hn))
  ·exact .inr fun n hn=>hG n (h1 n hn)
 map:=fun c v hc=>k.map c v (h.map c v hc) }
theorem gX.flat{F:Nat→Prop}{t:Ty}{xs:List (El t)}{u:Value}(h:gX w F t xs u):cO u=true:=by
 obtain⟨av,h0,h1⟩:=h
 rcases h1.1 [] _ rfl with ⟨_,e⟩ | ⟨b,o,cap,cs,el,e,_⟩<;> · rw[h0] at e;subst e;rfl
theorem Inv.Gq(I:Inv w0 Mf g st a w){id:Nat}{t:Ty}{xs:List (El t)}{ver:Nat}(ek:dI st id ⟨t,.deep,ver,[],xs⟩)(gV:∀ro,ak st.roots id≠some (.live ro)∧ak st.roots id≠some (.dk ro))
    {F:Nat→Prop} {u:Value} (h:gX w F t xs u) (hF:∀k,F k→fx w0 Mf g st k∧k<w.heap.size):
    ∃g',Inv w0 Mf g' { st with roots:=bc st.roots id (.live ⟨t,.deep,ver,[],xs⟩) } a w∧Grow w g st g' { st with roots:=bc st.roots id (.live ⟨t,.deep,ver,[],xs⟩) } [(id,.live ⟨t,.deep,ver,[],xs⟩)] F∧
      bf w g' { st with roots:=bc st.roots id (.live ⟨t,.deep,ver,[],xs⟩) } (.h id ver 0 []) u:=by
 obtain⟨av,h0,h1⟩:=h
 have I1:=I.bV (id:=id) (r:=⟨t,.deep,ver,[],xs⟩) ek (av:=av) (F:=F) (by unfold aX;simp only[Gh.bV,if_true];exact h1)
  (fun k hk=>⟨fun aK h2 _=>(hF k hk).1.r aK h2,(hF k hk).1.ro,(hF k hk).1.b,(hF k hk).1.fV,(hF k hk).2⟩)
 refine⟨_,I1,⟨rfl,rfl,rfl,rfl,fun aK r h2=> ?_,fun aK r h2=> ?_,fun aK ⟨r',h2,h3⟩=> ?_,fun c v hc=>⟨hc.1,hc.2.bV ek⟩⟩,gX.flat ⟨av,h0,h1⟩,?_,fun r' jf=> ?_⟩
 ·have:aK≠id:=fun e=>(gV r).1 (e▸h2)
  simp only[bQ _ _ this,Gh.bV,this,if_false]
  exact⟨h2,trivial,trivial⟩
 ·have:aK≠id:=fun e=>(gV r).2 (e▸h2)
  simp only[bQ _ _ this,Gh.bV,this,if_false]
  exact⟨h2,trivial,trivial⟩
 ·by_cases e:aK=id
  ·subst e;exact .inr fun k hk=>by simpa [Gh.bV] using hk
  ·simp only[bQ _ _ e] at h2
   exact .inl ⟨⟨r',h2,h3⟩,by simp[Gh.bV,e]⟩
 ·unfold cJ;simp only[bj];exact .inr ⟨trivial,Nat.zero_le _⟩
 ·have:=jf.is (bj _ _ _)
  subst this
  exact⟨by simp only[Gh.bV,if_true];exact h0.symm,rfl⟩
theorem Inv.qR:∀{cs:List Cv}{us:List Value}{Fs:List (Nat→Prop)}{g:Gh}{st:St}{id:Nat}{k:List Sc→Nat→St→List (Nat×Rt)→Option R}{r:R},Inv w0 Mf g st a w→zN w cs us Fs→(∀ x,.v x∈cs→cO x=true)→bH Fs→
 (∀ F∈Fs,∀n,F n→fx w0 Mf g st n∧n<w.heap.size)→qn true st id cs k=some r→
    ∃ss m g' aI u,k ss m aI u=some r∧Inv w0 Mf g' aI a w∧Grow w g st g' aI u (Any Fs)∧ka w g' aI ss us
 | [],us,Fs,g,st,id,k,r,I,hO,j3,hp,hF,h=>by
  cases us<;>cases Fs<;>first | exact hO.elim | skip
  exact⟨[],id,g,st,[],h,I,Grow.refl _,trivial⟩
 | .v x::cs,us,Fs,g,st,id,k,r,I,hO,j3,hp,hF,h=>by
  cases us with
  |nil=>cases Fs<;>exact hO.elim
  |cons u us=>
   cases Fs with
   |nil=>exact hO.elim
   |cons F Fs=>
    obtain⟨ss,m,g',aI,v,h1,h2,h3,h4⟩:=Inv.qR (id:=id) I hO.2 (fun x hx=>j3 x (by simp[hx])) (List.pairwise_cons.1 hp).2 (fun G hG=>hF G (by simp[hG])) h
    have hu:u=x:=hO.1
    subst hu
    refine⟨_,m,g',aI,v,h1,h2,?_,⟨⟨j3 u (by simp),rfl⟩,h4⟩⟩
    exact { h3 with own:=fun id hi=>(h3.own id hi).imp (fun h=>h) fun h n hn=>let ⟨G,hG,hk⟩:=h n hn;⟨G,by simp[hG],hk⟩ }
 | .l t xs::cs,us,Fs,g,st,id,k,r,I,hO,j3,hp,hF,h=>by
  cases us with
  |nil=>cases Fs<;>exact hO.elim
  |cons u us=>
   cases Fs with
   |nil=>exact hO.elim
   |cons F Fs=>
    simp only[qn] at h
    replace h:=(PE h).2
    simp only[cond_true] at h
    obtain⟨ver,ek,h,gV⟩:=zM h
    obtain⟨g1,I1,G1,B9⟩:=I.Gq ek gV hO.1 (hF F (by simp))
    obtain⟨xJ,tI⟩:=List.pairwise_cons.1 hp
    obtain⟨ss,m,g',aI,v,h1,h2,h3,h4⟩:=Inv.qR (id:=id+1) I1 hO.2 (fun x hx=>j3 x (by simp[hx])) tI (fun G hG n hn=>by
     obtain⟨hf,cc⟩:=hF G (by simp[hG]) n hn
     refine⟨⟨fun aK hi h5=> ?_,by rw[G1.ro];exact hf.ro,fun b hb=>by rw[G1.bx];exact hf.b b hb,hf.fV⟩,cc⟩
     rcases G1.own aK hi with ⟨h6,h7⟩ | h6
     ·rw[h7] at h5;exact hf.r aK h6 h5
     ·exact xJ G hG n (h6 n h5) hn) h
    refine⟨_,m,g',aI,_,h1,h2,?_,⟨h3.map _ _ B9,h4⟩⟩
    exact G1.trans h3 (fun n hn=>⟨F,by simp,hn⟩) (fun n ⟨G,hG,hn⟩=>⟨G,by simp[hG],hn⟩)
theorem Inv.qo(I:Inv w0 Mf g st a w){F:Nat→Prop}{t:Ty}{cs:List Cv}{us:Array Value}(fy:qu g.n.wl (shr t) w F cs us)(j3:∀x,.v x∈cs→cO x=true)(hF:∀n,F n→fx w0 Mf g st n∧n<w.heap.size)
    {id:Nat} {k:List Sc→Nat→St→List (Nat×Rt)→Option R} {r:R} (h:qo true st id t cs k=some r):
    ∃ss m g' aI u,k ss m aI u=some r∧Inv w0 Mf g' aI a w∧Grow w g st g' aI u F∧ka w g' aI ss us.toList:=by
 unfold Gm.qo at h
 cases ke:shr t
 ·rw[ke] at h fy
  simp only[cond_false] at h
  obtain⟨Gs,hO,hp,dp⟩:=jN.list fy
  obtain⟨ss,m,g',br,u,h1,I1,G1,hc⟩:=Inv.qR I hO j3 hp (fun G hG n hn=>hF n (dp G hG n hn)) h
  exact⟨ss,m,g',br,u,h1,I1,{ G1 with own:=fun id hi=>(G1.own id hi).imp (fun h=>h) fun h n hn=>let ⟨G,hG,hk⟩:=h n hn;dp G hG n hk },hc⟩
 ·rw[ke] at h fy
  simp only[cond_true] at h
  exact⟨_,_,g,st,_,h,I,Grow.refl _,(qQ fy j3).l⟩
end Go.Gm
namespace Go.Gm
open Go
variable {wl : World} {R : Type} {P : Program} {E : Env} {w0 w w' : World} {Mf : Nat → Prop} {g : Gh} {st : St} {a : Act} {Q : Exit → Act → World → Prop}
  {o:Oper} {k:Dl→Option R} {r:R} {K:Act→World→Prop}
theorem Inv.called(I:Inv w0 Mf g st a w){X:Nat→Prop}(hs:bw X w w')(dh:∀k,g.ro k→ ¬X k)(k7:∀id k,aT st id→g.rf id k→ ¬X k)
 (u6:∀b x,ak st.boxes b=some x→ ¬X (g.bx b)∨(¬ nd st b∧∃us el,w'.heap[g.bx b]? =some (.cells us el (0,0))∧us.size=x.cs.length∧∀(j:Nat) v,us[j]? =some v→cO v=true)) (hk:Kept w0 w' Mf):Inv w0 Mf g st a w':={
 az:=fun s sv h=>let ⟨u,hu,hr⟩:=I.az s sv h;⟨u,hu,hr.map fun c u hc=>⟨hc.1,hc.2.world hs dh⟩⟩
 boxes:=fun b x h=>by
  rcases u6 b x h with hb | ⟨hn,us,el,h1,h2,h3⟩
  ·obtain⟨us,el,h1,h2⟩:=I.boxes b x h
   exact⟨us,el,hs.get h1 hb,h2.map fun c u hc=>⟨hc.1,hc.2.world hs dh⟩⟩
  ·refine⟨us,el,h1,h2,fun j c hj=> ?_⟩
   have hd:c.iK=true:=by
    cases hc:c.iK
    ·exact (hn ⟨x,h,c,List.mem_of_getElem? hj,hc⟩).elim
    ·rfl
   have cc:j<us.size:=by rw[h2];exact jA hj
   refine⟨us[j],Array.getElem?_eq_getElem cc,h3 j _ (Array.getElem?_eq_getElem cc),?_⟩
   cases c<;>first | trivial | cases hd
 roots:=fun id r h=>by
  have hr:=I.roots id r h
  unfold aX at hr ⊢
  split at hr
  ·rename_i hm;exact hr.same hs (k7 id · ⟨r,h,by rw[hm];rfl⟩)
  ·rename_i hm;exact hr.same hs (k7 id · ⟨r,h,by rw[hm];rfl⟩) dh
  ·exact hr.same hs dh
  ·rename_i hm;exact hr.same hs (k7 id · ⟨r,h,by rw[hm];rfl⟩)
 apart:={ I.apart with
  er:=fun id k h1 h2=>Nat.lt_of_lt_of_le (I.apart.er id k h1 h2) hs.1
  da:=fun k h=>Nat.lt_of_lt_of_le (I.apart.da k h) hs.1
  bM:=I.apart.bM }
 kept:=hk
 defers:=I.defers
 size:=I.size
 base:=⟨I.base.wl,I.base.ap,I.base.ro⟩ }
structure xP (w0:World) (Mf:Nat→Prop) (g:Gh) (st:St) (bs:List Bk) (n:Nat):Prop where
 r:∀id,aT st id→ ¬g.rf id n
 ro : ¬g.ro n
 b:∀b,bz st b→g.bx b=n→ .box b∈bs
 fV:w0.heap.size≤n∨Mf n
def jj(X:Nat→Prop):List (Nat→Prop)→List (Nat→Prop)→Prop
 | [],[]=>True
 |F::Fs,H::Hs=>(∀ k,X k→H k→F k)∧jj X Fs Hs
 |_,_=>False
structure np (w':World) (g:Gh) (st:St) (g':Gh) (aI:St) (bs:List Bk) (d:Dl) (F:Nat→Prop):Prop where
 n:g'.n=g.n
 ro:g'.ro=g.ro
 bx:g'.bx=g.bx
 az:aI.az=st.az
 roots:aI.roots=ck st.roots d.roots
 boxes:aI.boxes=ck st.boxes d.boxes
 jR:d.slot=none
 live:∀id r,ak st.roots id=some (.live r)→ak aI.roots id=some (.live r)∧g'.rf id=g.rf id∧g'.rv id=g.rv id
 own:∀id,aT aI id→(aT st id∧g'.rf id=g.rf id)∨∀k,g'.rf id k→F k
 box:∀b,bz aI b↔bz st b
 key:∀id r p,.root id r p∈bs→(ak (ck [] d.roots) id).isSome
 map:∀c v,bf w' g st c v→bf w' g' aI c v
theorem zO{α:Type}{L M:List (Nat×α)}{n:Nat}(h:(ak (ck [] L) n).isSome∨(ak (ck [] M) n).isSome):(ak (ck [] (L++M)) n).isSome:=by
 rw[bh,ef]
 cases hm:ak (ck [] M) n with
 |some x=>simp
 |none=>simpa [hm] using h
theorem jS.box{ms:List Am}{us:List Value}{Fs:List (Nat→Prop)}{bs:List Bk}{Hs:List (Nat→Prop)}(h:jS w g st ms us Fs bs Hs){ins:List Dt}{outs:List Dt}{Bs:List (Nat→Prop)}(hb:ey wl w' ms ins us outs Bs)
    {b:Nat} (hm : .box b∈bs):(∃ B∈Bs,B (g.bx b))∧∃H∈Hs,H (g.bx b):=by
 induction h generalizing ins outs Bs with
 |nil=>simp at hm
 |cons h hs ih=>
  rename_i m ms u us F Fs bk bs H Hs
  cases m with
  | «mut» =>
   obtain⟨id,r,p,s,rfl,_⟩:=h
   cases hb with
   |skip h1 h2=>exact h1.elim
   | «mut» h1 h2=>
    have BW:Bk.box b∈bs:=by simpa using hm
    obtain⟨⟨B,h3,h4⟩,H',h5,h6⟩:=ih h2 BW
    exact⟨⟨B,by simp[h3],h4⟩,H',by simp[h5],h6⟩
  |bX=>
   obtain⟨b',rfl,_,_,hu,rfl,hF⟩:=h
   cases hb with
   |skip h1 h2=>exact h1.elim
   |bX h1 ht h2=>
    rcases List.mem_append.1 hm with hm | hm
    ·simp only[List.mem_singleton,Bk.box.injEq] at hm
     subst hm
     obtain⟨b0,us',el,e,hB,_⟩:=h1
     rw[hu] at e
     simp only[Value.pointer.injEq,Option.some.injEq,Addr.mk.injEq,and_true] at e
     rw[← e] at hB
     exact⟨⟨_,by simp,hB⟩,_,by simp,hF⟩
    ·obtain⟨⟨B,h3,h4⟩,H',h5,h6⟩:=ih h2 hm
     exact⟨⟨B,by simp[h3],h4⟩,H',by simp[h5],h6⟩
  |_=>
   obtain⟨rfl,_⟩:=h
   cases hb with
   |skip h1 h2=>
    obtain⟨h3,H',h5,h6⟩:=ih h2 (by simpa using hm)
    exact⟨h3,H',by simp[h5],h6⟩
theorem fE.move{g':Gh}{aI:St}{m:Am}{u:Value}{F:Nat→Prop}{bk:List Bk}{H:Nat→Prop}(h:fE w g st m u F bk H)
 (hl:∀id r p,.root id r p∈bk→ak st.roots id=some (.dk r)→ak aI.roots id=some (.dk r)∧g'.rf id=g.rf id∧g'.rv id=g.rv id)
 (hb:∀b,.box b∈bk→(¬ nd st b→ ¬nd aI b)∧(bz st b→bz aI b)) (hx:g'.bx=g.bx):fE w g' aI m u F bk H:=by
 cases m with
 | «mut» =>
  obtain⟨id,r,p,s,rfl,h1,h2,h3,h4,h5,h6,rfl⟩:=h
  obtain⟨e1,e2,e3⟩:=hl id r p (by simp) h1
  exact⟨id,r,p,s,rfl,e1,h2,by rw[e2,e3];exact h3,h4,by rw[e3];exact h5,by rw[e3];exact h6,e2.symm⟩
 |bX=>
  obtain⟨b,rfl,h1,h2,h3,h4⟩:=h
  obtain⟨e1,e2⟩:=hb b (by simp)
  exact⟨b,rfl,e1 h1,e2 h2,by rw[hx];exact h3,by rw[hx];exact h4⟩
 |_=>exact h
theorem jS.move{g':Gh}{aI:St}{ms:List Am}{us:List Value}{Fs:List (Nat→Prop)}{bs:List Bk}{Hs:List (Nat→Prop)}(h:jS w g st ms us Fs bs Hs)
 (hl:∀id r p,.root id r p∈bs→ak st.roots id=some (.dk r)→ak aI.roots id=some (.dk r)∧g'.rf id=g.rf id∧g'.rv id=g.rv id)
 (hb:∀b,.box b∈bs→(¬ nd st b→ ¬nd aI b)∧(bz st b→bz aI b)) (hx:g'.bx=g.bx):jS w g' aI ms us Fs bs Hs:=by
 induction h with
 |nil=>exact .nil
 |cons h hs ih=>
  exact .cons (h.move (fun id r p hm=>hl id r p (List.mem_append_left _ hm)) (fun b hm=>hb b (List.mem_append_left _ hm)) hx)
   (ih (fun id r p hm=>hl id r p (List.mem_append_right _ hm)) (fun b hm=>hb b (List.mem_append_right _ hm)))
end Go.Gm
namespace Go.Gm
open Go
variable {R : Type} {P : Program} {E : Env} {w0 w w' : World} {Mf : Nat → Prop} {g : Gh} {st : St} {a : Act}
theorem DU{F G:Nat→Prop}{t t':Ty}{xs:List (El t)}{ys:List (El t')}{u:Value}{kid zF:Nat→Nat→Value}(h:bp w F t xs u kid)(h':bp w' G t' ys u zF):ys.length=xs.length:=by
 rcases h with ⟨rfl,rfl⟩ | ⟨b,o,cap,cs,el,rfl,_⟩<;>rcases h' with ⟨rfl,e⟩ | ⟨b',o',gU,m0,mc,e,_⟩
 ·rfl
 ·cases e
 ·cases e
 ·simp only[Value.slice.injEq] at e;exact e.2.1.symm
theorem Inv.Gr(I:Inv w0 Mf g st a w'){X:Nat→Prop}(bR:bw X w w'){id:Nat}{ro:cy}{p:Path}{s:Sl}(cH:ak st.roots id=some (.dk ro))(cI:ro.md = .deep)(n0:aW w (g.rf id) ro.t ro.xs (g.rv id))
 (hs:aQ ro.t ro.xs p=some s) {F:Nat→Prop} (hF:∀k,F k↔eb ro.t ro.xs (g.rv id) p k) (hX:∀k,X k→g.rf id k→F k) {t:Ty} {ys:List (El t)} {B:Nat→Prop} (dO:gX w' B t ys (g.rv id p))
 (hB:∀k,B k→(X k∨w.heap.size≤k)∧k<w'.heap.size) (hH:∀k,g.rf id k→k<w.heap.size) (cK:∀k,B k∨(g.rf id k∧ ¬F k)→fx w0 Mf g st k) {zs:List (El ro.t)} (hz:dt ro.t ro.xs p ⟨t,ys⟩=some zs):
    ∃g':Gh,g'.n=g.n∧g'.ro=g.ro∧g'.bx=g.bx∧(∀ aK,aK≠id→g'.rf aK=g.rf aK∧g'.rv aK=g.rv aK)∧(∀ k,g'.rf id k→B k∨(g.rf id k∧ ¬F k))∧
      Inv w0 Mf g' { st with roots:=bc st.roots id (.live ⟨ro.t,ro.md,ro.ver,ro.log++[p.length],zs⟩) } a w'∧
      ∀c v,bf w' g st c v→bf w' g' { st with roots:=bc st.roots id (.live ⟨ro.t,ro.md,ro.ver,ro.log++[p.length],zs⟩) } c v:=by
 obtain⟨zj,h0,gV⟩:=dO
 have hXb:∀k,X k→ ¬iJ ro.t ro.xs (g.rv id) p k:=fun k hx hb=>n0.eA ((hF k).1 (hX k hx (n0.iD hb))) hb
 have hBb:∀k,B k→ ¬iJ ro.t ro.xs (g.rv id) p k:=fun k hk hb=>by
  rcases (hB k hk).1 with h | h
  ·exact hXb k h hb
  ·have:=hH k (n0.iD hb);omega
 obtain⟨mq,h1,_,h3⟩:=n0.Gg hs hz bR hXb gV h0 hBb
 have hlen:ys.length=s.xs.length:=DU (n0.1 p s hs) (by rw[← h0];exact gV.1 [] _ rfl)
 have RF:bw (fun _=>False) w' w':=bw.refl w'
 have fw:∀q,(∀ D∈[p.length],q.length≤D)→mq q=g.rv id q∧∀s,aQ ro.t ro.xs q=some s→∃s',aQ ro.t zs q=some s'∧s'.t=s.t∧s'.xs.length=s.xs.length:=fun q hq=>by
  have YY:q.length≤p.length:=hq _ (by simp)
  have B6:p <+: q→q=p:=fun h=>(h.eq_of_length_le YY).symm
  exact⟨h1 q B6,fun sq iT=>lX hs hz hlen q sq B6 iT⟩
 refine⟨(({ g with ro:=g.ro }:Gh).bV id mq fun k=>B k∨iJ ro.t ro.xs (g.rv id) p k),rfl,rfl,rfl,fun aK h=>by simp[Gh.bV,h],fun k hk=> ?_,?_,fun c v hc=> ?_⟩
 ·simp only[Gh.bV,if_true] at hk
  exact hk.imp (fun h=>h) fun h=>⟨n0.iD h,fun hf=>n0.eA ((hF k).1 hf) h⟩
 ·refine I.iI (ro':=⟨ro.t,ro.md,ro.ver,ro.log++[p.length],zs⟩) (.inr cH) RF I.kept (fun k h=>h.elim) (fun _ h=>h) (fun aK k h1 _ h3=>I.apart.ew aK k h1 h3) I.apart.fI I.apart.da I.apart.bM rfl rfl rfl fw ?_ (fun k hk=> ?_)
  ·unfold aX
   simp only[Gh.bV,if_true,cI]
   exact h3
  ·have hf:fx w0 Mf g st k:=hk.elim (fun h=>cK k (.inl h)) fun h=>cK k (.inr ⟨n0.iD h,fun hf=>n0.eA ((hF k).1 hf) h⟩)
   refine⟨fun aK h1 _=>hf.r aK h1,hf.ro,hf.b,hf.fV,?_⟩
   rcases hk with h | h
   ·exact (hB k h).2
   ·exact Nat.lt_of_lt_of_le (hH k (n0.iD h)) bR.1
 ·exact⟨hc.1,jZ.iI (g:=g) (ro':=⟨ro.t,ro.md,ro.ver,ro.log++[p.length],zs⟩) (.inr cH) rfl rfl rfl fw hc.2⟩
theorem Inv.M6(I:Inv w0 Mf g st a w'){b:Nat}(cH:bz st b){t:Ty}{x:El t}{B:Nat→Prop}(dO:qv g.n.wl w' B t x (.pointer (some ⟨g.bx b,0,none⟩)))(hB:∀k,B k→k<w'.heap.size)
 (cK:∀k,B k→k≠g.bx b→fx w0 Mf g st k) {k:List Sc→Nat→St→List (Nat×Rt)→Option R} {r:R} (h:Gm.qo true st (64*b) t (enc t x) k=some r):
    ∃ss m g' br u,k ss m br u=some r∧Inv w0 Mf g' { br with boxes:=bc br.boxes b ⟨t,ss⟩ } a w'∧Grow w' g st g' br u B∧
      ∀c v,bf w' g st c v→bf w' g' { br with boxes:=bc br.boxes b ⟨t,ss⟩ } c v:=by
 obtain⟨b',us,el,e,hBb,hb,fy⟩:=dO
 simp only[Value.pointer.injEq,Option.some.injEq,Addr.mk.injEq,and_true] at e
 subst e
 obtain⟨ss,m,g',br,u,h1,I1,G1,hc⟩:=Inv.qo I fy (fun y hy=>by
   have:=qk t x
   rw[List.all_eq_true] at this
   exact this _ hy) (fun n hn=>⟨cK n hn.1 hn.2,hB n hn.1⟩) h
 have RE:bz br b:=by rw[G1.eq];exact cH
 have u6:g'.bx b=g.bx b:=by rw[G1.bx]
 have bR:bw (fun k=>k=g'.bx b) w' w':=⟨Nat.le_refl _,fun _ _ _=>rfl⟩
 have fc:cG w' g' br ss us:=hc.arr
 refine⟨ss,m,g',br,u,h1,I1.ng RE bR I1.kept (by rw[u6];exact hb) fc,?_,fun c v m8=> ?_⟩
 ·exact { G1 with own:=fun id hi=>(G1.own id hi).imp (fun h=>h) fun h n hn=>(h n hn).1 }
 ·have:=G1.map c v m8
  exact⟨this.1,jZ.roots (st:=br) (fun b' fl=>by
   simp only[aJ];split
   ·rfl
   ·exact fl) (fun _ _ _ h=>h) (fun _ _ _ _ _ _ h=>h) this.2⟩
def DV:List (Nat→Prop)→List (Nat→Prop)→Nat→Prop
 |F::Fs,H::Hs,k=>(H k∧ ¬F k)∨DV Fs Hs k
 |_,_,_=>False
theorem DV.any:∀{Fs Hs:List (Nat→Prop)}{k:Nat},DV Fs Hs k→Any Hs k
 |F::Fs,H::Hs,k,h=>by
  rcases h with h | h
  ·exact⟨H,by simp,h.1⟩
  ·obtain⟨G,hG,hk⟩:=DV.any h;exact⟨G,by simp[hG],hk⟩
 | [],_,_,h=>h.elim
 |_::_,[],_,h=>h.elim
theorem jj.rem{X:Nat→Prop}:∀{Fs Hs:List (Nat→Prop)}{k:Nat},jj X Fs Hs→DV Fs Hs k→ ¬X k
 |F::Fs,H::Hs,k,h,hr=>by
  rcases hr with hr | hr
  ·exact fun hx=>hr.2 (h.1 k hx hr.1)
  ·exact jj.rem h.2 hr
 | [],_,_,_,h=>h.elim
 |_::_,[],_,_,h=>h.elim
theorem np.refl(F:Nat→Prop):np w' g st g st [] {} F:=
 ⟨rfl,rfl,rfl,rfl,rfl,rfl,rfl,fun _ _ h=>⟨h,rfl,rfl⟩,fun _ h=> .inl ⟨h,rfl⟩,fun _=> .rfl,fun _ _ _ h=>by simp at h,fun _ _ h=>h⟩
theorem np.trans{g1 g2:Gh}{s1 s2:St}{bs cs:List Bk}{d e:Dl}{F G H:Nat→Prop}(h:np w' g st g1 s1 bs d F)(k:np w' g1 s1 g2 s2 cs e G)(hF:∀n,F n→H n)(hG:∀n,G n→H n):
    np w' g st g2 s2 (bs++cs) { boxes:=d.boxes++e.boxes,roots:=d.roots++e.roots } H:={
 n:=k.n.trans h.n
 ro:=k.ro.trans h.ro
 bx:=k.bx.trans h.bx
 az:=k.az.trans h.az
 roots:=by rw[k.roots,h.roots,bh]
 boxes:=by rw[k.boxes,h.boxes,bh]
 jR:=rfl
 live:=fun id r hr=>by
  obtain⟨h1,h2,h3⟩:=h.live id r hr
  obtain⟨h4,h5,h6⟩:=k.live id r h1
  exact⟨h4,h5.trans h2,h6.trans h3⟩
 own:=fun id hi=>by
  rcases k.own id hi with ⟨h1,h2⟩ | h1
  ·rcases h.own id h1 with ⟨h3,h4⟩ | h3
   ·exact .inl ⟨h3,h2.trans h4⟩
   ·exact .inr fun n hn=>hF n (h3 n (by rw[← h2];exact hn))
  ·exact .inr fun n hn=>hG n (h1 n hn)
 box:=fun b=>(k.box b).trans (h.box b)
 key:=fun id r p hm=>by
  refine zO ?_
  rcases List.mem_append.1 hm with hm | hm
  ·exact .inl (h.key id r p hm)
  ·exact .inr (k.key id r p hm)
 map:=fun c v hc=>k.map c v (h.map c v hc) }
theorem Inv.fH{X:Nat→Prop}(bR:bw X w w'):∀{ms:List Am}{ins:List Dt}{us:List Value}{Fs:List (Nat→Prop)}{bs:List Bk}{Hs:List (Nat→Prop)}{outs:List Dt}{Bs:List (Nat→Prop)}{g:Gh}{st:St}
    {k:St→Dl→Option R} {r:R},Inv w0 Mf g st a w'→jS w g st ms us Fs bs Hs→ey g.n.wl w' ms ins us outs Bs→(bs.Pairwise fun b c=>b.key≠c.key)→bH Bs→bH Hs→jj X Fs Hs→
 (∀ B∈Bs,∀k,B k→(X k∨w.heap.size≤k)∧k<w'.heap.size)→(∀ H∈Hs,∀k,H k→k<w.heap.size)→(∀ k,Any Bs k∨DV Fs Hs k→xP w0 Mf g st bs k)→fH st bs outs k=some r→
    ∃g' aI d,k aI d=some r∧Inv w0 Mf g' aI a w'∧np w' g st g' aI bs d (fun n=>Any Bs n∨DV Fs Hs n):=by
 intro ms
 induction ms with
 |nil=>
  intro ins us Fs bs Hs outs Bs g st k r I hh hb _ _ _ _ _ _ _ h
  cases hh;cases hb
  exact⟨g,st,{},h,I,np.refl _⟩
 |cons m ms ih=>
  intro ins us Fs bs Hs outs Bs g st k r I hh hb pI RG FL hX hB hH cK h
  cases hh with
  |cons h1 hs=>
  rename_i u us F Fs bk bs H Hs
  obtain⟨RH,RI⟩:=List.pairwise_cons.1 FL
  -- a mode that lends nothing
  have plain:bk=[]→H=F→ey g.n.wl w' ms (ins.drop 1) us outs Bs→∃g' aI d,k aI d=some r∧Inv w0 Mf g' aI a w'∧np w' g st g' aI (bk++bs) d (fun n=>Any Bs n∨DV (F::Fs) (H::Hs) n):=by
   intro e1 e2 mh
   subst e1;subst e2
   obtain⟨g',aI,d,h2,h3,h4⟩:=ih I hs mh pI RG RI hX.2 hB (fun H' Vc=>hH H' (by simp[Vc])) (fun n hn=>cK n (hn.imp (fun h=>h) fun h=> .inr h)) h
   refine⟨g',aI,d,h2,h3,?_⟩
   have:(fun n=>Any Bs n∨DV (H::Fs) (H::Hs) n)=fun n=>Any Bs n∨DV Fs Hs n:=by
    funext n
    refine propext (or_congr .rfl ⟨fun h=>h.elim (fun h=>(h.2 h.1).elim) fun h=>h,.inr⟩)
   rw[this];exact h4
  cases m with
  |ro=>cases hb with | skip _ mh=>exact plain h1.1 h1.2 mh
  |jK=>cases hb with | skip _ mh=>exact plain h1.1 h1.2 mh
  |sG=>cases hb with | skip _ mh=>exact plain h1.1 h1.2 mh
  |fn=>cases hb with | skip _ mh=>exact plain h1.1 h1.2 mh
  |Mz=>cases hb with | skip _ mh=>exact plain h1.1 h1.2 mh
  |kp=>cases hb with | skip _ mh=>exact plain h1.1 h1.2 mh
  | «mut» =>
   obtain⟨id,ro,p,s,rfl,cH,cI,n0,eZ,hu,hF,rfl⟩:=h1
   cases hb with
   |skip hn _=>exact hn.elim
   | «mut» hb mh=>
   rename_i d0 mF t xs ds B Bs
   obtain⟨DW,RJ⟩:=List.pairwise_cons.1 RG
   obtain⟨sX,vm⟩:=List.pairwise_cons.1 pI
   simp only[List.singleton_append,Gm.fH] at h
   obtain⟨zs,hz,ov⟩:=aR h
   subst hu
   have Ve:∀n,B n∨(g.rf id n∧ ¬F n)→fx w0 Mf g st n:=by
    intro n hn
    have hf:=cK n (hn.imp (fun h=>⟨B,by simp,h⟩) fun h=> .inl h)
    refine⟨hf.r,hf.ro,fun b Gt e=> ?_,hf.fV⟩
    have hm:=hf.b b Gt e
    have BW:Bk.box b∈bs:=by simpa using hm
    obtain⟨⟨B',h5,h6⟩,H',h7,h8⟩:=hs.box mh BW
    rw[e] at h6 h8
    rcases hn with hn | hn
    ·exact DW B' h5 n hn h6
    ·exact RH H' h7 n hn.1 h8
   obtain⟨g1,e1,e2,e3,e4,e5,I1,qI⟩:=I.Gr bR cH cI n0 eZ hF hX.1 hb (hB B (by simp)) (hH (g.rf id) (by simp)) Ve hz
   have dP:∀aK r' p',Bk.root aK r' p'∈bs→aK≠id:=fun aK r' p' hm e=>sX _ hm (by rw[e];rfl)
   obtain⟨g',aI,d,h2,h3,h4⟩:=ih I1 (hs.move (fun aK r' p' hm hl=>by
     have hn:=dP aK r' p' hm
     exact⟨by simp only[bQ _ _ hn];exact hl,(e4 aK hn).1,(e4 aK hn).2⟩) (fun b hm=>⟨fun h=>h,fun h=>h⟩) e3) (by rw[e1];exact mh) vm RJ RI hX.2 (fun B' zP=>hB B' (by simp[zP])) (fun H' Vc=>hH H' (by simp[Vc]))
    (fun n hn=>by
     have hf:=cK n (hn.imp (fun ⟨G,hG,hk⟩=>⟨G,by simp[hG],hk⟩) fun h=> .inr h)
     refine⟨fun aK ⟨r',h5,h6⟩ h7=> ?_,by rw[e2];exact hf.ro,fun b Gt e=>by
      rw[e3] at e
      simpa using hf.b b Gt e,hf.fV⟩
     by_cases e:aK=id
     ·subst e
      rcases e5 n h7 with h8 | ⟨h8,h9⟩
      ·rcases hn with ⟨G,hG,hk⟩ | hn
       ·exact DW G hG n h8 hk
       ·rcases (hB B (by simp) n h8).1 with hx | hx
        ·exact hX.2.rem hn hx
        ·obtain⟨H',nZ,uR⟩:=hn.any
         have:=hH H' (by simp[nZ]) n uR;omega
      ·rcases hn with ⟨G,hG,hk⟩ | hn
       ·rcases (hB G (by simp[hG]) n hk).1 with hx | hx
        ·exact h9 (hX.1 n hx h8)
        ·have:=hH (g.rf aK) (by simp) n h8;omega
       ·obtain⟨H',nZ,uR⟩:=hn.any
        exact RH H' nZ n h8 uR
     ·simp only[bQ _ _ e] at h5
      rw[(e4 aK e).1] at h7
      exact hf.r aK ⟨r',h5,h6⟩ h7) ov
   have Gu:np w' g st g1 { st with roots:=bc st.roots id (.live ⟨ro.t,ro.md,ro.ver,ro.log++[p.length],zs⟩) } [.root id ro p] { roots:=[(id,.live ⟨ro.t,ro.md,ro.ver,ro.log++[p.length],zs⟩)] } (fun n=>B n∨(g.rf id n∧ ¬F n)):={
    n:=e1,ro:=e2,bx:=e3,az:=rfl,roots:=rfl,boxes:=rfl,jR:=rfl
    live:=fun aK r' hl=>by
     have hn:aK≠id:=fun e=>by rw[e,cH] at hl;cases hl
     exact⟨by simp only[bQ _ _ hn];exact hl,(e4 aK hn).1,(e4 aK hn).2⟩
    own:=fun aK ⟨r',h5,h6⟩=>by
     by_cases e:aK=id
     ·subst e;exact .inr e5
     ·simp only[bQ _ _ e] at h5
      exact .inl ⟨⟨r',h5,h6⟩,(e4 aK e).1⟩
    box:=fun _=> .rfl
    key:=fun aK r' p' hm=>by
     simp only[List.mem_singleton,Bk.root.injEq] at hm
     rw[hm.1];simp[ck,bj]
    map:=qI }
   refine⟨g',aI,_,h2,h3,?_⟩
   have:=Gu.trans h4 (H:=fun n=>Any (B::Bs) n∨DV (F::Fs) (g.rf id::Hs) n) (fun n hn=>hn.imp (fun h=>⟨B,by simp,h⟩) .inl) (fun n hn=>hn.imp (fun ⟨G,hG,hk⟩=>⟨G,by simp[hG],hk⟩) .inr)
   have hd:=h4.jR
   cases d
   simp only at hd
   subst hd
   exact this
  |bX=>
   obtain⟨b,rfl,Mm,nh,hu,rfl,Mq⟩:=h1
   cases hb with
   |skip hn _=>exact hn.elim
   |bX hb ht mh=>
   rename_i t0 x0 mF t x ds B Bs
   obtain⟨DW,RJ⟩:=List.pairwise_cons.1 RG
   obtain⟨sX,vm⟩:=List.pairwise_cons.1 pI
   simp only[List.singleton_append,Gm.fH] at h
   subst hu
   obtain⟨ss,mm,g1,br,u,ov,I1,G1,qI⟩:=I.M6 nh hb (fun n hn=>(hB B (by simp) n hn).2) (fun n hn dP=>by
    have hf:=cK n (.inl ⟨B,by simp,hn⟩)
    refine⟨hf.r,hf.ro,fun b' Gt e=> ?_,hf.fV⟩
    have hm:=hf.b b' Gt e
    simp only[List.singleton_append,List.mem_cons,Bk.box.injEq] at hm
    rcases hm with rfl | hm
    ·exact dP e.symm
    ·obtain⟨⟨B',h5,h6⟩,_⟩:=hs.box mh hm
     rw[e] at h6
     exact DW B' h5 n hn h6) h
   have dP:∀b',Bk.box b'∈bs→b'≠b:=fun b' hm e=>sX _ hm (by rw[e])
   have heq:br.boxes=st.boxes:=by rw[G1.eq]
   have u6:∀b',bz { br with boxes:=bc br.boxes b ⟨t,ss⟩ } b'↔bz st b':=fun b'=>by
    simp only[bz,aJ,heq]
    by_cases M5:b'=b
    ·subst M5;simpa [bz] using nh
    ·simp[M5]
   obtain⟨g',aI,d,h2,h3,h4⟩:=ih I1 (hs.move (fun aK r' p' hm hl=>G1.dk aK r' hl) (fun b' hm=>⟨fun hn ⟨x',kF,hh⟩=>hn ⟨x',by simpa [aJ,dP b' hm,heq] using kF,hh⟩,fun h=>(u6 b').2 h⟩) G1.bx)
    (by rw[G1.n];exact mh) vm RJ RI hX.2 (fun B' zP=>hB B' (by simp[zP])) (fun H' Vc=>hH H' (by simp[Vc]))
    (fun n hn=>by
     have hf:=cK n (hn.imp (fun ⟨G,hG,hk⟩=>⟨G,by simp[hG],hk⟩) fun h=> .inr h)
     refine⟨fun aK hi h7=> ?_,by rw[G1.ro];exact hf.ro,fun b' Gt e=> ?_,hf.fV⟩
     ·rcases G1.own aK hi with ⟨h8,h9⟩ | h8
      ·rw[h9] at h7;exact hf.r aK h8 h7
      ·have h9:=h8 n h7
       rcases hn with ⟨G,hG,hk⟩ | hn
       ·exact DW G hG n h9 hk
       ·rcases (hB B (by simp) n h9).1 with hx | hx
        ·exact hX.2.rem hn hx
        ·obtain⟨H',nZ,uR⟩:=hn.any
         have:=hH H' (by simp[nZ]) n uR;omega
     ·rw[G1.bx] at e
      have hm:=hf.b b' ((u6 b').1 Gt) e
      simp only[List.singleton_append,List.mem_cons,Bk.box.injEq] at hm
      rcases hm with rfl | hm
      ·rcases hn with ⟨G,hG,hk⟩ | hn
       ·obtain⟨b0,zQ,Vf,e0,hB0,_⟩:=hb
        simp only[Value.pointer.injEq,Option.some.injEq,Addr.mk.injEq,and_true] at e0
        rw[← e0,e] at hB0
        exact (DW G hG n hB0 hk).elim
       ·obtain⟨H',nZ,uR⟩:=hn.any
        exact (RH H' nZ n (e▸Mq) uR).elim
      ·exact hm) ov
   have Gu:np w' g st g1 { br with boxes:=bc br.boxes b ⟨t,ss⟩ } [.box b] { boxes:=[(b,⟨t,ss⟩)],roots:=u } B:={
    n:=G1.n,ro:=G1.ro,bx:=G1.bx,az:=by simp only;rw[G1.eq],roots:=by simp only;rw[G1.eq],boxes:=by simp only[ck];rw[heq],jR:=rfl
    live:=G1.live
    own:=G1.own
    box:=u6
    key:=fun _ _ _ hm=>by simp at hm
    map:=qI }
   refine⟨g',aI,_,h2,h3,?_⟩
   have:=Gu.trans h4 (H:=fun n=>Any (B::Bs) n∨DV (H::Fs) (H::Hs) n) (fun n hn=> .inl ⟨B,by simp,hn⟩) (fun n hn=>hn.imp (fun ⟨G,hG,hk⟩=>⟨G,by simp[hG],hk⟩) .inr)
   have hd:=h4.jR
   cases d
   simp only at hd
   subst hd
   exact this
end Go.Gm
namespace Go.Gm
open Go
variable {R : Type} {P : Program} {E : Env} {w0 w w' : World} {Mf : Nat → Prop} {g : Gh} {st aI : St} {a : Act}
theorem DX(hb:ak st.boxes=ak aI.boxes)(hr:ak st.roots=ak aI.roots):jZ w g st=jZ w g aI:=by
 have h1:cJ st=cJ aI:=by funext id ver iv;unfold cJ;rw[hr]
 have h2:Vx st=Vx aI:=by funext id ver iv p r;unfold Vx;rw[hr]
 funext c u
 cases c<;>simp only[jZ,h1,h2,hb]
theorem Inv.congr(I:Inv w0 Mf g st a w)(hs:ak st.az=ak aI.az)(hb:ak st.boxes=ak aI.boxes)(hr:ak st.roots=ak aI.roots):Inv w0 Mf g aI a w:=by
 have hm:∀c u,bf w g st c u→bf w g aI c u:=fun c u h=>⟨h.1,by rw[← DX hb hr];exact h.2⟩
 have hO:aT st=aT aI:=by funext id;unfold aT;rw[hr]
 have hB:bz st=bz aI:=by funext b;unfold bz;rw[hb]
 exact {
  az:=fun s sv h=>let ⟨u,hu,h1⟩:=I.az s sv (by rw[hs];exact h);⟨u,hu,h1.map hm⟩
  boxes:=fun b x h=>let ⟨us,el,h1,h2⟩:=I.boxes b x (by rw[hb];exact h);⟨us,el,h1,h2.map hm⟩
  roots:=fun id r h=>I.roots id r (by rw[hr];exact h)
  apart:={
   rr:=by rw[← hO];exact I.apart.rr
   rb:=by rw[← hO,←hB];exact I.apart.rb
   bb:=by rw[← hB];exact I.apart.bb
   ew:=by rw[← hO];exact I.apart.ew
   fI:=by rw[← hB];exact I.apart.fI
   cj:=by rw[← hO];exact I.apart.cj
   dN:=by rw[← hB];exact I.apart.dN
   er:=by rw[← hO];exact I.apart.er
   da:=I.apart.da
   bM:=I.apart.bM }
  kept:=I.kept
  defers:=I.defers
  size:=I.size
  base:=⟨I.base.wl,I.base.ap,I.base.ro⟩ }
theorem Inv.tN(I:Inv w0 Mf g st a w){id:Nat}{ro:cy}(h:ak st.roots id=some (.live ro))(DJ:ro.md.cU=false):
    ∃g':Gh,g'.n=g.n∧g'.bx=g.bx∧(∀ k,g.ro k→g'.ro k)∧(∀ k,g.rf id k→aT st id→g'.ro k)∧(∀ k,g'.ro k→g.ro k∨(aT st id∧g.rf id k))∧(∀ aK,aK≠id→g'.rf aK=g.rf aK)∧
      Inv w0 Mf g' { st with roots:=bc st.roots id (.live { ro with md:= .BQ }) } a w∧∀c v,bf w g st c v→bf w g' { st with roots:=bc st.roots id (.live { ro with md:= .BQ }) } c v:=by
 let G:Nat→Prop:=fun k=>g.ro k∨(aT st id∧g.rf id k)
 have fw:∀q,(∀ D∈([]:List Nat),q.length≤D)→g.rv id q=g.rv id q∧∀s,aQ ro.t ro.xs q=some s→∃s',aQ ro.t ro.xs q=some s'∧s'.t=s.t∧s'.xs.length=s.xs.length:=
  fun q _=>⟨rfl,fun s hs=>⟨s,hs,rfl,rfl⟩⟩
 refine⟨(({ g with ro:=G }:Gh).bV id (g.rv id) fun _=>False),rfl,rfl,fun k=> .inl,fun k h1 h2=> .inr ⟨h2,h1⟩,fun k h=>h,fun aK hn=>by simp[Gh.bV,hn],?_,fun c v hc=> ?_⟩
 ·refine I.iI (ro':={ ro with md:= .BQ }) (G:=G) (.inl h) (bw.refl w) I.kept (fun k h=>h.elim) (fun k=> .inl) (fun aK k h1 h2 h3 h4=> ?_) (fun b hb h4=> ?_) (fun k h4=> ?_) (fun k h4=> ?_) rfl rfl (l:=[]) (by simp) fw ?_ (fun k h=>h.elim)
  ·rcases h4 with h4 | ⟨h4,h5⟩
   ·exact I.apart.ew aK k h1 h3 h4
   ·exact h2 (I.apart.rr aK id k h1 h4 h3 h5)
  ·rcases h4 with h4 | ⟨h4,h5⟩
   ·exact I.apart.fI b hb h4
   ·exact I.apart.rb id b h4 hb h5
  ·rcases h4 with h4 | ⟨h4,h5⟩
   ·exact I.apart.da k h4
   ·exact I.apart.er id k h4 h5
  ·rcases h4 with h4 | ⟨h4,h5⟩
   ·exact I.apart.bM k h4
   ·exact .inr (I.apart.cj id k h4 h5)
  ·unfold aX
   simp only[Gh.bV,if_true]
   exact I.PW h (by cases hq:ro.md<;>simp_all [Md.iG,Md.cU]) (fun k=> .inl) (fun h1 k h2=> .inr ⟨h1,h2⟩)
 ·exact⟨hc.1,jZ.iI (g:={ g with ro:=G }) (ro':={ ro with md:= .BQ }) (.inl h) rfl rfl (l:=[]) (by simp) fw (hc.2.ro fun k=> .inl)⟩
structure Vg (w:World) (g:Gh) (st:St) (g':Gh) (aI:St) (ids:List Nat) (u:List (Nat×Rt)):Prop where
 n:g'.n=g.n
 bx:g'.bx=g.bx
 ro:∀k,g.ro k→g'.ro k
 src:∀k,g'.ro k→g.ro k∨∃id∈ids,aT st id∧g.rf id k
 all:∀id∈ids,aT st id→∀k,g.rf id k→g'.ro k
 eq:aI={ st with roots:=ck st.roots u }
 own:∀id,aT aI id→aT st id∧g'.rf id=g.rf id
 map:∀c v,bf w g st c v→bf w g' aI c v
theorem Inv.freeze:∀{ids:List Nat}{g:Gh}{st:St}{k:St→List (Nat×Rt)→Option R}{r:R},Inv w0 Mf g st a w→freeze st ids k=some r→∃g' aI u,k aI u=some r∧Inv w0 Mf g' aI a w∧Vg w g st g' aI ids u
 | [],g,st,k,r,I,h=>⟨g,st,[],h,I,rfl,rfl,fun _ h=>h,fun _=> .inl,fun _ h=>by simp at h,rfl,fun _ h=>⟨h,rfl⟩,fun _ _ h=>h⟩
 |id::ids,g,st,k,r,I,h=>by
  simp only[Gm.freeze] at h
  split at h
  ·rename_i ro dh
   obtain⟨DJ,h⟩:ro.md.cU=false∧_:=by
    cases hq:ro.md.cU
    ·rw[hq] at h;exact⟨rfl,h⟩
    ·rw[hq] at h;cases h
   obtain⟨g1,e1,e2,e3,e4,e5,e6,I1,hm⟩:=I.tN dh DJ
   obtain⟨g',aI,u,h1,h2,h3⟩:=Inv.freeze I1 h
   have ho:∀aK,aT { st with roots:=bc st.roots id (.live { ro with md:= .BQ }) } aK→aK≠id∧aT st aK:=fun aK ⟨r',h4,h5⟩=>by
    simp only[aJ] at h4
    by_cases e:aK=id
    ·simp only[e,if_true,Option.some.injEq,Rt.live.injEq] at h4
     subst h4;cases h5
    ·exact⟨e,r',by simpa [e] using h4,h5⟩
   refine⟨g',aI,_,h1,h2,h3.n.trans e1,h3.bx.trans e2,fun k hk=>h3.ro k (e3 k hk),fun k hk=> ?_,fun aK cQ cH k hk=> ?_,by rw[h3.eq];rfl,fun aK hi=> ?_,fun c v hc=>h3.map c v (hm c v hc)⟩
   ·rcases h3.src k hk with h4 | ⟨aK,h4,h5,h6⟩
    ·rcases e5 k h4 with h5 | h5
     ·exact .inl h5
     ·exact .inr ⟨id,by simp,h5⟩
    ·obtain⟨h7,h8⟩:=ho aK h5
     rw[e6 aK h7] at h6
     exact .inr ⟨aK,by simp[h4],h8,h6⟩
   ·by_cases e:aK=id
    ·subst e;exact h3.ro k (e4 k hk cH)
    ·have FQ:aK∈ids:=by simpa [e] using cQ
     obtain⟨r',h4,h5⟩:=cH
     exact h3.all aK FQ ⟨r',by simp only[bQ _ _ e];exact h4,h5⟩ k (by rw[e6 aK e];exact hk)
   ·obtain⟨h4,h5⟩:=h3.own aK hi
    obtain⟨h6,h7⟩:=ho aK h4
    exact⟨h7,h5.trans (e6 aK h6)⟩
  ·rename_i tG
   obtain⟨g',aI,u,h1,h2,h3⟩:=Inv.freeze I h
   refine⟨g',aI,u,h1,h2,h3.n,h3.bx,h3.ro,fun k hk=>(h3.src k hk).imp (fun h=>h) fun ⟨aK,h4,h5⟩=>⟨aK,by simp[h4],h5⟩,fun aK cQ cH k hk=> ?_,h3.eq,h3.own,h3.map⟩
   by_cases e:aK=id
   ·subst e
    obtain⟨r',h4,_⟩:=cH
    exact (tG r' h4).elim
   ·exact h3.all aK (by simpa [e] using cQ) cH k hk
end Go.Gm
