/- The G-machine, part 2: an evaluator of translated code on typed values, and that it is sound. No conditions. -/
import Derived.Test.YtalnkjjnohgjkaaGreatGm1
import Derived.Laws.Tables
namespace Go.Gm
open Go
variable {R : Type} {P : Program} {E : Env} {w0 w : World} {Mf : Nat → Prop} {g : Gh} {st : St} {a : Act} {Q : Exit → Act → World → Prop}
  {o:Oper} {k:Dl→Option R} {r:R} {K:Act→World→Prop}
theorem zk{α:Type}(l:List (Nat×α))(n:Nat)(x y:α):bd (bd l n x) n y=bd l n y:=by
 induction l with
 |nil=>simp[bd,Nat.beq_refl]
 |cons kv l ih=>
  obtain⟨k,u⟩:=kv
  simp only[bd]
  cases h1:Nat.beq n k
  ·cases h2:Nat.blt n k
   ·simp only[cond_false,bd,h1,h2,ih]
   ·simp only[cond_false,cond_true,bd,Nat.beq_refl]
  ·simp only[cond_true,bd,Nat.beq_refl]
theorem RowsIn.size{t:Ty}{ys:List (El t)}{cs:Array Value}{o:Nat}{fH:Nat→Nat→Value}(h:RowsIn t ys cs o fH)(hn:ys≠[]):o+ys.length*ar t≤cs.size:=by
 have n9:=eW t
 have hl:0<ys.length:=List.length_pos_iff.2 hn
 have hi:ys.length-1<ys.length:=by omega
 obtain⟨u,hu,_⟩:=h (ys.length-1) ys[ys.length-1] (ar t-1) _ (List.getElem?_eq_getElem hi) (List.getElem?_eq_getElem (by rw[bl];omega))
 have bU:o+(ys.length-1)*ar t+(ar t-1)<cs.size:=by
  rcases Nat.lt_or_ge (o+(ys.length-1)*ar t+(ar t-1)) cs.size with h' | h'
  ·exact h'
  ·simp[Array.getElem?_eq_none h'] at hu
 have:ys.length*ar t=(ys.length-1)*ar t+ar t:=by
  have e:ys.length=(ys.length-1)+1:=by omega
  conv=>lhs;rw[e,Nat.add_mul,Nat.one_mul]
 omega
theorem eJ.news{F:Nat→Prop}{t:Ty}{ys:List (El t)}{v:Value}{fH:Nat→Nat→Value}(h:eJ w F t ys v fH):
    ∃xa cap news,v = .slice xa ys.length cap∧ys.length≤cap∧news.length=ys.length*ar t∧yC w xa news∧
      ∀i y j c,ys[i]? =some y→(enc t y)[j]? =some c→∃u,news[i*ar t+j]? =some u∧eI c u (fH i j):=by
 obtain⟨xa,cap,e,hle,hh⟩:=h
 by_cases hn:ys=[]
 ·subst hn
  exact⟨xa,cap,[],e,hle,by simp,.inl rfl,fun i y j c h=>by simp at h⟩
 ·obtain⟨b,oo,cs,el,fz,rfl,hF,hb,hr⟩:=hh hn
  have dy:=hr.size hn
  refine⟨_,cap,(cs.toList.drop oo).take (ys.length*ar t),e,hle,by simp;omega,.inr ⟨b,oo,cs,el,fz,rfl,hb,fun j v hj=> ?_⟩,fun i y j c hy hc=> ?_⟩
  ·rw[List.getElem?_take] at hj
   split at hj
   ·rw[List.getElem?_drop] at hj;simpa using hj
   ·cases hj
  ·obtain⟨u,hu,lr⟩:=hr i y j c hy hc
   refine⟨u,?_,lr⟩
   have hi:i<ys.length:=by
    rcases Nat.lt_or_ge i ys.length with h' | h'
    ·exact h'
    ·simp[List.getElem?_eq_none h'] at hy
   have hj:j<ar t:=by
    rw[← bl t y]
    rcases Nat.lt_or_ge j (enc t y).length with h' | h'
    ·exact h'
    ·simp[List.getElem?_eq_none h'] at hc
   have:i*ar t+j<ys.length*ar t:=by
    have:(i+1)*ar t≤ys.length*ar t:=Nat.mul_le_mul_right _ hi
    rw[Nat.add_mul] at this;omega
   rw[List.getElem?_take,if_pos this,List.getElem?_drop]
   simpa [Nat.add_assoc] using hu
structure Src (w:World) (ro:Nat→Prop) (d:Bool) (F:Nat→Prop) (e:Ty) (ys:List (El e)) (u:Value) (xa:Option Addr) (cap:Nat) (news:List Value) (G:Nat→Nat→Nat→Prop):Prop where
 eq:u = .slice xa ys.length cap
 len:news.length=ys.length*ar e
 Yw:yC w xa news
 rows:∀i y j c,ys[i]? =some y→(enc e y)[j]? =some c→∃z,news[i*ar e+j]? =some z∧pL w (fun k=>F k∨ro k) c z∧(d=true→gX w (G i j) c z)
 W8:∀i j i' j' k,G i j k→G i' j' k→i=i'∧j=j'
 sub:∀i j k,G i j k→F k
theorem Src.flat{ro:Nat→Prop}{d:Bool}{F:Nat→Prop}{e:Ty}{ys:List (El e)}{u:Value}{xa:Option Addr}{cap:Nat}{news:List Value}{G:Nat→Nat→Nat→Prop}
 (h:Src w ro d F e ys u xa cap news G):∀v∈news,v.oneCell'=true:=by
 intro v hv
 obtain⟨n,hn⟩:=List.getElem?_of_mem hv
 have n9:=eW e
 have bU:n<news.length:=by
  rcases Nat.lt_or_ge n news.length with h' | h'
  ·exact h'
  ·simp[List.getElem?_eq_none h'] at hn
 rw[h.len] at bU
 have hi:n/ar e<ys.length:=Nat.div_lt_of_lt_mul (by rw[Nat.mul_comm];exact bU)
 have hj:n%ar e<ar e:=Nat.mod_lt _ n9
 obtain⟨z,hz,hr,_⟩:=h.rows (n/ar e) ys[n/ar e] (n%ar e) _ (List.getElem?_eq_getElem hi) (List.getElem?_eq_getElem (by rw[bl];exact hj))
 have:n/ar e*ar e+n%ar e=n:=by rw[Nat.mul_comm];exact Nat.div_add_mod n (ar e)
 rw[this,hn] at hz;cases hz
 exact oC (fu (List.getElem?_eq_getElem (by rw[bl];exact hj)) hr)
theorem vE{e:Ty}(h:(kinds e).all (fun q=>q.isNone)=true){y:El e}{j:Nat}{c:Cv}(hc:(enc e y)[j]? =some c):∃x,c = .v x:=by
 have h1:=vi e y
 rw[← h1,List.all_map,List.all_eq_true] at h
 have:=h _ (List.mem_of_getElem? hc)
 cases c with
 |v x=>exact⟨x,rfl⟩
 |l t ys=>simp[Cv.kind] at this
theorem IN{t:Ty}{xs:List (El t)}{i j:Nat}{s:Sl}(h:aQ t xs [(i,j)]=some s):∃x,xs[i]? =some x∧(enc t x)[j]? =some (.l s.t s.xs):=by
 simp only[aQ] at h
 split at h
 ·rename_i x hx
  split at h
  ·rename_i t' ys hc
   simp only[Option.some.injEq] at h;subst h
   exact⟨x,hx,hc⟩
  ·cases h
 ·cases h
theorem S0{g:Gh}{st aF:St}{rf:Nat→Nat→Prop}{fr:List (Nat×Rt)}{F:Nat→Prop}{e:Ty}{xs:List (El e)}{d:Bool}{u:Value}(I':Inv w0 Mf (g.uo rf) aF a w)(T':fJ w g rf st aF fr [F])
 (hr:pL w (fun k=>F k∨g.ro k) (.l e xs) u) (ho:d=true→gX w F (.l e xs) u):∃xa cap news G,Inv w0 Mf (g.uo rf) aF a w∧fJ w g rf st aF fr [F]∧Src w g.ro d F e xs u xa cap news G:=by
 cases d
 ·obtain⟨av,h0,fX⟩:=hr
  obtain⟨xa,cap,news,e1,_,h2,h3,h4⟩:=(fX [] _ rfl).news
  refine⟨xa,cap,news,fun _ _ _=>False,I',T',⟨by rw[← h0];exact e1,h2,h3,fun i y j c hy mP=> ?_,fun _ _ _ _ _ h=>h.elim,fun _ _ _ h=>h.elim⟩⟩
  obtain⟨z,hz,n8⟩:=h4 i y j c hy mP
  refine⟨z,hz,?_,fun h=>by cases h⟩
  cases c with
  |v x=>exact n8
  |l t ys=>exact⟨fun q=>av ([(i,j)]++q),by simpa [eI] using n8.symm,fX.at (ke hy mP)⟩
 ·obtain⟨av,h0,fX⟩:=ho rfl
  obtain⟨xa,cap,news,e1,_,h2,h3,h4⟩:=(fX.1 [] _ rfl).rd.news
  refine⟨xa,cap,news,fun i j=>dR e xs av [(i,j)],I',T',⟨by rw[← h0];exact e1,h2,h3,fun i y j c hy mP=> ?_,fun i j i' j' n ⟨q,s,h1,h2⟩ ⟨q',s',h3,h4⟩=> ?_,
   fun i j n ⟨q,s,h1,h2⟩=>(fX.1 _ s h1).oa h2⟩⟩
  ·obtain⟨z,hz,n8⟩:=h4 i y j c hy mP
   refine⟨z,hz,?_,fun _=> ?_⟩
   ·cases c with
    |v x=>exact n8
    |l t ys=>exact⟨fun q=>av ([(i,j)]++q),by simpa [eI] using n8.symm,(fX.rd.at (ke hy mP)).mono fun n=> .inl⟩
   ·cases c with
    |v x=>exact n8
    |l t ys=>exact⟨fun q=>av ([(i,j)]++q),by simpa [eI] using n8.symm,fX.at (ke hy mP)⟩
  ·have:=fX.2 _ _ _ _ n h1 h3 h2 h4
   simp only[List.singleton_append,List.cons.injEq,Prod.mk.injEq] at this
   exact this.1
theorem Inv.K4(I:Inv w0 Mf g st a w){id ver lo hi:Nat}{ro:cC}(hv:au st.roots id=some (.live ro))(ht:ro.md.tB lo 0=true)(h1:lo≤hi)(h2:hi≤ro.xs.length):
    ∃F rf xa cap news G,Inv w0 Mf (g.uo rf) (st.taken id ro hi 0) a w∧fJ w g rf st (st.taken id ro hi 0) [(id,.live ⟨ro.t,.part (.cur hi 0),ro.ver,ro.log,ro.xs⟩)] [F]∧
      Src w g.ro true F ro.t ((ro.xs.take hi).drop lo) (mn (ar ro.t) (g.rv id []) lo hi) xa cap news G:=by
 have hp:=I.EE hv ht
 obtain⟨rf,I1,T1⟩:=I.take hv ht (eX.2 (show lo<hi∨(lo=hi∧0≤0) by omega)) (fun _=>Iff.rfl)
 have fK:=bA.cut (hp.1 [] ⟨ro.t,ro.xs⟩ rfl rfl) h1 h2
 obtain⟨xa,cap,news,e1,_,h3,h4,h5⟩:=fK.rd.news
 have hle:∀i j,ov lo 0 (i+lo) j=true:=fun i j=>eX.2 (by omega)
 refine⟨_,rf,xa,cap,news,fun i j k=>i+lo<hi∧dR ro.t ro.xs (g.rv id) [(i+lo,j)] k,I1,T1,⟨e1,h3,h4,fun i y j c hy hc=> ?_,?_,?_⟩⟩
 ·obtain⟨z,hz,n8⟩:=h5 i y j c hy hc
  have nz:i+lo<hi:=by
   rw[jf] at hy
   split at hy
   ·omega
   ·cases hy
  have own:gX w (fun k=>i+lo<hi∧dR ro.t ro.xs (g.rv id) [(i+lo,j)] k) c z:=by
   cases c with
   |v x=>exact n8
   |l t ys=>
    have hs:aQ ro.t ro.xs [(i+lo,j)]=some ⟨t,ys⟩:=by
     have:=vu (ke hy hc);exact this
    exact⟨fun q=>g.rv id ([(i+lo,j)]++q),by simpa [eI] using n8.symm,(hp.at (hle i j) hs).mono fun k hk=>⟨nz,hk⟩⟩
  refine⟨z,hz,?_,fun _=>own⟩
  cases c with
  |v x=>exact n8
  |l t ys=>
   obtain⟨av,h6,h7⟩:=own
   refine⟨av,h6,h7.rd.mono fun k hk=> .inl ?_⟩
   obtain⟨_,q,s,h8,h9⟩:=hk
   refine⟨[(i+lo,j)]++q,s,hle i j,?_,h8,h9⟩
   show ov hi 0 (i+lo) j=false
   cases hh:ov hi 0 (i+lo) j with
   |false=>rfl
   |true=>rw[eX] at hh;omega
 ·rintro i j i' j' n ⟨_,q,s,h6,h7⟩ ⟨_,q',s',h8,h9⟩
  have:=hp.2.1 ([(i+lo,j)]++q) ([(i'+lo,j')]++q') _ _ n (hle i j) (hle i' j') h6 h8 h7 h9
  simp only[List.singleton_append,List.cons.injEq,Prod.mk.injEq] at this
  exact⟨by omega,this.1.2⟩
 ·rintro i j k ⟨nz,q,s,h8,h9⟩
  refine⟨[(i+lo,j)]++q,s,hle i j,?_,h8,h9⟩
  show ov hi 0 (i+lo) j=false
  cases hh:ov hi 0 (i+lo) j with
  |false=>rfl
  |true=>rw[eX] at hh;omega
theorem Inv.lR(I:Inv w0 Mf g st a w){e:Ty}{c:Sc}{k:List (El e)→Bool→St→List (Nat×Rt)→Option R}{r:R}{u:Value}(h:lR st e c k=some r)(hc:bg w g st c u):
    ∃ys d aF fr F rf xa cap news G,k ys d aF fr=some r∧Inv w0 Mf (g.uo rf) aF a w∧fJ w g rf st aF fr [F]∧Src w g.ro d F e ys u xa cap news G:=by
  have T0:kN w g st st [] [fun _=>False]:=
    ⟨rfl,fun _ h=>h,fun _ _ h=>h,List.pairwise_singleton _ _,fun F hF k hk=>by simp only[List.mem_singleton] at hF;subst hF;exact hk.elim,
      fun F hF k hk=>by simp only[List.mem_singleton] at hF;subst hF;exact hk.elim,fun _ _ h=>h,fun _ _ h=>h⟩
  unfold Gm.lR at h
  split at h
  · rename_i pN
    replace h:=I.pK h hc;obtain⟨cv,h,qS⟩:=h
    replace h:=aT h;obtain⟨xs,yt,h⟩:=h
    have:=c8 yt
    simp only[enc,List.cons.injEq,and_true] at this
    subst this
    obtain⟨av,h0,fX⟩:=qS
    obtain⟨xa,cap,news,e1,_,h2,h3,h4⟩:=(fX [] _ rfl).news
    refine⟨xs,true,st,[],_,g.rf,xa,cap,news,fun _ _ _=>False,h,I,T0.P,⟨by rw[← h0];exact e1,h2,h3,fun i y j c hy mP=> ?_,fun _ _ _ _ _ h=>h.elim,fun _ _ _ h=>h⟩⟩
    obtain⟨z,hz,n8⟩:=h4 i y j c hy mP
    obtain⟨x,rfl⟩:=vE pN mP
    exact⟨z,hz,n8,fun _=>n8⟩
  · have fin:∀{rf:Nat→Nat→Prop}{cv:Cv}{d:Bool}{aF:St}{fr:List (Nat×Rt)}{F:Nat→Prop},((dec (.sl e) [cv]).bind fun xs=>k xs d aF fr)=some r→Inv w0 Mf (g.uo rf) aF a w→fJ w g rf st aF fr [F]→
        pL w (fun k=>F k∨g.ro k) cv u→(d=true→gX w F cv u)→∃ys d aF fr F rf xa cap news G,k ys d aF fr=some r∧Inv w0 Mf (g.uo rf) aF a w∧fJ w g rf st aF fr [F]∧Src w g.ro d F e ys u xa cap news G:=by
      intro rf cv d aF fr F h I' T' hr ho
      replace h:=aT h;obtain⟨xs,yt,h⟩:=h
      have:=c8 yt
      simp only[enc,List.cons.injEq,and_true] at this
      subst this
      obtain⟨xa,cap,news,G,h1,h2,h3⟩:=S0 I' T' hr ho
      exact⟨xs,d,aF,fr,F,rf,xa,cap,news,G,h,h1,h2,h3⟩
    unfold Gm.ze at h
    split at h
    · rename_i id ver lo hi t _
      replace h:=di h;obtain⟨ro,hv,gE,h⟩:=h
      cases ht:ro.md.tB lo 0
      · rw[ht] at h
        simp only[cond_false] at h
        replace h:=I.kE h hc;obtain⟨cv,d,aF,fr,F,h,I',T',hr,ho⟩:=h
        exact fin h I' T'.P hr ho
      · rw[ht] at h
        simp only[cond_true] at h
        obtain⟨h1,h2,hu⟩:=hc.2.2 ro ⟨.inl hv,gE,ig _ _⟩
        obtain⟨F,rf,xa,cap,news,G,h3,h4,h5⟩:=I.K4 (ver:=ver) hv ht h1 h2
        replace h:=aT h;obtain⟨xs,yt,h⟩:=h
        have:=c8 yt
        simp only[enc,List.cons.injEq,and_true,Cv.l.injEq] at this
        obtain⟨e1,e2⟩:=this
        obtain⟨t0,sL,v0,l0,x0⟩:=ro
        simp only at e1 e2
        subst e1
        have e2:=eq_of_heq e2
        subst e2
        exact⟨_,_,_,_,F,rf,xa,cap,news,G,h,h3,h4,by rw[hu];exact h5⟩
    · replace h:=I.ml h hc;obtain⟨cv,d,aF,fr,F,rf,h,I',T',hr,ho⟩:=h
      exact fin h I' T' hr ho
structure fY (w0:World) (Mf:Nat→Prop) (g:Gh) (st:St) (n:Nat):Prop where
 r:∀id,aS st id→ ¬g.rf id n
 ro : ¬g.ro n
 b:∀b,bB st b→g.bx b≠n
 ib:w0.heap.size≤n∨Mf n
theorem Inv.GP(I:Inv w0 Mf g st a w):fY w0 Mf g st w.heap.size:={
 r:=fun id h1 h2=>by have:=I.apart.ew id _ h1 h2;omega
 ro:=fun h=>by have:=I.apart.db _ h;omega
 b:=fun b h e=>by
  obtain⟨x,hx⟩:=Option.isSome_iff_exists.1 h
  obtain⟨us',pM,h1,_⟩:=I.boxes b x hx
  have:=(Array.getElem?_eq_some_iff.1 h1).1
  omega
 ib:= .inl I.kept.same.1 }
theorem gX.same{w w':World}{X F:Nat→Prop}(hs:bD X w w')(hd:∀k,F k→ ¬X k){c:Cv}{u:Value}(h:gX w F c u):gX w' F c u:=by
 cases c with
 |v x=>exact h
 |l t xs=>obtain⟨av,h0,h1⟩:=h;exact⟨av,h0,h1.same hs hd⟩
theorem dN.same{w w':World}{X ro:Nat→Prop}{d:Bool}{t:Ty}{xs:List (El t)}{cs:Array Value}{o:Nat}{G:Nat→Nat→Nat→Prop}(hs:bD X w w')
 (hG:∀i j k,G i j k→ ¬X k) (dj:∀k,ro k→ ¬X k) (h:dN w ro d t xs cs o G):dN w' ro d t xs cs o G:=
 ⟨fun i x j c hx hc=>let ⟨u,hu,hr,ho⟩:=h.rows i x j c hx hc
 ⟨u,hu,hr.same hs (fun k hk=>hk.elim (hG i j k) (dj k)),fun hd=>(ho hd).same hs (hG i j)⟩,h.W8⟩
theorem Inv.build(I:Inv w0 Mf g st a w){w':World}{b o cap el:Nat}{cs:Array Value}(hs:bD (fun k=>k=b) w w')(hos:w'.os=w.os)(K5:w'.tape=w.tape)(yD:w'.output=w.output)
 (hb:w'.heap[b]? =some (.cells cs el (0,0))) (cM:fY w0 Mf g st b) {e:Ty} {xs:List (El e)} {G:Nat→Nat→Nat→Prop} {F:Nat→Prop} {d:Bool}
 (hp:dN w (fun k=>g.ro k∨F k) d e xs cs o G) (hG:∀i j k,G i j k→k≠b∧fY w0 Mf g st k∧k<w.heap.size) (hF:∀k,F k→k≠b∧fY w0 Mf g st k∧k<w.heap.size)
 (dr:xs.length≤cap) (dy:o+cap*ar e≤cs.size) {id ver:Nat} {md:Md} (da:dF st id ⟨e,md,ver,[],xs⟩) (cK:md.cr=false∧md.cV=false) (S1:md.bM=true→d=true):
    ∃g':Gh,g'.n=g.n∧Inv w0 Mf g' { st with roots:=bd st.roots id (.live ⟨e,md,ver,[],xs⟩) } a w'∧g'.rv id [] = .slice (some ⟨b,o,none⟩) xs.length cap:=by
 have S2:b<w'.heap.size:=(Array.getElem?_eq_some_iff.1 hb).1
 have tF:Kept w0 w' Mf:=I.kept.step hos K5 yD hs (fun k hk=>by subst hk;exact cM.ib)
 have I1:Inv w0 Mf g st a w':=I.world hs (fun k h1 h2=>cM.ro (h2▸h1)) (fun id k h1 h2 h3=>cM.r id h1 (h3▸h2)) (fun b' h1 h2=>cM.b b' h1 h2) tF
 have SD:dN w' (fun k=>g.ro k∨F k) d e xs cs o G:=hp.same hs (fun i j k h=>(hG i j k h).1) (fun k h=>h.elim (fun h1 h2=>cM.ro (h2▸h1)) (fun h1=>(hF k h1).1))
 cases zl:md.bM
 ·-- what it is built of is read alone from now on
  have mX:md = .n6:=by cases md<;>simp_all [Md.bM,Md.cr,Md.cV]
  subst mX
  let S3:Nat→Prop:=fun k=>(g.ro k∨F k)∨∃i j,G i j k
  obtain⟨av,h0,fX⟩:=SD.n6 hb dr dy (ro':=S3) (fun k=> .inl) (fun i j k h=> .inr ⟨i,j,h⟩)
  have K3:∀k,S3 k→k≠b:=fun k h=>h.elim (fun h=>h.elim (fun h1 h2=>cM.ro (h2▸h1)) fun h1=>(hF k h1).1) fun ⟨i,j,h1⟩=>(hG i j k h1).1
  have I2:Inv w0 Mf { g with ro:=S3 } st a w':=I1.KU (G:=S3) (fun k h=> .inl (.inl h))
   (fun id k h1 h2 h3=>h3.elim (fun h=>h.elim (I1.apart.eu id k h1 h2) (fun h=>(hF k h).2.1.r id h1 h2)) fun ⟨i,j,h⟩=>(hG i j k h).2.1.r id h1 h2)
   (fun b' h1 h3=>h3.elim (fun h=>h.elim (I1.apart.gD b' h1) (fun h=>(hF _ h).2.1.b b' h1 rfl)) fun ⟨i,j,h⟩=>(hG i j _ h).2.1.b b' h1 rfl)
   (fun k h=>h.elim (fun h=>h.elim (I1.apart.db k) fun h=>Nat.lt_of_lt_of_le (hF k h).2.2 hs.1) fun ⟨i,j,h⟩=>Nat.lt_of_lt_of_le (hG i j k h).2.2 hs.1)
   (fun k h=>h.elim (fun h=>h.elim (I1.apart.bY k) fun h=> .inr (hF k h).2.1.ib) fun ⟨i,j,h⟩=> .inr (hG i j k h).2.1.ib)
  have I3:=I2.b7 (id:=id) (r:=⟨e,.n6,ver,[],xs⟩) da (av:=av) (F:=fun k=>k=b)
   (by simp only[aV,Gh.b7,if_true];exact fX)
   (fun k hk=>by subst hk;exact⟨fun aJ h1 _=>cM.r aJ h1,fun h=>K3 _ h rfl,cM.b,cM.ib,S2⟩)
  exact⟨_,by rfl,I3,by simp[Gh.b7,h0]⟩
 ·have hd:=S1 zl
  subst hd
  have aht:md = .deep:=by cases md<;>simp_all [Md.bM]
  subst aht
  obtain⟨av,h0,fX⟩:=SD.own hb dr dy (fun i j h=>(hG i j b h).1 rfl)
  have I3:=I1.b7 (id:=id) (r:=⟨e,.deep,ver,[],xs⟩) da (av:=av) (F:=fun k=>k=b∨∃i j,G i j k)
   (by simp only[aV,Gh.b7,if_true];exact fX)
   (fun k hk=>by
    rcases hk with rfl | ⟨i,j,h⟩
    ·exact⟨fun aJ h1 _=>cM.r aJ h1,cM.ro,cM.b,cM.ib,S2⟩
    ·obtain⟨_,h2,h3⟩:=hG i j k h
     exact⟨fun aJ h1 _=>h2.r aJ h1,h2.ro,h2.b,h2.ib,Nat.lt_of_lt_of_le h3 hs.1⟩)
  exact⟨_,by rfl,I3,by simp[Gh.b7,h0]⟩
theorem Inv.K6(I:Inv w0 Mf g st a w){e:Ty}{id ver:Nat}{md:Md}(da:dF st id ⟨e,md,ver,[],[]⟩)(cK:md.cr=false∧md.cV=false):
    ∃g':Gh,g'.n=g.n∧Inv w0 Mf g' { st with roots:=bd st.roots id (.live ⟨e,md,ver,[],[]⟩) } a w∧g'.rv id [] = .slice none 0 0:=by
 have uV:∀p s,aQ e [] p=some s→p=[]∧s=⟨e,[]⟩:=by
  intro p s hs
  cases p with
  |nil=>simp only[aQ,Option.some.injEq] at hs;exact⟨rfl,hs.symm⟩
  |cons ij p=>simp[aQ] at hs
 have ez:a8 w (fun _=>False) e [] (fun _=> .slice none 0 0):=
  ⟨fun p s hs=>by obtain⟨rfl,rfl⟩:=uV p s hs;exact .inl ⟨rfl,rfl⟩,fun p q s s' b _ _ h _=>by simp[qR] at h⟩
 have I3:=I.b7 (id:=id) (r:=⟨e,md,ver,[],[]⟩) da (av:=fun _=> .slice none 0 0) (F:=fun _=>False)
  (by
   cases md with
   |deep=>simp only[aV,Gh.b7,if_true];exact ez
   |n6=>
    simp only[aV,Gh.b7,if_true]
    exact⟨.inl ⟨rfl,rfl⟩,fun p s hp hs=>(hp (uV p s hs).1).elim⟩
   |B5=>simp[Md.cr] at cK
   |part k=>simp[Md.cV] at cK)
  (fun k hk=>hk.elim)
 exact⟨_,by rfl,I3,by simp[Gh.b7]⟩
structure Old (w0 w:World) (Mf:Nat→Prop) (g:Gh) (st:St) (d:Bool) (e:Ty) (xs:List (El e)) (sa:Option Addr) (cap:Nat) (bX:List Value) (G:Nat→Nat→Nat→Prop):Prop where
 len:bX.length=xs.length*ar e
 Yw:yC w sa bX
 fits:xs.length≤cap
 room:∀b o,sa=some ⟨b,o,none⟩→∃cs el,w.heap[b]? =some (.cells cs el (0,0))∧o+cap*ar e≤cs.size
 acU:sa=none→cap=0
 spot:∀ad,sa=some ad→ad.spot=none
 rows:∀i x j c,xs[i]? =some x→(enc e x)[j]? =some c→∃u,bX[i*ar e+j]? =some u∧pL w (fun k=>G i j k∨g.ro k) c u∧(d=true→gX w (G i j) c u)
 W8:∀i j i' j' k,G i j k→G i' j' k→i=i'∧j=j'
 free:∀b o,sa=some ⟨b,o,none⟩→fY w0 Mf g st b∧(∀ i j,¬G i j b)
 K7:∀i j k,G i j k→fY w0 Mf g st k∧k<w.heap.size
theorem Inv.appendCore(hE:E.Ok P)(I:Inv w0 Mf g st a w){T T' ty:Nat}{e e':Ty}(hT:E.code T=some (.sl e))(GO:E.code T'=some (.sl e')){d1 d2:Bool}{xs ys:List (El e)}{sa xa:Option Addr}{cap c2:Nat}
    {bX news:List Value} {G1 G2:Nat→Nat→Nat→Prop} {F:Nat→Prop} {x:Value} (hold:Old w0 w Mf g st d1 e xs sa cap bX G1) (gZ:Src w g.ro d2 F e ys x xa c2 news G2)
 (hF:∀k,F k→fY w0 Mf g st k∧k<w.heap.size∧(∀ o b,sa=some ⟨b,o,none⟩→k≠b)∧∀i j,¬G1 i j k) (ji:xs.length+ys.length≤bT) {id ver:Nat} {md:Md}
 (da:dF st id ⟨e,md,ver,[],xs++ys⟩) (cK:md.cr=false∧md.cV=false) (S1:md.bM=true→d1=true∧d2=true):
    ∃v' w' g',(Builtin.append_ #[T,T'] ty #[.slice sa xs.length cap,x]).run P w = .ok v' w'∧g'.n=g.n∧Inv w0 Mf g' { st with roots:=bd st.roots id (.live ⟨e,md,ver,[],xs++ys⟩) } a w'∧g'.rv id []=v':=by
 obtain⟨v',w',df,hos,K5,yD,vF⟩:=vB (P:=P) (ty:=ty) hE hT GO hold.len hold.Yw gZ.len gZ.Yw gZ.flat hold.fits hold.room hold.acU hold.spot ji (c:=c2)
 rw[← gZ.eq] at df
 rcases vF with ⟨rfl,_,hn,hm,rfl⟩ | ⟨b,oo,iE,cs,el,rfl,hb,Ct,Cu,oB,ca,Yx⟩
 ·have hx:xs=[]:=List.eq_nil_of_length_eq_zero hn
  have hy:ys=[]:=List.eq_nil_of_length_eq_zero hm
  subst hx;subst hy
  obtain⟨g',h1,h2,h3⟩:=I.K6 (e:=e) (id:=id) (ver:=ver) (md:=md) (by simpa using da) cK
  exact⟨_,_,g',df,h1,by simpa using h2,h3⟩
 ·have n9:=eW e
  have GQ:fY w0 Mf g st b∧(∀ i j,¬G1 i j b)∧ ¬F b:=by
   rcases Yx with ⟨o',yr⟩ | rfl
   ·obtain⟨h1,h2⟩:=hold.free b o' yr
    exact⟨h1,h2,fun h=>(hF b h).2.2.1 o' b yr rfl⟩
   ·exact⟨I.GP,fun i j h=>by have:=(hold.K7 i j _ h).2;omega,fun h=>by have:=(hF _ h).2.1;omega⟩
  let G:Nat→Nat→Nat→Prop:=fun i j k=>(i<xs.length∧G1 i j k)∨(xs.length≤i∧G2 (i-xs.length) j k)
  have hp:dN w (fun k=>g.ro k∨F k) (d1&&d2) e (xs++ys) cs oo G:=by
   refine⟨fun i y j c hy hc=> ?_,fun i j i' j' k h1 h2=> ?_⟩
   ·have hj:j<ar e:=by
     rw[← bl e y]
     rcases Nat.lt_or_ge j (enc e y).length with h' | h'
     ·exact h'
     ·simp[List.getElem?_eq_none h'] at hc
    by_cases hi:i<xs.length
    ·rw[List.getElem?_append_left hi] at hy
     obtain⟨u,hu,hr,ho⟩:=hold.rows i y j c hy hc
     have bU:i*ar e+j<bX.length:=by
      rcases Nat.lt_or_ge (i*ar e+j) bX.length with h' | h'
      ·exact h'
      ·simp[List.getElem?_eq_none h'] at hu
     refine⟨u,?_,hr.mono fun k hk=>hk.elim (fun h=> .inl (.inl ⟨hi,h⟩)) (fun h=> .inr (.inl h)),fun hd=> ?_⟩
     ·rw[Nat.add_assoc];exact oB _ u (by rw[List.getElem?_append_left bU];exact hu)
     ·simp only[Bool.and_eq_true] at hd
      have:=ho hd.1
      cases c with
      |v q=>exact this
      |l t zs=>obtain⟨f,h0,h1⟩:=this;exact⟨f,h0,h1.mono fun k hk=> .inl ⟨hi,hk⟩⟩
    ·rw[List.getElem?_append_right (by omega)] at hy
     obtain⟨u,hu,hr,ho⟩:=gZ.rows (i-xs.length) y j c hy hc
     have bU:(i-xs.length)*ar e+j<news.length:=by
      rcases Nat.lt_or_ge ((i-xs.length)*ar e+j) news.length with h' | h'
      ·exact h'
      ·simp[List.getElem?_eq_none h'] at hu
     refine⟨u,?_,hr.mono fun k hk=>hk.elim (fun h=> .inr (.inr h)) (fun h=> .inr (.inl h)),fun hd=> ?_⟩
     ·have e1:i*ar e=xs.length*ar e+(i-xs.length)*ar e:=by rw[← Nat.add_mul];congr 1;omega
      rw[Nat.add_assoc]
      refine oB _ u ?_
      rw[List.getElem?_append_right (by rw[hold.len];omega),hold.len]
      rw[show i*ar e+j-xs.length*ar e=(i-xs.length)*ar e+j by omega]
      exact hu
     ·simp only[Bool.and_eq_true] at hd
      have:=ho hd.2
      cases c with
      |v q=>exact this
      |l t zs=>obtain⟨f,h0,h1⟩:=this;exact⟨f,h0,h1.mono fun k hk=> .inr ⟨by omega,hk⟩⟩
   ·rcases h1 with ⟨hi,h1⟩ | ⟨hi,h1⟩<;>rcases h2 with ⟨nz,h2⟩ | ⟨nz,h2⟩
    ·exact hold.W8 _ _ _ _ k h1 h2
    ·exact ((hF k (gZ.sub _ _ _ h2)).2.2.2 i j h1).elim
    ·exact ((hF k (gZ.sub _ _ _ h1)).2.2.2 i' j' h2).elim
    ·obtain⟨h3,h4⟩:=gZ.W8 _ _ _ _ k h1 h2
     exact⟨by omega,h4⟩
  obtain⟨g',h1,h2,h3⟩:=I.build ca hos K5 yD hb GQ.1 hp (fun i j k h=>by
    rcases h with ⟨hi,h⟩ | ⟨hi,h⟩
    ·exact⟨fun e=>GQ.2.1 i j (e▸h),(hold.K7 i j k h).1,(hold.K7 i j k h).2⟩
    ·have hk:=gZ.sub _ _ _ h
     exact⟨fun e=>GQ.2.2 (e▸hk),(hF k hk).1,(hF k hk).2.1⟩)
   (fun k h=>⟨fun e=>GQ.2.2 (e▸h),(hF k h).1,(hF k h).2.1⟩) (by simpa using Ct) Cu da cK (fun h=>by simp[S1 h])
  exact⟨_,w',g',df,h1,h2,by simpa using h3⟩
theorem oD{id:Nat}{t:Ty}{md:Md}{xs:List (El t)}{k:cC→Option R}{r:R}(h:kL st id t md xs k=some r):
    ∃ver,dF st id ⟨t,md,ver,[],xs⟩∧k ⟨t,md,ver,[],xs⟩=some r:=by
 unfold kL at h
 split at h
 ·rename_i r' hn;obtain⟨_,h⟩:=bh h;exact⟨r'.ver+1,by unfold dF;rw[hn];simp,h⟩
 unfold mkRoot at h
 split at h
 ·rename_i hn;exact⟨0,by unfold dF;rw[hn];trivial,h⟩
 ·rename_i v hn;exact⟨v+1,by unfold dF;rw[hn];simp,h⟩
 ·cases h
theorem EF{id:Nat}{t:Ty}{md:Md}{xs:List (El t)}{k:cC→Option R}{r:R}(h:mkRoot st id t md xs k=some r):
    ∃ver,dF st id ⟨t,md,ver,[],xs⟩∧k ⟨t,md,ver,[],xs⟩=some r∧∀ro,au st.roots id≠some (.live ro):=by
 unfold mkRoot at h
 split at h
 ·rename_i hn;exact⟨0,by unfold dF;rw[hn];trivial,h,fun ro=>by rw[hn];simp⟩
 ·rename_i v hn;exact⟨v+1,by unfold dF;rw[hn];simp,h,fun ro=>by rw[hn];simp⟩
 ·cases h
theorem Inv.uW{g':Gh}{w':World}{id:Nat}{r:cC}(I:Inv w0 Mf g' { st with roots:=bd st.roots id (.live r) } a w')(hl:r.log=[]){dst:Option Nat}(hd:∀d,dst=some d→d<g'.n.sz)(hf:cR (g'.rv id [])=true):
    Inv w0 Mf g' (({ st with roots:=bd st.roots id (.live r) }:St).apply { slot:=dst.map fun d=>(d,.c (.one (.h id r.ver 0 []))) }) (a.put dst (g'.rv id [])) w':=
  I.Et hd ⟨hf,by unfold cL;simp only[bo];exact .inr ⟨trivial,Nat.zero_le _⟩,fun r' j6=>by
    have:=j6.1
    simp only[bo,Option.some.injEq,Rt.live.injEq,reduceCtorEq,or_false] at this
    subst this
    exact⟨rfl,by simp[aQ]⟩⟩
theorem pk{m:Md}{d:Bool}(h:(m.meet d).bM=true):m.bM=true∧d=true:=by
 cases m<;>cases d<;>simp_all [Md.meet,Md.bM]
theorem re{m:Md}{d:Bool}(h:m.cr=false):(m.meet d).cr=false:=by
 cases m<;>cases d<;>simp_all [Md.meet,Md.cr]
theorem pn{m:Md}{d:Bool}(h:m.cV=false):(m.meet d).cV=false:=by
 cases m<;>cases d<;>simp_all [Md.meet,Md.cV]
theorem kN.free(I:Inv w0 Mf g st a w){aF:St}{fr:List (Nat×Rt)}{Fs:List (Nat→Prop)}(T:kN w g st aF fr Fs){F:Nat→Prop}(hF:F∈Fs){k:Nat}(hk:F k):fY w0 Mf g aF k∧k<w.heap.size:=by
 obtain⟨id,h1,h2⟩:=T.src F hF k hk
 exact⟨⟨fun aJ h=>T.off F hF k hk aJ h,I.apart.eu id k h1 h2,fun b hb e=>I.apart.rb id b h1 (by rw[T.eq] at hb;exact hb) (e▸h2),I.apart.cp id k h1 h2⟩,I.apart.ew id k h1 h2⟩
theorem fJ.free(I:Inv w0 Mf g st a w){rf:Nat→Nat→Prop}{aF:St}{fr:List (Nat×Rt)}{Fs:List (Nat→Prop)}(T:fJ w g rf st aF fr Fs){F:Nat→Prop}(hF:F∈Fs){k:Nat}(hk:F k):fY w0 Mf (g.uo rf) aF k∧k<w.heap.size:=by
 obtain⟨id,h1,h2⟩:=T.src F hF k hk
 exact⟨⟨fun aJ h=>T.off F hF k hk aJ h,I.apart.eu id k h1 h2,fun b hb e=>I.apart.rb id b h1 (by rw[T.eq] at hb;exact hb) (e▸h2),I.apart.cp id k h1 h2⟩,I.apart.ew id k h1 h2⟩
theorem fY.drop{id:Nat}{v:Nat}{n:Nat}(h:∀aJ,aS st aJ→aJ≠id→ ¬g.rf aJ n)(dj : ¬g.ro n)(hb:∀b,bB st b→g.bx b≠n)(hm:w0.heap.size≤n∨Mf n):
    fY w0 Mf g { st with roots:=bd st.roots id (.gone v) } n:=
 ⟨fun aJ ⟨r',h1,h2⟩=>by
    simp only[aH] at h1
    by_cases e:aJ=id
    · simp[e] at h1
    · exact h aJ ⟨r',by simpa [e] using h1,h2⟩ e,dj,hb,hm⟩
theorem Inv.Xb(I:Inv w0 Mf g st a w){id:Nat}{e:Ty}{xs:List (El e)}{md:Md}{ver:Nat}{log:List Nat}(h:au st.roots id=some (.live ⟨e,md,ver,log,xs⟩))(hm:md.cr=false)(hmp:md.cV=false):
    ∃sa cap bX G,g.rv id [] = .slice sa xs.length cap∧Old w0 w Mf g { st with roots:=bd st.roots id (.gone ver) } md.bM e xs sa cap bX G∧(∀ i j n,G i j n→g.rf id n)∧(∀ b o,sa=some ⟨b,o,none⟩→g.rf id b):=by
 have cQ:aS st id:=⟨_,h,hm⟩
 have cM:∀n,g.rf id n→fY w0 Mf g { st with roots:=bd st.roots id (.gone ver) } n:=fun n hn=>
  fY.drop (fun aJ h1 h2 h3=>h2 (I.apart.rr aJ id n h1 cQ h3 hn)) (I.apart.eu id n cQ hn) (fun b hb e=>I.apart.rb id b cQ hb (e▸hn)) (I.apart.cp id n cQ hn)
 have hr:=I.roots id _ h
 -- the node itself
 have fK:bA w (g.rf id) e xs (g.rv id []) fun i j=>g.rv id [(i,j)]:=by
  unfold aV at hr
  split at hr
  ·exact hr.1 [] _ rfl
  ·exact hr.1
  ·rename_i cK;simp only at cK;simp[cK,Md.cr] at hm
  ·rename_i cK;simp only at cK;simp[cK,Md.cV] at hmp
 let G:Nat→Nat→Nat→Prop:=fun i j n=>md.bM=true∧dR e xs (g.rv id) [(i,j)] n
 have eC:∀i j n,G i j n→g.rf id n:=by
  intro i j n ⟨hd,q,s,h1,h2⟩
  unfold aV at hr
  split at hr
  ·exact (hr.1 _ s h1).oa h2
  ·rename_i cK;simp only at cK;simp[cK,Md.bM] at hd
  ·rename_i cK;simp only at cK;simp[cK,Md.bM] at hd
  ·rename_i cK;simp only at cK;simp[cK,Md.bM] at hd
 have yE:∀i j i' j' n,G i j n→G i' j' n→i=i'∧j=j':=by
  intro i j i' j' n ⟨hd,q,s,h1,h2⟩ ⟨_,q',s',h3,h4⟩
  unfold aV at hr
  split at hr
  ·have:=hr.2 _ _ _ _ n h1 h3 h2 h4
   simp only[List.singleton_append,List.cons.injEq,Prod.mk.injEq] at this
   exact this.1
  ·rename_i cK;simp only at cK;simp[cK,Md.bM] at hd
  ·rename_i cK;simp only at cK;simp[cK,Md.bM] at hd
  ·rename_i cK;simp only at cK;simp[cK,Md.bM] at hd
 have Yy:∀{us:Array Value}{oo:Nat},RowsIn e xs us oo (fun i j=>g.rv id [(i,j)])→∀i x j c,xs[i]? =some x→(enc e x)[j]? =some c→
   ∃u,us[oo+i*ar e+j]? =some u∧pL w (fun k=>G i j k∨g.ro k) c u∧(md.bM=true→gX w (G i j) c u):=by
  intro us oo du i x j c hx hc
  unfold aV at hr
  split at hr
  ·rename_i cK
   simp only at cK
   obtain⟨u,h1,h2,h3⟩:=(hr.pieces (ro:=g.ro) du).rows i x j c hx hc
   have hG:∀n,dR e xs (g.rv id) [(i,j)] n→G i j n:=fun n hn=>⟨by simp[cK,Md.bM],hn⟩
   refine⟨u,h1,h2.mono fun k hk=>hk.imp (hG k) (fun h=>h),fun _=> ?_⟩
   cases c with
   |v q=>exact h3 rfl
   |l t zs=>obtain⟨f,h0,h4⟩:=h3 rfl;exact⟨f,h0,h4.mono hG⟩
  ·rename_i cK
   simp only at cK
   obtain⟨u,h1,h2,h3⟩:=(hr.pieces du).rows i x j c hx hc
   exact⟨u,h1,h2.mono fun k hk=>hk.elim (fun h=>h.elim) .inr,fun h=>by simp[cK,Md.bM] at h⟩
  ·rename_i cK;simp only at cK;simp[cK,Md.cr] at hm
  ·rename_i cK;simp only at cK;simp[cK,Md.cV] at hmp
 rcases fK with ⟨rfl,hv⟩ | ⟨b,oo,cap,us,el,hv,Eb,hb,hle,dy,du⟩
 ·exact⟨none,0,[],G,hv,⟨by simp,.inl rfl,Nat.le_refl _,fun b o h=>by simp at h,fun _=>rfl,fun ad h=>by simp at h,fun i x j c h=>by simp at h,yE,fun b o h=>by simp at h,
   fun i j n h=>⟨cM n (eC i j n h),I.apart.ew id n cQ (eC i j n h)⟩⟩,eC,fun b o h=>by simp at h⟩
 ·have hll:oo+xs.length*ar e≤us.size:=Nat.le_trans (Nat.add_le_add_left (Nat.mul_le_mul_right _ hle) _) dy
  refine⟨some ⟨b,oo,none⟩,cap,(us.toList.drop oo).take (xs.length*ar e),G,hv,⟨by simp;omega,.inr ⟨b,oo,us,el,(0,0),rfl,hb,fun j v hj=> ?_⟩,hle,fun b' o' h=> ?_,fun h=>by simp at h,fun ad h=> ?_,
   fun i x j c hx hc=> ?_,yE,fun b' o' h=> ?_,fun i j n h=>⟨cM n (eC i j n h),I.apart.ew id n cQ (eC i j n h)⟩⟩,eC,fun b' o' h=> ?_⟩
  ·rw[List.getElem?_take] at hj
   split at hj
   ·rw[List.getElem?_drop] at hj;simpa using hj
   ·cases hj
  ·simp only[Option.some.injEq,Addr.mk.injEq,and_true] at h;obtain⟨rfl,rfl⟩:=h
   exact⟨us,el,hb,dy⟩
  ·simp only[Option.some.injEq] at h;subst h;rfl
  ·obtain⟨u,h1,h2,h3⟩:=Yy du i x j c hx hc
   refine⟨u,?_,h2,h3⟩
   have hi:i<xs.length:=by
    rcases Nat.lt_or_ge i xs.length with h' | h'
    ·exact h'
    ·simp[List.getElem?_eq_none h'] at hx
   have hj:j<ar e:=by
    rw[← bl e x]
    rcases Nat.lt_or_ge j (enc e x).length with h' | h'
    ·exact h'
    ·simp[List.getElem?_eq_none h'] at hc
   have:i*ar e+j<xs.length*ar e:=by
    have:(i+1)*ar e≤xs.length*ar e:=Nat.mul_le_mul_right _ hi
    rw[Nat.add_mul] at this;omega
   rw[List.getElem?_take,if_pos this,List.getElem?_drop]
   simpa [Nat.add_assoc] using h1
  ·simp only[Option.some.injEq,Addr.mk.injEq,and_true] at h;obtain⟨rfl,rfl⟩:=h
   refine⟨cM b Eb,fun i j hG=> ?_⟩
   obtain⟨hd,q,s,h1,h2⟩:=hG
   unfold aV at hr
   split at hr
   ·have:=hr.2 _ [] s ⟨e,xs⟩ b h1 rfl h2 (by rw[hv];rfl)
    simp at this
   ·rename_i cK;simp only at cK;simp[cK,Md.bM] at hd
   ·rename_i cK;simp only at cK;simp[cK,Md.bM] at hd
   ·rename_i cK;simp only at cK;simp[cK,Md.bM] at hd
  ·simp only[Option.some.injEq,Addr.mk.injEq,and_true] at h;obtain⟨rfl,rfl⟩:=h
   exact Eb
theorem Inv.EG(I:Inv w0 Mf g st a w){id:Nat}{r:cC}(h:au st.roots id=some (.live r)):cR (g.rv id [])=true:=by
 exact I.Ck h (p:=[]) (s:=⟨r.t,r.xs⟩) rfl
theorem K8(hE:E.Ok P)(I:Inv w0 Mf g st a w)(hd:∀d,o.dst=some d→d<g.n.sz)(hK:Then w0 Mf g st k r K){c:Call}(b9:o.op = .call c)(K9:c.callee = .builtin .append)
 (h:eZ E o st k=some r):o.wp P a w K Q:=by
 simp only[eZ,b9,K9,eY] at h
 split at h
 case h_2=>cases h
 rename_i s x T T' ik KZ
 have jH:c.args = #[s,x]:=by apply Array.ext';simpa using ik
 have Cr:c.argTypes = #[T,T']:=by apply Array.ext';simpa using KZ
 have key:∀v w',(Builtin.append_ #[T,T'] o.type #[a.eval s,a.eval x]).run P w = .ok v w'→(execOp a.eval o).run P w = .ok (.value v) w':=by
  intro v w' hv
  simp[execOp,b9,resolve,K9,invoke,builtin,jH,Cr,hv]
 replace h:=aT h;obtain⟨e',he',h⟩:=h
 have GO:=gF he'
 replace h:=I.fV h;obtain⟨cs,h,fq⟩:=h
 replace h:=I.fV h;obtain⟨cx,h,hcx⟩:=h
 unfold mQ at h
 split at h
 case h_2=>cases h
 rename_i e hT
 split at h
 ·-- onto nil
  replace h:=I.lR h hcx;obtain⟨ys,d,aF,fr,F,rf,xa,cap,news,G,h,I',TK,gZ⟩:=h
  replace h:=bh h;obtain⟨ji,h⟩:=h
  replace h:=oD h;obtain⟨ver,da,h⟩:=h
  have hs:=fq.2;simp only[mO] at hs
  have hold:Old w0 w Mf (g.uo rf) aF true e ([]:List (El e)) none 0 [] (fun _ _ _=>False):=
   ⟨by simp,.inl rfl,Nat.le_refl _,fun b o h=>by simp at h,fun _=>rfl,fun ad h=>by simp at h,fun i x j c h=>by simp at h,fun _ _ _ _ _ h=>h.elim,fun b o h=>by simp at h,fun _ _ _ h=>h.elim⟩
  obtain⟨v',w',g',df,hn,I2,hv⟩:=I'.appendCore (ty:=o.type) hE hT GO hold gZ
   (fun k hk=>⟨(TK.free I (by simp) hk).1,(TK.free I (by simp) hk).2,fun o b h=>by simp at h,fun _ _ h=>h⟩) (by have:=iD ji;simpa using this) (id:=64*o.dst.getD 0) (ver:=ver) (md:=Md.deep.meet d)
   (by simpa using da) ⟨re rfl,pn rfl⟩ (fun h=>⟨rfl,(pk h).2⟩)
  refine oA (key v' w' (by rw[hs];exact df)) (hK _ g' _ _ h hn ?_)
  have pN:=I2.EG (id:=64*o.dst.getD 0) (bo _ _ _)
  have:=I2.uW rfl (dst:=o.dst) (fun d h=>by rw[hn];exact hd d h) pN
  rw[hv] at this
  have jh:=TK.eq
  subst jh
  simpa [St.apply,bn,cj] using this
 ·-- onto an own list
  rename_i id ver iv
  replace h:=I.lR h hcx;obtain⟨ys,d,aF,fr,F,rf,xa,cap,news,G,h,I',TK,gZ⟩:=h
  replace h:=di h;obtain⟨ro,ec,gE,h⟩:=h
  obtain⟨yv,IP,h⟩:ro.md.cr=false∧ro.md.cV=false∧_:=by
   cases yv:ro.md.cr
   case true=>simp[yv] at h
   cases IP:ro.md.cV
   case true=>simp[yv,IP] at h
   simp only[yv,IP,Bool.or_self,cond_false] at h
   exact⟨rfl,rfl,h⟩
  replace h:=aT h;obtain⟨xs,yt,h⟩:=h
  replace h:=bh h;obtain⟨ji,h⟩:=h
  obtain⟨t,md,K',log,xs0⟩:=ro
  have:=c8 yt
  simp only[enc,List.cons.injEq,and_true,Cv.l.injEq] at this
  obtain⟨rfl,hxx⟩:=this
  have hxx:=eq_of_heq hxx
  subst hxx
  simp only at gE yv IP
  subst gE
  have Yz:=(TK.map _ _ fq).rf rf
  obtain⟨hu,_⟩:=Yz.2.2 _ ⟨.inl ec,rfl,ig _ _⟩
  obtain⟨sa,ahx,bX,G1,Xc,hold,Xd,YA⟩:=I'.Xb ec yv IP
  have I'':=I'.drop ec
  have EH:∀n,F n→fY w0 Mf (g.uo rf) { aF with roots:=bd aF.roots id (.gone K') } n∧n<w.heap.size∧(∀ o b,sa=some ⟨b,o,none⟩→n≠b)∧∀i j,¬G1 i j n:=by
   intro n hn
   obtain⟨hf,bU⟩:=TK.free I (by simp) hn
   have lP:=TK.off F (by simp) n hn id ⟨_,ec,yv⟩
   exact⟨fY.drop (fun aJ h1 _=>hf.r aJ h1) hf.ro hf.b hf.ib,bU,fun o b h e=>lP (e▸YA b o h),fun i j h=>lP (Xd i j n h)⟩
  obtain⟨v',w',g',df,hn,I2,hv⟩:=I''.appendCore (ty:=o.type) hE hT GO hold gZ EH (iD ji) (id:=id) (ver:=K'+1) (md:=md.meet d)
   (by unfold dF;simp[bo]) ⟨re yv,pn IP⟩ pk
  refine oA (key v' w' (by rw[hu,Xc];exact df)) (hK _ g' _ _ h hn ?_)
  have pN:=I2.EG (id:=id) (bo _ _ _)
  have:=I2.uW rfl (dst:=o.dst) (fun d h=>by rw[hn];exact hd d h) pN
  rw[hv] at this
  have jh:=TK.eq
  subst jh
  simp only[zk] at this
  simpa [St.apply,bn,cj] using this
 ·-- onto a list within an own one
  rename_i id ver iv p hnp
  have Xa:p≠[]:=hnp
  replace h:=I.lR h hcx;obtain⟨ys,d,aF,fr,F,rf,xa,cap,news,G,h,I',TK,gZ⟩:=h
  replace h:=de h;obtain⟨ro,dj,h⟩:=h
  replace h:=bh h;obtain⟨zl,h⟩:=h
  have cK:ro.md = .deep:=by cases hq:ro.md<;>simp_all [Md.bM]
  replace h:=aT h;obtain⟨s1,po,h⟩:=h
  replace h:=aT h;obtain⟨xs,yt,h⟩:=h
  replace h:=bh h;obtain⟨ji,h⟩:=h
  replace h:=EF h;obtain⟨AH,da,h,Xe⟩:=h
  have dn:64*o.dst.getD 0≠id:=fun e=>Xe ro (by rw[e];exact dj.1)
  obtain⟨t1,xs1⟩:=s1
  have:=c8 yt
  simp only[enc,List.cons.injEq,and_true,Cv.l.injEq] at this
  obtain⟨e1,e2⟩:=this
  subst e1
  have e2:=eq_of_heq e2
  subst e2
  have Yz:=(TK.map _ _ fq).rf rf
  obtain⟨hu,lv⟩:=Yz.2.2 ro dj.x
  obtain⟨s',eK⟩:=Option.isSome_iff_exists.1 lv
  have:=cW eK
  rw[po] at this;cases this
  obtain⟨g2,n1,n2,_,n4,I2,ez⟩:=I'.Yv dj.1 cK Xa eK dn da
  obtain⟨sa,ahx,bX,G1,Xc,hold,Xd,YA⟩:=I2.Xb (bo _ _ _) rfl rfl
  have I3:=I2.drop (bo _ _ _)
  have lP:∀n,F n→∀i,aS { aF with roots:=bd (bd aF.roots id (.live ⟨ro.t,.part (.hole p),ro.ver,ro.log,ro.xs⟩)) (64*o.dst.getD 0) (.live ⟨t1,.deep,AH,[],xs1⟩) } i→ ¬g2.rf i n:=fun n hn i hi hr=>by
   obtain⟨i0,h1,h2⟩:=ez i n hi hr
   exact (TK.free I (by simp) hn).1.r i0 h1 h2
  have acW:aS { aF with roots:=bd (bd aF.roots id (.live ⟨ro.t,.part (.hole p),ro.ver,ro.log,ro.xs⟩)) (64*o.dst.getD 0) (.live ⟨t1,.deep,AH,[],xs1⟩) } (64*o.dst.getD 0):=⟨_,bo _ _ _,rfl⟩
  have EH:∀n,F n→fY w0 Mf g2 { aF with roots:=bd (bd (bd aF.roots id (.live ⟨ro.t,.part (.hole p),ro.ver,ro.log,ro.xs⟩)) (64*o.dst.getD 0) (.live ⟨t1,.deep,AH,[],xs1⟩)) (64*o.dst.getD 0) (.gone AH) } n∧n<w.heap.size∧(∀ o b,sa=some ⟨b,o,none⟩→n≠b)∧∀i j,¬G1 i j n:=by
   intro n hn
   obtain⟨hf,bU⟩:=TK.free I (by simp) hn
   refine⟨fY.drop (st:={ aF with roots:=bd (bd aF.roots id (.live ⟨ro.t,.part (.hole p),ro.ver,ro.log,ro.xs⟩)) (64*o.dst.getD 0) (.live ⟨t1,.deep,AH,[],xs1⟩) }) (fun i h1 _=>lP n hn i h1) ?_ (fun b hb=> ?_) hf.ib,bU,fun o b h e=>lP n hn _ acW (e▸YA b o h),fun i j h=>lP n hn _ acW (Xd i j n h)⟩
   ·rw[n2];exact hf.ro
   ·rw[‹∀ b,g2.bx b=_› b];exact hf.b b hb
  rw[n4] at Xc
  obtain⟨v',w',g',df,hn,I4,hv⟩:=I3.appendCore (ty:=o.type) hE hT GO hold (by rw[n2];exact gZ) EH (iD ji) (id:=64*o.dst.getD 0) (ver:=AH+1) (md:=Md.deep.meet d)
   (by unfold dF;simp[bo]) ⟨re rfl,pn rfl⟩ pk
  have hgn:g'.n=g.n:=hn.trans n1
  refine oA (key v' w' (by rw[hu,Xc];exact df)) (hK _ g' _ _ h hgn ?_)
  have pN:=I4.EG (id:=64*o.dst.getD 0) (bo _ _ _)
  have:=I4.uW rfl (dst:=o.dst) (fun d h=>by rw[hgn];exact hd d h) pN
  rw[hv] at this
  have jh:=TK.eq
  subst jh
  simp only[zk] at this
  simpa [St.apply,bn,cj] using this
 ·cases h
theorem AI(off:Nat):∀(l:List Value)(n:Nat)(cells:Array Value),off+n+l.length≤cells.size→
 ((l.zipIdx n).foldl (fun cs (p:Value×Nat)=>cs.setIfInBounds (off+p.2) p.1) cells).size=cells.size∧
    ∀m,((l.zipIdx n).foldl (fun cs (p:Value×Nat)=>cs.setIfInBounds (off+p.2) p.1) cells)[m]? =if off+n≤m∧m<off+n+l.length then l[m-(off+n)]? else cells[m]?
 | [],n,cells,h=>⟨rfl,fun m=>by rw[if_neg (by simp)];rfl⟩
 |v::l,n,cells,h=>by
  simp only[List.length_cons] at h
  obtain⟨h1,h2⟩:=AI off l (n+1) (cells.setIfInBounds (off+n) v) (by simp;omega)
  simp only[List.zipIdx_cons,List.foldl_cons]
  refine⟨by rw[h1];simp,fun m=> ?_⟩
  rw[h2 m]
  by_cases hm:m=off+n
  ·subst hm
   rw[if_neg (by omega),if_pos (by simp),Array.getElem?_setIfInBounds_self_of_lt (by omega)]
   simp
  ·by_cases hr:off+n≤m∧m<off+n+(v::l).length
   ·simp only[List.length_cons] at hr
    rw[if_pos (by omega),if_pos (by simp;omega)]
    rw[show m-(off+n)=(m-(off+(n+1)))+1 by omega,List.getElem?_cons_succ]
   ·simp only[List.length_cons] at hr
    rw[if_neg (by omega),if_neg (by simp;omega),Array.getElem?_setIfInBounds_ne (by omega)]
def putAt(cells:Array Value)(off:Nat)(vs:Array Value):Array Value:=vs.zipIdx.foldl (fun cs (p:Value×Nat)=>cs.setIfInBounds (off+p.2) p.1) cells
theorem cG{cells:Array Value}{off:Nat}{vs:Array Value}(h:off+vs.size≤cells.size):(putAt cells off vs).size=cells.size:=by
 have:=(AI off vs.toList 0 cells (by simpa using h)).1
 unfold putAt
 rw[← Array.foldl_toList,Array.toList_zipIdx]
 exact this
theorem e7{cells:Array Value}{off:Nat}{vs:Array Value}(h:off+vs.size≤cells.size)(m:Nat):(putAt cells off vs)[m]? =if off≤m∧m<off+vs.size then vs[m-off]? else cells[m]? :=by
 have:=(AI off vs.toList 0 cells (by simpa using h)).2 m
 unfold putAt
 rw[← Array.foldl_toList,Array.toList_zipIdx]
 simpa using this
theorem zm{place:Nat→Option (Nat×Nat)}{cells:Array Value}{i off:Nat}{v:Value}{rest:List (Nat×Value)}(hp:place i=some (off,v.cells.size))(h:off+v.cells.size≤cells.size):
    Instr.fill place cells ((i,v)::rest)=Instr.fill place (putAt cells off v.cells) rest:=by
 simp only[Instr.fill,hp]
 rw[if_neg (by simp;omega)]
 rfl
theorem La{t:Ty}{j:Nat}{t':Ty}{ys:List (El t')}(h:(enc t (zero t))[j]? =some (.l t' ys)):ys=[]:=by
 have key:(enc t (zero t)).all (fun c=>match c with | .v _=>true | .l _ ys=>ys.isEmpty)=true:=by cases t<;>rfl
 have:=List.all_eq_true.1 key _ (List.mem_of_getElem? h)
 simpa using this
theorem vG(w:World)(F:Nat→Prop)(t:Ty):jB w F t [] (.slice none 0 0):=
 ⟨fun _=> .slice none 0 0,rfl,fun p s hs=>by
      cases p with
      |nil=>simp only[aQ,Option.some.injEq] at hs;subst hs;exact .inl ⟨rfl,rfl⟩
      |cons ij p=>simp[aQ] at hs,
    fun p q s s' b _ _ h _=>by simp[qR] at h⟩
theorem gX.rd{F:Nat→Prop}{c:Cv}{u:Value}(h:gX w F c u):pL w F c u:=by
 cases c with
 |v x=>exact h
 |l t ys=>obtain⟨av,h0,h1⟩:=h;exact⟨av,h0,h1.rd⟩
theorem gX.mono{F G:Nat→Prop}(hFG:∀k,F k→G k){c:Cv}{u:Value}(h:gX w F c u):gX w G c u:=by
 cases c with
 |v x=>exact h
 |l t ys=>obtain⟨av,h0,h1⟩:=h;exact⟨av,h0,h1.mono hFG⟩
def uq(t:Ty)(n:Nat):Array Value:=(Array.range (n*ar t)).map fun i=>(dP t).getD (i%ar t) (.bool false)
theorem sS(t:Ty)(n:Nat):(uq t n).size=n*ar t:=by simp[uq]
theorem tI(w:World)(ro:Nat→Prop)(t:Ty)(n:Nat):dN w ro true t (List.replicate n (zero t)) (uq t n) 0 (fun _ _ _=>False):=by
 refine⟨fun i x j c hx hc=> ?_,fun _ _ _ _ _ h=>h.elim⟩
 have hi:i<n:=by
  rcases Nat.lt_or_ge i n with h' | h'
  ·exact h'
  ·rw[List.getElem?_eq_none (by simpa using h')] at hx;cases hx
 simp only[List.getElem?_replicate,hi,if_true,Option.some.injEq] at hx
 subst hx
 have hj:j<ar t:=by
  rw[← bl t (zero t)]
  rcases Nat.lt_or_ge j (enc t (zero t)).length with h' | h'
  ·exact h'
  ·simp[List.getElem?_eq_none h'] at hc
 have bU:i*ar t+j<n*ar t:=by
  have:(i+1)*ar t≤n*ar t:=Nat.mul_le_mul_right _ hi
  rw[Nat.add_mul] at this;omega
 have YB:(i*ar t+j)%ar t=j:=by rw[Nat.mul_comm,Nat.mul_add_mod,Nat.mod_eq_of_lt hj]
 have hz:(uq t n)[0+i*ar t+j]? =some ((dP t).getD j (.bool false)):=by
  rw[Nat.zero_add]
  simp only[uq,Array.getElem?_map]
  rw[Array.getElem?_eq_getElem (by simpa using bU)]
  simp[YB]
 refine⟨_,hz,?_⟩
 cases c with
 |v x=>
  have hzv:(dP t).getD j (.bool false)=x:=by simp only[dP,List.getD,List.getElem?_map,hc,Option.map_some,Option.getD_some]
  exact⟨hzv,fun _=>hzv⟩
 |l t' ys=>
  have:=La hc
  subst this
  have hzv:(dP t).getD j (.bool false) = .slice none 0 0:=by simp only[dP,List.getD,List.getElem?_map,hc,Option.map_some,Option.getD_some]
  rw[hzv]
  have ez:gX w (fun _=>False) (.l t' []) (.slice none 0 0):=vG w _ t'
  exact⟨ez.rd.mono fun _ h=>h.elim,fun _=>ez⟩
theorem S4{k:Nat}: ¬Any [] k:=fun ⟨_,h,_⟩=>by simp at h
theorem nB{Fs Gs:List (Nat→Prop)}{k:Nat}:Any (Fs++Gs) k↔Any Fs k∨Any Gs k:=by
 simp only[Any,List.mem_append]
 constructor
 ·rintro⟨F,h | h,hk⟩
  ·exact .inl ⟨F,h,hk⟩
  ·exact .inr ⟨F,h,hk⟩
 ·rintro (⟨F,h,hk⟩ | ⟨F,h,hk⟩)
  ·exact⟨F,.inl h,hk⟩
  ·exact⟨F,.inr h,hk⟩
theorem Inv.zc(I:Inv w0 Mf g st a w){t:Ty}{s:Sv}{k:El t→Bool→St→List (Nat×Rt)→Option R}{r:R}{u:Value}(h:zc st t s k=some r)(hs:dO w g st s u):
    ∃x us d aF fr Fs,k x d aF fr=some r∧Form t u us∧Inv w0 Mf g aF a w∧kN w g st aF fr Fs∧ny w g.ro (enc t x) us.toList Fs d:=by
 obtain⟨cs,fq,h⟩:=aT h
 obtain⟨us,hf,hc⟩:=dw fq hs
 obtain⟨cv,d,aF,fr,Fs,h1,I',T,hA⟩:=I.qp h hc.l
 obtain⟨x,hx,h3⟩:=aT h1
 have qS:=c8 hx
 subst qS
 exact⟨x,us,d,aF,fr,Fs,h3,hf,I',T,hA⟩
theorem Inv.sQ(I:Inv w0 Mf g st a w){t:Ty}{s:Sv}{k:El t→Bool→St→List (Nat×Rt)→Option R}{r:R}{u:Value}(h:sQ st t s k=some r)(hs:dO w g st s u):
    ∃x us d aF fr Fs rf,k x d aF fr=some r∧Form t u us∧Inv w0 Mf (g.uo rf) aF a w∧fJ w g rf st aF fr Fs∧ny w g.ro (enc t x) us.toList Fs d:=by
 obtain⟨cs,fq,h⟩:=aT h
 obtain⟨us,hf,hc⟩:=dw fq hs
 obtain⟨cv,d,aF,fr,Fs,rf,h1,I',T,hA⟩:=I.tC h hc.l
 obtain⟨x,hx,h3⟩:=aT h1
 have qS:=c8 hx
 subst qS
 exact⟨x,us,d,aF,fr,Fs,rf,h3,hf,I',T,hA⟩
theorem jI{t:Ty}{x:El t}{j:Nat}{c:Cv}(h:(enc t x)[j]? =some c):j<ar t:=by
 rw[← bl t x]
 rcases Nat.lt_or_ge j (enc t x).length with h' | h'
 ·exact h'
 ·simp[List.getElem?_eq_none h'] at h
theorem mY{α:Type}{xs:List α}{i:Nat}{x:α}(h:xs[i]? =some x):i<xs.length:=by
 rcases Nat.lt_or_ge i xs.length with h' | h'
 ·exact h'
 ·simp[List.getElem?_eq_none h'] at h
theorem dN.put{ro gr:Nat→Prop}{dd d:Bool}{e:Ty}{xs:List (El e)}{cs:Array Value}{o:Nat}{G:Nat→Nat→Nat→Prop}{Fs Gs:List (Nat→Prop)}(hp:dN w (fun k=>ro k∨Any Fs k) dd e xs cs o G)
 (hG:∀i j k,G i j k→Any Fs k) {y:El e} {vs:List Value} (hA:ny w gr (enc e y) vs Gs d) (dj:∀k,gr k→ro k) (vH:bS (Fs++Gs)) {i:Nat} (hi:i<xs.length) (dy:o+xs.length*ar e≤cs.size):
    ∃G',dN w (fun k=>ro k∨Any (Fs++Gs) k) (dd&&d) e (xs.set i y) (putAt cs (o+i*ar e) vs.toArray) o G'∧∀i j k,G' i j k→Any (Fs++Gs) k:=by
 have hlen:vs.length=ar e:=by rw[hA.len.1,bl]
 have hmul:i*ar e+ar e≤xs.length*ar e:=by
  have:(i+1)*ar e≤xs.length*ar e:=Nat.mul_le_mul_right _ hi
  rw[Nat.add_mul] at this;omega
 have kO:=fun m=>e7 (cells:=cs) (off:=o+i*ar e) (vs:=vs.toArray) (by simp[hlen];omega) m
 have e8:=hA.rd
 let G':Nat→Nat→Nat→Prop:=fun i' j k=>(i'=i∧∃F,Gs[j]? =some F∧F k)∨(i'≠i∧G i' j k)
 have qT:∀i j k,G' i j k→Any (Fs++Gs) k:=by
  rintro i' j k (⟨rfl,F,h1,h2⟩ | ⟨_,h⟩)
  ·exact nB.2 (.inr ⟨F,List.mem_of_getElem? h1,h2⟩)
  ·exact nB.2 (.inl (hG _ _ _ h))
 refine⟨G',⟨fun i' x j c hx hc=> ?_,?_⟩,qT⟩
 ·have hj:=jI hc
  by_cases qW:i'=i
  ·subst qW
   rw[List.getElem?_set_self hi] at hx
   cases hx
   obtain⟨z,hz,hr⟩:=e8.get j c hc
   refine⟨z,?_,hr.mono fun k hk=> ?_,fun hd=> ?_⟩
   ·rw[kO,if_pos (by simp[hlen];omega),show o+i'*ar e+j-(o+i'*ar e)=j by omega]
    simpa using hz
   ·rcases hk with hk | hk
    ·exact .inr (.inr (nB.2 (.inr hk)))
    ·exact .inr (.inl (dj k hk))
   ·simp only[Bool.and_eq_true] at hd
    obtain⟨z',F,h1,h2,h3⟩:=hA.own hd.2 j c hc
    rw[hz] at h1;cases h1
    exact h3.mono fun k hk=> .inl ⟨rfl,F,h2,hk⟩
  ·rw[List.getElem?_set_ne (Ne.symm qW)] at hx
   obtain⟨z,hz,hr,ho⟩:=hp.rows i' x j c hx hc
   refine⟨z,?_,hr.mono fun k hk=> ?_,fun hd=> ?_⟩
   ·rw[kO,if_neg ?_]
    ·exact hz
    ·simp only[List.size_toArray,hlen]
     rcases Nat.lt_or_gt_of_ne qW with bU | bU
     ·have:(i'+1)*ar e≤i*ar e:=Nat.mul_le_mul_right _ bU
      rw[Nat.add_mul] at this;omega
     ·have:(i+1)*ar e≤i'*ar e:=Nat.mul_le_mul_right _ bU
      rw[Nat.add_mul] at this;omega
   ·rcases hk with hk | hk | hk
    ·exact .inl (.inr ⟨qW,hk⟩)
    ·exact .inr (.inl hk)
    ·exact .inr (.inr (nB.2 (.inl hk)))
   ·simp only[Bool.and_eq_true] at hd
    exact (ho hd.1).mono fun k hk=> .inr ⟨qW,hk⟩
 ·have hx:∀k,Any Fs k→Any Gs k→False:=fun k ⟨F,hF,h1⟩ ⟨F',Yu,h2⟩=>(List.pairwise_append.1 vH).2.2 F hF F' Yu k h1 h2
  rintro i1 j1 i2 j2 k (⟨rfl,F,h1,h2⟩ | ⟨hn,h⟩) (⟨rfl,F',uU,KF⟩ | ⟨KR,h'⟩)
  ·refine⟨rfl,?_⟩
   have yF:=List.pairwise_iff_getElem.1 (List.pairwise_append.1 vH).2.1
   obtain⟨hj,rfl⟩:=List.getElem?_eq_some_iff.1 h1
   obtain⟨Es,rfl⟩:=List.getElem?_eq_some_iff.1 uU
   rcases Nat.lt_trichotomy j1 j2 with bU | heq | bU
   ·exact (yF j1 j2 hj Es bU k h2 KF).elim
   ·exact heq
   ·exact (yF j2 j1 Es hj bU k KF h2).elim
  ·exact (hx k (hG _ _ _ h') ⟨F,List.mem_of_getElem? h1,h2⟩).elim
  ·exact (hx k (hG _ _ _ h) ⟨F',List.mem_of_getElem? uU,KF⟩).elim
  ·exact hp.W8 _ _ _ _ k h h'
theorem Inv.j5{g:Gh}{st0:St}{e:Ty}:∀{ps:List (Nat×Operand)}{rf:Nat→Nat→Prop}{st:St}{fr:List (Nat×Rt)}{Fs:List (Nat→Prop)}{xs:List (El e)}{cs:Array Value}{G:Nat→Nat→Nat→Prop}{dd:Bool}
    {k:List (El e)→Bool→St→List (Nat×Rt)→Option R} {r:R},Inv w0 Mf (g.uo rf) st a w→fJ w g rf st0 st fr Fs→dN w (fun k=>g.ro k∨Any Fs k) dd e xs cs 0 G→(∀ i j k,G i j k→Any Fs k)→
    cs.size=xs.length*ar e→j5 e st ps xs k=some r→
    ∃ys d aF acX Fs' sK G' rf',k ys d aF acX=some r∧Inv w0 Mf (g.uo rf') aF a w∧fJ w g rf' st0 aF (fr++acX) Fs'∧dN w (fun k=>g.ro k∨Any Fs' k) (dd&&d) e ys sK 0 G'∧(∀ i j k,G' i j k→Any Fs' k)∧
      sK.size=cs.size∧ys.length=xs.length∧Instr.fill (fun i=>some (i*ar e,ar e)) cs (ps.map fun p=>(p.1,a.eval p.2))=some sK
  | [],rf,st,fr,Fs,xs,cs,G,dd,k,r,I,T,hp,hG,dy,h=>⟨xs,true,st,[],Fs,cs,G,rf,h,I,by simpa using T,by simpa using hp,hG,rfl,rfl,rfl⟩
  | (i,x)::ps,rf,st,fr,Fs,xs,cs,G,dd,k,r,I,T,hp,hG,dy,h=>by
    simp only[Gm.j5] at h
    obtain⟨s,h,hs⟩:=I.dv h
    obtain⟨y,us,d,s1,u1,Gs,rf1,h,hf,I1,T1,hA⟩:=I.sQ h hs
    obtain⟨hi,h⟩:=bh h
    have hi:i<xs.length:=Nat.lt_of_succ_le (iD hi)
    have T2:=T.trans T1
    obtain⟨G1,uX,Xd⟩:=hp.put hG hA (fun _ h=>h) T2.apart hi (by omega)
    have tG:us.size=ar e:=by
      have:=hA.len.1
      rw[bl] at this;simpa using this
    have hmul:i*ar e+ar e≤xs.length*ar e:=by
      have:(i+1)*ar e≤xs.length*ar e:=Nat.mul_le_mul_right _ hi
      rw[Nat.add_mul] at this;omega
    have kG:=hf.cells
    obtain⟨ys,d',aF,u',Fs',sK,G',rf',h1,h2,h3,h4,h5,h6,h7,h8⟩:=Inv.j5 (g:=g) (rf:=rf1) I1 T2 uX Xd (by rw[cG (by simp[tG];omega)];simpa using dy) h
    refine⟨ys,d&&d',aF,u1++u',Fs',sK,G',rf',h1,h2,by rw[← List.append_assoc];exact h3,by rw[← Bool.and_assoc];exact h4,h5,?_,by simpa using h7,?_⟩
    · rw[h6,cG (by simp[tG];omega)]
    · simp only[List.map_cons]
      rw[zm (off:=i*ar e) (by rw[kG,tG]) (by rw[kG,tG];omega)]
      simpa [kG] using h8
theorem nC{T:Nat}{cs:Array Value}(w:World):(newRow T cs).run P w = .ok ⟨w.heap.size,0,none⟩ (il w (.cells cs T)):=by
 simp[newRow,il]
theorem Inv.GR{rf:Nat→Nat→Prop}{st0:St}(I0:Inv w0 Mf g st0 a w)(I:Inv w0 Mf (g.uo rf) st a w){fr:List (Nat×Rt)}{Fs:List (Nat→Prop)}(T:fJ w g rf st0 st fr Fs){e:Ty}{xs:List (El e)}{cs:Array Value}{G:Nat→Nat→Nat→Prop}{d:Bool}
 (hp:dN w (fun k=>g.ro k∨Any Fs k) d e xs cs 0 G) (hG:∀i j k,G i j k→Any Fs k) (dy:cs.size=xs.length*ar e) {el id ver:Nat} {md:Md} (da:dF st id ⟨e,md,ver,[],xs⟩) (cK:md.cr=false∧md.cV=false)
 (S1:md.bM=true→d=true) {dst:Option Nat} (hd:∀d,dst=some d→d<g.n.sz):
    ∃g':Gh,g'.n=g.n∧Inv w0 Mf g' (({ st with roots:=bd st.roots id (.live ⟨e,md,ver,[],xs⟩) }:St).apply { slot:=dst.map fun d=>(d,.c (.one (.h id ver 0 []))) })
 (a.put dst (.slice (some ⟨w.heap.size,0,none⟩) xs.length xs.length)) (il w (.cells cs el)):=by
 have hs:bD (fun k=>k=w.heap.size) w (il w (.cells cs el)):=⟨(mU w _).1,fun b h _=>(mU w (.cells cs el)).2 b h (fun h=>h)⟩
 have GS:∀k,Any Fs k→k≠w.heap.size∧fY w0 Mf (g.uo rf) st k∧k<w.heap.size:=fun k ⟨F,hF,hk⟩=>by
  obtain⟨h1,h2⟩:=T.free I0 hF hk
  exact⟨by omega,h1,h2⟩
 obtain⟨g',h1,h2,h3⟩:=I.build (w':=il w (.cells cs el)) (b:=w.heap.size) (o:=0) (cap:=xs.length) (el:=el) (cs:=cs) hs rfl rfl rfl (Cs _ _) I.GP hp (fun i j k h=>GS k (hG i j k h)) GS (Nat.le_refl _)
  (by omega) da cK S1
 refine⟨g',h1,?_⟩
 have:=h2.uW rfl (dst:=dst) (fun d h=>by rw[h1];exact hd d h) (by rw[h3];rfl)
 rw[h3] at this
 exact this
theorem GU{zv:Array Value}{t:Ty}(h:zv=(dP t).toArray)(n:Nat):(Array.range (n*ar t)).map (fun i=>(if n*ar t=0 then #[] else zv)[i%(if n*ar t=0 then (#[]:Array Value) else zv).size]!)=uq t n:=by
 subst h
 by_cases hn:n*ar t=0
 ·simp[uq,hn]
 ·simp only[hn,if_false,uq]
  apply Array.ext
  ·simp
  ·intro i h1 h2
   simp only[Array.getElem_map,Array.getElem_range]
   have hl:(dP t).length=ar t:=by simp[dP,bl]
   have bU:i%ar t<(dP t).length:=by rw[hl];exact Nat.mod_lt _ (eW t)
   simp[hl,List.getD,List.getElem?_eq_getElem bU]
theorem vI{T n el:Nat}{e:Ty}{zv:Value}{cs:Array Value}{parts:Array (Nat×Value)}(hu:P.underlying T=some (.slice el))(hs:(sizeOf el).run P w = .ok (ar e) w)
 (hz:(zeroValue el).run P w = .ok zv w) (vA:zv.cells=(dP e).toArray) (ji:n*ar e≤16777216)
 (tJ:Instr.fill (fun i=>some (i*ar e,ar e)) (uq e n) parts.toList=some cs):(Instr.buildSlice T n parts).run P w = .ok (.slice (some ⟨w.heap.size,0,none⟩) n n) (il w (.cells cs el)):=by
 have acY : ¬(2^24<n*ar e):=by omega
 have S5:=GU vA n
 by_cases K2:n*ar e=0
 ·simp only[K2,if_true] at S5
  rw[← S5] at tJ
  simp only[Instr.buildSlice,Sem.run_bind,run_underlying hu,Result.andThen_ok,hs,gt_iff_lt,K2,if_true,Sem.run_pure]
  simp only[Nat.not_lt_zero,if_false,Sem.run_bind,Sem.run_pure,Result.andThen_ok,tJ,nC]
 ·simp only[K2,if_false] at S5
  rw[← S5] at tJ
  simp only[Instr.buildSlice,Sem.run_bind,run_underlying hu,Result.andThen_ok,hs,gt_iff_lt,acY,K2,if_false,Sem.run_pure,hz,tJ,nC]
theorem AJ(hE:E.Ok P)(I:Inv w0 Mf g st a w)(hd:∀d,o.dst=some d→d<g.n.sz)(hK:Then w0 Mf g st k r K){T n:Nat}{ps:Array (Nat×Operand)}(b9:o.op = .buildSlice T n ps)
 (h:eZ E o st k=some r):o.wp P a w K Q:=by
 simp only[eZ,b9] at h
 split at h
 case h_2=>cases h
 rename_i e hT
 obtain⟨ji,h⟩:=bh h
 have ji:=iD ji
 obtain⟨ys,d,aF,fr,Fs,cs,G,rf,h,I',TK,hp,hG,dy,hlen,tJ⟩:=Inv.j5 (rf:=g.rf) (G:=fun _ _ _=>False) (dd:=true) I (fJ.refl _ _ _) (tI w _ e n) (fun _ _ _ h=>h.elim) (by simp[sS]) h
 obtain⟨ver,da,h⟩:=oD h
 obtain⟨el,hu,pg⟩:=hE.slice hT
 obtain⟨zv,hz,vA⟩:=hE.zero pg w
 have Lb:ys.length=n:=by simpa using hlen
 obtain⟨g',hn,I2⟩:=Inv.GR (el:=el) I I' (by simpa using TK) hp hG (by rw[dy,sS,Lb]) da ⟨re rfl,pn rfl⟩ (fun h=>by simpa using (pk h).2) hd
 refine oA (v:= .slice (some ⟨w.heap.size,0,none⟩) ys.length ys.length) (w':=il w (.cells cs el)) ?_ (hK _ g' _ _ h hn ?_)
 ·have YC:Instr.fill (fun i=>some (i*ar e,ar e)) (uq e n) (ps.map fun p=>(p.1,a.eval p.2)).toList=some cs:=by simpa using tJ
  have:=vI (n:=n) hu (hE.size pg w) hz vA ji YC
  rw[Lb]
  simp only[execOp,b9,Sem.run_bind,this,Result.andThen_ok,Sem.run_pure]
 ·have jh:=TK.eq
  subst jh
  simpa [St.apply,bn,cj] using I2
theorem run_makeSlice(hE:E.Ok P){T el:Nat}{e:Ty}{zv:Value}{n:Int}(hu:P.underlying T=some (.slice el))(pg:E.code el=some e)(hz:(zeroValue el).run P w = .ok zv w)(vA:zv.cells=(dP e).toArray)
 (h0:0≤n) (h1:n≤(bT:Int)):(Instr.makeSlice T (.int .i64 n) (.int .i64 n)).run P w = .ok (.slice (some ⟨w.heap.size,0,none⟩) n.toNat n.toNat) (il w (.cells (uq e n.toNat) el)):=by
 obtain⟨i,zv',hi,dy,Ys,_,_⟩:=hE.info el e pg
 have hw:IntKind.i64.wrap n=n:=by
  unfold bT at h1
  simp only[IntKind.wrap,IntKind.signed,IntKind.bits]
  simp
  omega
 have sR : ¬(281474976710656<(i.bytes:Int)*n):=by
  have h3:(i.bytes:Int)*n≤1024*n:=Int.mul_le_mul_of_nonneg_right (by omega) h0
  unfold bT at h1;omega
 have S5:=GU vA n.toNat
 have hs:=hE.size pg w
 have hn : ¬n<0:=by omega
 by_cases K2:n.toNat*ar e=0
 ·simp only[K2,if_true] at S5
  simp[Instr.makeSlice,run_underlying hu,asInt,asIntOf,typeInfo,hi,hw,hn,sR,hs,K2,nC,←S5]
 ·simp only[K2,if_false] at S5
  simp[Instr.makeSlice,run_underlying hu,asInt,asIntOf,typeInfo,hi,hw,hn,sR,hs,K2,nC,←S5,hz]
theorem Cw(hE:E.Ok P)(I:Inv w0 Mf g st a w)(hd:∀d,o.dst=some d→d<g.n.sz)(hK:Then w0 Mf g st k r K){T:Nat}{n m:Operand}(b9:o.op = .makeSlice T n m)
 (h:eZ E o st k=some r):o.wp P a w K Q:=by
 simp only[eZ,b9] at h
 split at h
 case h_2=>cases h
 rename_i e hT
 replace h:=I.getInt h;obtain⟨n',h,KR⟩:=h
 replace h:=I.getInt h;obtain⟨m',h,GM⟩:=h
 replace h:=bh h;obtain⟨hc,h⟩:=h
 simp only[Bool.and_eq_true,decide_eq_true_eq] at hc
 obtain⟨rfl,h0,h1⟩:=hc
 replace h:=oD h;obtain⟨ver,da,h⟩:=h
 obtain⟨el,hu,pg⟩:=hE.slice hT
 obtain⟨zv,hz,vA⟩:=hE.zero pg w
 obtain⟨g',hn,I2⟩:=Inv.GR (el:=el) (G:=fun _ _ _=>False) (rf:=g.rf) I I (fJ.refl _ _ _) ((tI w (fun k=>g.ro k∨Any [] k) e n'.toNat)) (fun _ _ _ h=>h.elim) (by simp[sS]) da ⟨rfl,rfl⟩ (fun _=>rfl) hd
 refine oA (v:= .slice (some ⟨w.heap.size,0,none⟩) n'.toNat n'.toNat) (w':=il w (.cells (uq e n'.toNat) el)) ?_ (hK _ g' _ _ h hn ?_)
 ·simp only[execOp,b9,Sem.run_bind,KR,GM,run_makeSlice hE hu pg hz vA h0 h1,Result.andThen_ok,Sem.run_pure]
 ·simpa [St.apply,cj] using I2
theorem Inv.j4(hE:E.Ok P)(I:Inv w0 Mf g st a w){T:Nat}{fs:Array Field}(hu:P.underlying T=some (.struct fs)){pl:List (Nat×Nat)}
 (hpl:fs.toList.mapM (fun f=>(P.info? f.type).map fun i=>(f.offset,i.size))=some pl):∀{ps:List (Nat×Operand)}{row:List Sc}{us:Array Value}{k:List Sc→Option R}{r:R},cJ w g st row us→
    j4 E T st ps row k=some r→∃Lc us',k Lc=some r∧cJ w g st Lc us'∧Instr.fill (pl.toArray[·]?) us (ps.map fun p=>(p.1,a.eval p.2))=some us'
  | [],row,us,k,r,hr,h=>⟨row,us,h,hr,rfl⟩
  | (i,x)::ps,row,us,k,r,hr,h=>by
    simp only[Gm.j4] at h
    obtain⟨⟨off,ft⟩,KX,h⟩:=aT h
    obtain⟨t,ht,h⟩:=aT h
    obtain⟨s,h,hs⟩:=I.dv h
    obtain⟨cs,fq,h⟩:=aT h
    obtain⟨hb,h⟩:=bh h
    simp only[Bool.and_eq_true] at hb
    have hlen:=iC hb.1
    have hle:=iD hb.2
    obtain⟨vs,hf,hc⟩:=dw fq hs
    obtain⟨fs',fd,t',yu,Yp,rfl,rfl,vy⟩:=hE.yq T i _ _ KX
    rw[hu] at yu;cases yu
    rw[ht] at vy;cases vy
    obtain⟨inf,zv,hi,dy,_⟩:=hE.info _ _ ht
    have SE:vs.size=cs.length:=hc.1
    have tG:us.size=row.length:=hr.1
    have YD:pl.toArray[i]? =some (fd.offset,ar t):=by
      have:∀(l:List Field)(pl:List (Nat×Nat)),l.mapM (fun f=>(P.info? f.type).map fun i=>(f.offset,i.size))=some pl→∀(n:Nat) f,l[n]? =some f→∃inf,P.info? f.type=some inf∧pl[n]? =some (f.offset,inf.size):=by
        intro l
        induction l with
        |nil=>intro pl _ n f hn;simp at hn
        |cons f0 l ih=>
          intro pl hm n f hn
          simp only[List.mapM_cons,Option.bind_eq_bind,Option.pure_def] at hm
          obtain⟨b,hb,hm⟩:=aT hm
          obtain⟨bs,W6,hm⟩:=aT hm
          simp only[Option.some.injEq] at hm;subst hm
          cases n with
          |zero=>
            simp only[List.getElem?_cons_zero,Option.some.injEq] at hn;subst hn
            simp only[Option.map_eq_some_iff] at hb
            obtain⟨inf,h1,rfl⟩:=hb
            exact⟨inf,h1,rfl⟩
          |succ n=>simpa using ih bs W6 n f (by simpa using hn)
      obtain⟨ama,h1,h2⟩:=this fs.toList pl hpl i fd (by simpa using Yp)
      rw[hi] at h1;cases h1
      simpa [dy] using h2
    have ur:=hr.set hc fd.offset (by omega)
    obtain⟨Lc,us',h1,h2,h3⟩:=Inv.j4 hE I hu hpl ur h
    refine⟨Lc,us',h1,h2,?_⟩
    have kG:=hf.cells
    simp only[List.map_cons]
    rw[zm (off:=fd.offset) (by rw[kG,SE,hlen];exact YD) (by rw[kG,SE,tG];omega),kG]
    rw[← h3]
    congr 1
    apply Array.ext
    · rw[cG (by omega)];simp;omega
    · intro n h1 h2
      apply Option.some.inj
      rw[← Array.getElem?_eq_getElem,←Array.getElem?_eq_getElem,e7 (by omega)]
      simp only[List.getElem?_toArray]
      by_cases Ec:n<fd.offset
      · rw[if_neg (by omega),List.append_assoc,List.getElem?_append_left (by simp;omega),List.getElem?_take,if_pos Ec];simp
      · by_cases GV:n<fd.offset+vs.size
        · rw[if_pos (by omega),List.getElem?_append_left (by simp;omega),List.getElem?_append_right (by simp;omega)]
          have:min fd.offset us.size=fd.offset:=by omega
          simp[this]
        · rw[if_neg (by omega),List.getElem?_append_right (by simp;omega)]
          have:min fd.offset us.size=fd.offset:=by omega
          simp only[List.length_append,List.length_take,Array.length_toList,this,List.getElem?_drop]
          rw[show fd.offset+vs.size+(n-(fd.offset+vs.size))=n by omega]
          simp
theorem S6(hE:E.Ok P)(I:Inv w0 Mf g st a w)(hd:∀d,o.dst=some d→d<g.n.sz)(hK:Then w0 Mf g st k r K){T:Nat}{ps:Array (Nat×Operand)}(b9:o.op = .build T ps)
 (h:eZ E o st k=some r):o.wp P a w K Q:=by
 simp only[eZ,b9] at h
 replace h:=aT h;obtain⟨t,hT,h⟩:=h
 replace h:=bh h;obtain⟨jh,h⟩:=h
 have hu:=hE.vv T t hT
 have yu:∃fs,P.underlying T=some (.struct fs):=by
  unfold dt at hu
  cases t<;>first | exact hu | (simp only[iZ,Bool.false_eq_true] at jh)
 obtain⟨fs,hfs⟩:=yu
 obtain⟨pl,hpl⟩:=hE.sts T fs hfs (by simp[hT])
 obtain⟨Lc,us',h,hr,tJ⟩:=I.j4 hE hfs hpl (GN t) h
 obtain⟨i,zv,hi,_,_,hz,vA⟩:=hE.info T t hT
 have hb:P.built T (ps.map fun (i,x)=>(i,a.eval x)).toList=some us':=by
  unfold Program.built
  simp only[hi,hfs,hz,hpl,vA]
  rw[show (ps.map fun (i,x)=>(i,a.eval x)).toList=ps.toList.map (fun p=>(p.1,a.eval p.2)) from by simp]
  exact tJ
 refine I.val hd hK (v:= .agg us') ?_ h ⟨us',rfl,hr⟩
 simp only[execOp,b9,Sem.run_bind,run_build w T _ _ hb,Result.andThen_ok,Sem.run_pure]
theorem lz{id ver iv:Nat}{ro:cC}(h:au st.roots id=some (.live ro)∨au st.roots id=some (.dq ro)):cL st id ver iv↔(ver<ro.ver∨(ver=ro.ver∧iv≤ro.log.length)):=by
 unfold cL
 rcases h with h | h<;>simp only[h]
structure Xf (g:Gh) (st:St) (id k:Nat):Prop where
 r:∀aJ,aS st aJ→aJ≠id→ ¬g.rf aJ k
 ro : ¬g.ro k
 b:∀b,bB st b→g.bx b≠k
theorem mO.kA{id:Nat}{ro ro':cC}(h:au st.roots id=some (.live ro)∨au st.roots id=some (.dq ro))(ht:ro'.t=ro.t)(gE:ro'.ver=ro.ver){l:List Nat}(S7:ro'.log=ro.log++l)
    {av:Path→Value} {F:Nat→Prop}
 (fX:∀q,(∀ D∈l,q.length≤D)→av q=g.rv id q∧∀s,aQ ro.t ro.xs q=some s→∃s',aQ ro'.t ro'.xs q=some s'∧s'.t=s.t∧s'.xs.length=s.xs.length)
    {c:Sc} {u:Value} (hc:mO w g st c u):mO w (g.b7 id av F) { st with roots:=bd st.roots id (.live ro') } c u:=by
 have cQ:au ({ st with roots:=bd st.roots id (.live ro') }:St).roots id=some (.live ro'):=bo _ _ _
 have hv:∀aJ ver iv,cL st aJ ver iv→cL { st with roots:=bd st.roots id (.live ro') } aJ ver iv:=by
  intro aJ ver iv hv
  by_cases cS:aJ=id
  ·subst cS
   rw[lz (.inl cQ),gE,S7]
   rw[lz h] at hv
   rcases hv with hv | ⟨hv,hi⟩
   ·exact .inl hv
   ·exact .inr ⟨hv,by simp;omega⟩
  ·unfold cL at hv ⊢
   simp only[b6 _ _ cS];exact hv
 have hx:∀aJ ver iv p r',cL st aJ ver iv→Vx { st with roots:=bd st.roots id (.live ro') } aJ ver iv p r'→
   (aJ≠id∧Vx st aJ ver iv p r')∨(aJ=id∧r'=ro'∧Vx st id ver iv p ro∧∀D∈l,p.length≤D):=by
  intro aJ ver iv p r' hvo yG
  by_cases cS:aJ=id
  ·subst cS
   have e:=yG.is cQ
   subst e
   refine .inr ⟨rfl,rfl,?_⟩
   obtain⟨_,h2,h3⟩:=yG
   rw[lz h] at hvo
   have hiv:iv≤ro.log.length:=by omega
   unfold ja at h3
   rw[S7,List.drop_append_of_le_length hiv,List.all_append,Bool.and_eq_true] at h3
   exact⟨⟨h,by omega,h3.1⟩,fun D hD=>iD (List.all_eq_true.1 h3.2 D hD)⟩
  ·refine .inl ⟨cS,?_⟩
   obtain⟨h1,h2,h3⟩:=yG
   simp only[b6 _ _ cS] at h1
   exact⟨h1,h2,h3⟩
 cases c with
 |h aJ ver iv p=>
  refine⟨hv _ _ _ hc.1,fun r' j6=> ?_⟩
  rcases hx _ _ _ _ _ hc.1 j6 with ⟨cS,yG⟩ | ⟨rfl,rfl,yG,hl⟩
  ·simpa [Gh.b7,cS] using hc.2 r' yG
  ·obtain⟨h1,h2⟩:=hc.2 ro yG
   obtain⟨h3,h4⟩:=fX p hl
   obtain⟨s,hs⟩:=Option.isSome_iff_exists.1 h2
   obtain⟨s',eK,_⟩:=h4 s hs
   simp only[Gh.b7,if_true]
   exact⟨by rw[h3,h1],by rw[eK];rfl⟩
 |vw aJ ver lo hi=>
  refine⟨hv _ _ _ hc.1,fun r' j6=> ?_⟩
  rcases hx _ _ _ _ _ hc.1 j6 with ⟨cS,yG⟩ | ⟨rfl,rfl,yG,hl⟩
  ·simpa [Gh.b7,cS] using hc.2 r' yG
  ·obtain⟨h1,h2,h5⟩:=hc.2 ro yG
   obtain⟨h3,h4⟩:=fX [] hl
   obtain⟨s',eK,e1,e2⟩:=h4 _ rfl
   simp only[aQ,Option.some.injEq] at eK
   subst eK
   simp only at e1 e2
   simp only[Gh.b7,if_true]
   exact⟨h1,by rw[e2];exact h2,by rw[h3,ht];exact h5⟩
 |pe aJ ver iv p i off=>
  refine⟨hv _ _ _ hc.1,fun r' j6=> ?_⟩
  rcases hx _ _ _ _ _ hc.1 j6 with ⟨cS,yG⟩ | ⟨rfl,rfl,yG,hl⟩
  ·simpa [Gh.b7,cS] using hc.2 r' yG
  ·obtain⟨s,b,oo,n,cap,h1,h2,h5,h6⟩:=hc.2 ro yG
   obtain⟨h3,h4⟩:=fX p hl
   obtain⟨s',eK,e1,e2⟩:=h4 s h1
   simp only[Gh.b7,if_true]
   exact⟨s',b,oo,n,cap,eK,by rw[e2];exact h2,by rw[h3];exact h5,by rw[e1];exact h6⟩
 |_=>exact hc
theorem Inv.kA(I:Inv w0 Mf g st a w){id:Nat}{ro ro':cC}(h:au st.roots id=some (.live ro)∨au st.roots id=some (.dq ro)){w':World}{X:Nat→Prop}(hs:bD X w w')(hk:Kept w0 w' Mf)
 (hX:∀k,X k→Xf g st id k) {G:Nat→Prop} (hG:∀k,g.ro k→G k) (hGr:∀aJ k,aS st aJ→aJ≠id→g.rf aJ k→ ¬G k) (S8:∀b,bB st b→ ¬G (g.bx b)) (IQ:∀k,G k→k<w'.heap.size) (hGm:∀k,G k→g.n.r0 k∨w0.heap.size≤k∨Mf k)
 (ht:ro'.t=ro.t) (gE:ro'.ver=ro.ver) {l:List Nat} (S7:ro'.log=ro.log++l) {av:Path→Value} {F:Nat→Prop}
 (fX:∀q,(∀ D∈l,q.length≤D)→av q=g.rv id q∧∀s,aQ ro.t ro.xs q=some s→∃s',aQ ro'.t ro'.xs q=some s'∧s'.t=s.t∧s'.xs.length=s.xs.length)
    (hr:aV w' (({ g with ro:=G }:Gh).b7 id av F) id ro')
 (hF:∀k,F k→(∀ aJ,aS st aJ→aJ≠id→ ¬g.rf aJ k)∧ ¬G k∧(∀ b,bB st b→g.bx b≠k)∧(w0.heap.size≤k∨Mf k)∧k<w'.heap.size):
    Inv w0 Mf (({ g with ro:=G }:Gh).b7 id av F) { st with roots:=bd st.roots id (.live ro') } a w':=by
 have dj:∀k,g.ro k→ ¬X k:=fun k h1 h2=>(hX k h2).ro h1
 have hm:∀c u,bg w g st c u→bg w' (({ g with ro:=G }:Gh).b7 id av F) { st with roots:=bd st.roots id (.live ro') } c u:=fun c u hc=>
  ⟨hc.1,mO.kA (g:={ g with ro:=G }) h ht gE S7 fX ((hc.2.world hs dj).ro hG)⟩
 have ho:∀aJ,aS { st with roots:=bd st.roots id (.live ro') } aJ→aJ≠id→aS st aJ:=fun aJ ⟨r',h1,h2⟩ cS=>
  ⟨r',by simpa [aH,cS] using h1,h2⟩
 exact {
  ay:=fun s sv h=>let ⟨u,hu,hr⟩:=I.ay s sv h;⟨u,hu,hr.map hm⟩
  boxes:=fun b x h=>let ⟨us,el,h1,h2⟩:=I.boxes b x h;⟨us,el,hs.get h1 (fun hx=>(hX _ hx).b b (by simp[bB,h]) rfl),h2.map hm⟩
  roots:=fun aJ r' h=>by
   simp only[aH] at h
   by_cases cS:aJ=id
   ·subst cS;simp only[if_true,Option.some.injEq,Rt.live.injEq] at h;subst h;exact hr
   ·simp only[cS,if_false] at h
    have:=I.roots aJ r' h
    have lP:r'.md.cr=false→∀k,g.rf aJ k→ ¬X k:=fun hm k h1 h2=>(hX k h2).r aJ ⟨r',h,hm⟩ cS h1
    unfold aV at this ⊢
    simp only[Gh.b7,cS,if_false]
    split at this
    ·rename_i cK;exact this.same hs (lP (by rw[cK];rfl))
    ·rename_i cK
     have:=this.same hs (lP (by rw[cK];rfl)) dj
     exact⟨this.1,fun p s hp hs=>(this.2 p s hp hs).mono hG⟩
    ·exact (this.same hs dj).mono hG
    ·rename_i cK;exact this.same hs (lP (by rw[cK];rfl))
  apart:={
   rr:=fun i i' k h1 h2 h3 h4=>by
    by_cases hi:i=id<;>by_cases nz:i'=id
    ·rw[hi,nz]
    ·simp only[Gh.b7,hi,nz,if_true,if_false] at h3 h4
     exact ((hF k h3).1 i' (ho _ h2 nz) nz h4).elim
    ·simp only[Gh.b7,hi,nz,if_true,if_false] at h3 h4
     exact ((hF k h4).1 i (ho _ h1 hi) hi h3).elim
    ·simp only[Gh.b7,hi,nz,if_false] at h3 h4
     exact I.apart.rr i i' k (ho _ h1 hi) (ho _ h2 nz) h3 h4
   rb:=fun i b h1 h2 h3=>by
    by_cases hi:i=id
    ·simp only[Gh.b7,hi,if_true] at h3
     exact (hF _ h3).2.2.1 b h2 rfl
    ·simp only[Gh.b7,hi,if_false] at h3
     exact I.apart.rb i b (ho _ h1 hi) h2 h3
   bb:=I.apart.bb
   eu:=fun i k h1 h3=>by
    by_cases hi:i=id
    ·simp only[Gh.b7,hi,if_true] at h3;exact (hF _ h3).2.1
    ·simp only[Gh.b7,hi,if_false] at h3;exact hGr i k (ho _ h1 hi) hi h3
   gD:=S8
   cp:=fun i k h1 h3=>by
    by_cases hi:i=id
    ·simp only[Gh.b7,hi,if_true] at h3;exact (hF _ h3).2.2.2.1
    ·simp only[Gh.b7,hi,if_false] at h3;exact I.apart.cp i k (ho _ h1 hi) h3
   dL:=I.apart.dL
   ew:=fun i k h1 h3=>by
    by_cases hi:i=id
    ·simp only[Gh.b7,hi,if_true] at h3;exact (hF _ h3).2.2.2.2
    ·simp only[Gh.b7,hi,if_false] at h3;exact Nat.lt_of_lt_of_le (I.apart.ew i k (ho _ h1 hi) h3) hs.1
   db:=IQ
   bY:=hGm }
  kept:=hk
  defers:=I.defers
  size:=I.size
  base:=⟨I.base.wl,I.base.ap,fun k h=>hG k (I.base.ro k h)⟩ }
theorem Inv.ahA(I:Inv w0 Mf g st a w){id:Nat}{ro:cC}(h:au st.roots id=some (.live ro)):Inv w0 Mf g { st with roots:=bd st.roots id (.dq ro) } a w:=by
 have hv:∀aJ ver iv,cL st aJ ver iv→cL { st with roots:=bd st.roots id (.dq ro) } aJ ver iv:=by
  intro aJ ver iv hv
  by_cases cS:aJ=id
  ·subst cS
   rw[lz (.inr (bo _ _ _))]
   exact (lz (.inl h)).1 hv
  ·unfold cL at hv ⊢
   simp only[b6 _ _ cS];exact hv
 have hx:∀aJ ver iv p r',Vx { st with roots:=bd st.roots id (.dq ro) } aJ ver iv p r'→Vx st aJ ver iv p r':=by
  intro aJ ver iv p r' ⟨h1,h2,h3⟩
  simp only[aH] at h1
  by_cases cS:aJ=id
  ·subst cS
   simp only[if_true,Option.some.injEq,reduceCtorEq,Rt.dq.injEq,false_or] at h1
   subst h1;exact⟨.inl h,h2,h3⟩
  ·simp only[cS,if_false] at h1;exact⟨h1,h2,h3⟩
 have hm:∀c u,bg w g st c u→bg w g { st with roots:=bd st.roots id (.dq ro) } c u:=fun c u hc=>
  ⟨hc.1,mO.roots (st:=st) (fun b hb=>hb) hv (fun _ _ _ _ _ _ h=>hx _ _ _ _ _ h) hc.2⟩
 have ho:∀aJ,aS { st with roots:=bd st.roots id (.dq ro) } aJ→aS st aJ:=fun aJ ⟨r',h1,h2⟩=>by
  simp only[aH] at h1
  by_cases cS:aJ=id
  ·simp[cS] at h1
  ·exact⟨r',by simpa [cS] using h1,h2⟩
 exact {
  ay:=fun s sv hs=>let ⟨u,hu,hr⟩:=I.ay s sv hs;⟨u,hu,hr.map hm⟩
  boxes:=fun b x hb=>let ⟨us,el,h1,h2⟩:=I.boxes b x hb;⟨us,el,h1,h2.map hm⟩
  roots:=fun aJ r' hr=>I.roots aJ r' (by
   simp only[aH] at hr
   by_cases cS:aJ=id
   ·simp[cS] at hr
   ·simpa [cS] using hr)
  apart:={
   rr:=fun i i' k h1 h2=>I.apart.rr i i' k (ho _ h1) (ho _ h2)
   rb:=fun i b h1 h2=>I.apart.rb i b (ho _ h1) h2
   bb:=I.apart.bb
   eu:=fun i k h1=>I.apart.eu i k (ho _ h1)
   gD:=I.apart.gD
   cp:=fun i k h1=>I.apart.cp i k (ho _ h1)
   dL:=I.apart.dL
   ew:=fun i k h1=>I.apart.ew i k (ho _ h1)
   db:=I.apart.db
   bY:=I.apart.bY }
  kept:=I.kept
  defers:=I.defers
  size:=I.size
  base:=⟨I.base.wl,I.base.ap,I.base.ro⟩ }
end Go.Gm
namespace Go.Gm
open Go
variable {w : World}
theorem tK:∀{p:Path}{t:Ty}{xs zs:List (El t)}{s s':Sl},aQ t xs p=some s→dz t xs p s'=some zs→s'.t=s.t
  | [],t,xs,zs,s,s',h,hz=>by
    simp only[dz] at hz
    have:=c8 hz
    simp only[enc,List.cons.injEq,and_true] at this
    simp only[aQ,Option.some.injEq] at h
    cases s' with | mk t' xs'=>cases this;subst h;rfl
  | (i,j)::p,t,xs,zs,s,s',h,hz=>by
    simp only[aQ] at h
    split at h
    case h_2=>cases h
    rename_i x hx
    split at h
    case h_2=>cases h
    rename_i t1 ys hc
    simp only[dz,bm hx,hc,Option.bind_eq_some_iff,Option.some.injEq] at hz
    obtain⟨z1,Ep,y,hy,rfl⟩:=hz
    exact tK h Ep
theorem pq:∀{p:Path}{t:Ty}{xs zs:List (El t)}{s s':Sl},aQ t xs p=some s→dz t xs p s'=some zs→s'.xs.length=s.xs.length→
    ∀q sq,(p <+: q→q=p)→aQ t xs q=some sq→∃YE,aQ t zs q=some YE∧YE.t=sq.t∧YE.xs.length=sq.xs.length
  | [],t,xs,zs,s,s',h,hz,hl,q,sq,hq,kP=>by
    have e:=hq (List.nil_prefix)
    subst e
    have ht:=tK h hz
    simp only[dz] at hz
    have:=c8 hz
    simp only[enc,List.cons.injEq,and_true] at this
    simp only[aQ,Option.some.injEq] at h kP
    subst h;subst kP
    cases s' with | mk t' xs'=>cases this;exact⟨_,rfl,rfl,hl⟩
  | (i,j)::p,t,xs,zs,s,s',h,hz,hl,q,sq,hq,kP=>by
    simp only[aQ] at h
    split at h
    case h_2=>cases h
    rename_i x hx
    split at h
    case h_2=>cases h
    rename_i t1 ys hc
    simp only[dz,bm hx,hc,Option.bind_eq_some_iff,Option.some.injEq] at hz
    obtain⟨z1,Ep,y,hy,rfl⟩:=hz
    have IE:=c8 hy
    have bU:=mY hx
    have hj:j<(enc t x).length:=by rw[bl];exact jI hc
    cases q with
    |nil=>
      simp only[aQ,Option.some.injEq] at kP
      subst kP
      exact⟨⟨t,xs.set i y⟩,rfl,rfl,by simp⟩
    |cons ij q=>
      obtain⟨i',j'⟩:=ij
      simp only[aQ] at kP ⊢
      by_cases qW:i=i'
      · subst qW
        simp only[List.getElem?_set_self bU,←IE]
        rw[hx] at kP
        simp only at kP
        by_cases KE:j=j'
        · subst KE
          simp only[hc,List.getElem?_set_self hj] at kP ⊢
          exact pq h Ep hl q sq (fun hp=>by simpa using hq (by simpa using hp)) kP
        · rw[List.getElem?_set_ne KE]
          exact⟨sq,kP,rfl,rfl⟩
      · simp only[List.getElem?_set_ne qW]
        exact⟨sq,kP,rfl,rfl⟩
def kB(t:Ty)(xs:List (El t))(av:Path→Value)(p:Path)(k:Nat):Prop:=∃q s,¬p <+: q∧aQ t xs q=some s∧qR (av q)=some k
theorem a8.Ld{F:Nat→Prop}{t:Ty}{xs zs:List (El t)}{av:Path→Value}(h:a8 w F t xs av){p:Path}{s s':Sl}(hs:aQ t xs p=some s)(hz:dz t xs p s'=some zs)
    {w':World} {X:Nat→Prop} (ca:bD X w w') (hX:∀k,X k→ ¬kB t xs av p k) {B:Nat→Prop} {Ed:Path→Value} (jA:a8 w' B s'.t s'.xs Ed) (h0:Ed []=av p) (hB:∀k,B k→ ¬kB t xs av p k):
    ∃pW:Path→Value,(∀ q,(p <+: q→q=p)→pW q=av q)∧(∀ q,pW (p++q)=Ed q)∧a8 w' (fun k=>B k∨kB t xs av p k) t zs pW:=by
 let pW:Path→Value:=fun q=>if p <+: q then Ed (q.drop p.length) else av q
 have hu:∀q,pW (p++q)=Ed q:=fun q=>by simp[pW]
 have ho:∀q,¬p <+: q→pW q=av q:=fun q hq=>by simp[pW,hq]
 have hk:∀q,(p <+: q→q=p)→pW q=av q:=fun q hq=>by
  by_cases hp:p <+: q
  ·have:=hq hp;subst this
   have:=hu [];rw[List.append_nil] at this;rw[this,h0]
  ·exact ho q hp
 refine⟨pW,hk,hu,?_,?_⟩
 ·intro q Ea uj
  rcases lu hs hz q Ea uj with ⟨q',rfl,IS⟩ | ⟨hn,s2,IS,uk⟩
  ·rw[hu]
   have:=(jA.1 q' Ea IS).mono (Q:=fun k=>B k∨kB t xs av p k) fun k=> .inl
   refine this.fH fun i y j t' ys _ _=> ?_
   rw[List.append_assoc,hu]
  ·rw[ho q hn]
   have h1:=(h.1 q s2 IS).toF (G:=fun k=>B k∨kB t xs av p k) fun k hk=> .inr ⟨q,s2,hn,IS,hk⟩
   have h2:=h1.here ca fun k hk hx=>hX k hx ⟨q,s2,hn,IS,hk⟩
   refine (uk.own h2).fH fun i y j t' ys _ _=> ?_
   refine hk _ fun hp=> ?_
   rw[List.prefix_concat_iff] at hp
   exact hp.elim (fun h=>h.symm) (fun h=>(hn h).elim)
 ·intro q1 q2 s1 s2 b h1 h2 h3 h4
  rcases lu hs hz q1 s1 h1 with ⟨q1',rfl,po⟩ | ⟨Ec,s1',po,_⟩<;>rcases lu hs hz q2 s2 h2 with ⟨q2',rfl,uj⟩ | ⟨GV,Ea,uj,_⟩
  ·rw[hu] at h3 h4
   rw[jA.2 _ _ _ _ b po uj h3 h4]
  ·rw[hu] at h3;rw[ho _ GV] at h4
   exact (hB b ((jA.1 _ _ po).oa h3) ⟨_,_,GV,uj,h4⟩).elim
  ·rw[hu] at h4;rw[ho _ Ec] at h3
   exact (hB b ((jA.1 _ _ uj).oa h4) ⟨_,_,Ec,po,h3⟩).elim
  ·rw[ho _ Ec] at h3;rw[ho _ GV] at h4
   exact h.2 _ _ _ _ b po uj h3 h4
theorem a8.eD{F:Nat→Prop}{t:Ty}{xs:List (El t)}{av:Path→Value}(h:a8 w F t xs av){p:Path}{k:Nat}(hu:dR t xs av p k): ¬kB t xs av p k:=by
 rintro⟨q,s,hn,hs,hb⟩
 obtain⟨q',s',eK,fI⟩:=hu
 have:=h.2 _ _ _ _ k hs eK hb fI
 subst this
 exact hn (List.prefix_append _ _)
theorem a8.kf{F:Nat→Prop}{t:Ty}{xs:List (El t)}{av:Path→Value}(h:a8 w F t xs av){p:Path}{k:Nat}(hu:kB t xs av p k):F k:=by
 obtain⟨q,s,hn,hs,hb⟩:=hu
 exact (h.1 q s hs).oa hb
theorem a8.jj{F:Nat→Prop}{t:Ty}{xs:List (El t)}{av:Path→Value}(h:a8 w F t xs av){p:Path}{k:Nat}(hu:dR t xs av p k):F k:=by
 obtain⟨q,s,hs,hb⟩:=hu
 exact (h.1 _ s hs).oa hb
theorem sU{t:Ty}{xs:List (El t)}{i:Nat}{x y:El t}(hx:xs[i]? =some x)(hy:∀(j:Nat) t' (ys:List (El t')),(enc t y)[j]? =some (.l t' ys)↔(enc t x)[j]? =some (.l t' ys)):
    ∀q,q≠[]→aQ t (xs.set i y) q=aQ t xs q:=by
 intro q hq
 cases q with
 |nil=>exact (hq rfl).elim
 |cons ij q=>
  obtain⟨i',j⟩:=ij
  have bU:=mY hx
  simp only[aQ]
  by_cases qW:i=i'
  ·subst qW
   simp only[List.getElem?_set_self bU,hx]
   cases hc:(enc t x)[j]? with
   |none=>
    cases tD:(enc t y)[j]? with
    |none=>rfl
    |some c=>
     cases c with
     |v z=>rfl
     |l t' ys=>rw[(hy j t' ys).1 tD] at hc;cases hc
   |some c=>
    cases c with
    |v z=>
     cases tD:(enc t y)[j]? with
     |none=>rfl
     |some c'=>
      cases c' with
      |v z'=>rfl
      |l t' ys=>rw[(hy j t' ys).1 tD] at hc;cases hc
    |l t' ys=>rw[(hy j t' ys).2 hc]
  ·simp only[List.getElem?_set_ne qW]
end Go.Gm
namespace Go.Gm
open Go
variable {R : Type} {P : Program} {E : Env} {w0 w : World} {Mf : Nat → Prop} {g : Gh} {st : St} {a : Act} {Q : Exit → Act → World → Prop}
  {o:Oper} {k:Dl→Option R} {r:R} {K:Act→World→Prop}
theorem k8{us vs:Array Value}{at_:Nat}(h:at_+vs.size≤us.size):(us.toList.take at_++vs.toList++us.toList.drop (at_+vs.toList.length)).toArray=putAt us at_ vs:=by
 apply Array.ext
 ·rw[cG h];simp;omega
 ·intro n h1 h2
  apply Option.some.inj
  rw[← Array.getElem?_eq_getElem,←Array.getElem?_eq_getElem,e7 h]
  simp only[List.getElem?_toArray]
  by_cases Ec:n<at_
  ·rw[if_neg (by omega),List.append_assoc,List.getElem?_append_left (by simp;omega),List.getElem?_take,if_pos Ec];simp
  ·by_cases GV:n<at_+vs.size
   ·rw[if_pos (by omega),List.getElem?_append_left (by simp;omega),List.getElem?_append_right (by simp;omega)]
    have:min at_ us.size=at_:=by omega
    simp[this]
   ·rw[if_neg (by omega),List.getElem?_append_right (by simp;omega)]
    have:min at_ us.size=at_:=by omega
    simp only[List.length_append,List.length_take,Array.length_toList,this,List.getElem?_drop]
    rw[show at_+vs.size+(n-(at_+vs.size))=n by omega]
    simp
theorem kQ{α:Type}{l ys:List α}{off:Nat}(h:off+ys.length≤l.length)(n:Nat):(et l off ys)[n]? =if off≤n∧n<off+ys.length then ys[n-off]? else l[n]? :=by
 simp only[et]
 by_cases Ec:n<off
 ·rw[if_neg (by omega),List.append_assoc,List.getElem?_append_left (by simp;omega),List.getElem?_take,if_pos Ec]
 ·by_cases GV:n<off+ys.length
  ·rw[if_pos (by omega),List.getElem?_append_left (by simp;omega),List.getElem?_append_right (by simp;omega)]
   have:min off l.length=off:=by omega
   simp[this]
  ·rw[if_neg (by omega),List.getElem?_append_right (by simp;omega)]
   have:min off l.length=off:=by omega
   simp only[List.length_append,List.length_take,this,List.getElem?_drop]
   rw[show off+ys.length+(n-(off+ys.length))=n by omega]
theorem dN.ac1{ro gr:Nat→Prop}{dd d:Bool}{e:Ty}{xs:List (El e)}{us:Array Value}{oo:Nat}{G:Nat→Nat→Nat→Prop}{Gs:List (Nat→Prop)}(hp:dN w ro dd e xs us oo G)
    {i:Nat} {x y:El e} (hx:xs[i]? =some x) {cv:List Cv} {vs:Array Value} {off:Nat} (hA:ny w gr cv vs.toList Gs d) (hy:enc e y=et (enc e x) off cv) (hle:off+cv.length≤ar e) (dj:∀k,gr k→ro k)
 (vH:bS Gs) (yE:∀i j k,G i j k→Any Gs k→False) (dy:oo+xs.length*ar e≤us.size):
    ∃G',dN w (fun k=>ro k∨Any Gs k) (dd&&d) e (xs.set i y) (putAt us (oo+i*ar e+off) vs) oo G'∧∀i j k,G' i j k→Any Gs k∨G i j k:=by
 have hi:=mY hx
 have hlen:vs.size=cv.length:=by have:=hA.len.1;simpa using this
 have hmul:i*ar e+ar e≤xs.length*ar e:=by
  have:(i+1)*ar e≤xs.length*ar e:=Nat.mul_le_mul_right _ hi
  rw[Nat.add_mul] at this;omega
 have kO:=fun m=>e7 (cells:=us) (off:=oo+i*ar e+off) (vs:=vs) (by omega) m
 have e8:=hA.rd
 let In:Nat→Nat→Prop:=fun i' j=>i'=i∧off≤j∧j<off+cv.length
 let G':Nat→Nat→Nat→Prop:=fun i' j k=>(In i' j∧∃F,Gs[j-off]? =some F∧F k)∨(¬ In i' j∧G i' j k)
 have qT:∀i j k,G' i j k→Any Gs k∨G i j k:=by
  rintro i' j k (⟨_,F,h1,h2⟩ | ⟨_,h⟩)
  ·exact .inl ⟨F,List.mem_of_getElem? h1,h2⟩
  ·exact .inr h
 -- a cell that stays
 have stays:∀i' x' j c,xs[i']? =some x'→(enc e x')[j]? =some c→ ¬In i' j→∃u,(putAt us (oo+i*ar e+off) vs)[oo+i'*ar e+j]? =some u∧pL w (fun k=>G' i' j k∨ro k∨Any Gs k) c u∧((dd&&d)=true→gX w (G' i' j) c u):=by
  intro i' x' j c oi hc hn
  have hj:=jI hc
  obtain⟨z,hz,hr,ho⟩:=hp.rows i' x' j c oi hc
  refine⟨z,?_,hr.mono fun k hk=> ?_,fun hd=> ?_⟩
  ·rw[kO,if_neg ?_]
   ·exact hz
   ·intro ⟨h1,h2⟩
    rw[hlen] at h2
    rcases Nat.lt_trichotomy i' i with bU | heq | bU
    ·have:(i'+1)*ar e≤i*ar e:=Nat.mul_le_mul_right _ bU
     rw[Nat.add_mul] at this;omega
    ·subst heq;exact hn ⟨rfl,by omega,by omega⟩
    ·have:(i+1)*ar e≤i'*ar e:=Nat.mul_le_mul_right _ bU
     rw[Nat.add_mul] at this;omega
  ·rcases hk with hk | hk
   ·exact .inl (.inr ⟨hn,hk⟩)
   ·exact .inr (.inl hk)
  ·simp only[Bool.and_eq_true] at hd
   exact (ho hd.1).mono fun k hk=> .inr ⟨hn,hk⟩
 refine⟨G',⟨fun i' x' j c oi hc=> ?_,?_⟩,qT⟩
 ·by_cases qW:i'=i
  ·subst qW
   rw[List.getElem?_set_self hi] at oi
   cases oi
   rw[hy,kQ (by rw[bl];exact hle)] at hc
   by_cases k7:off≤j∧j<off+cv.length
   ·rw[if_pos k7] at hc
    obtain⟨z,hz,hr⟩:=e8.get (j-off) c hc
    refine⟨z,?_,hr.mono fun k hk=> ?_,fun hd=> ?_⟩
    ·rw[kO,if_pos (by omega),show oo+i'*ar e+j-(oo+i'*ar e+off)=j-off by omega]
     simpa using hz
    ·rcases hk with hk | hk
     ·exact .inr (.inr hk)
     ·exact .inr (.inl (dj k hk))
    ·simp only[Bool.and_eq_true] at hd
     obtain⟨z',F,h1,h2,h3⟩:=hA.own hd.2 (j-off) c hc
     rw[hz] at h1;cases h1
     exact h3.mono fun k hk=> .inl ⟨⟨rfl,k7.1,k7.2⟩,F,h2,hk⟩
   ·rw[if_neg k7] at hc
    exact stays i' x j c hx hc fun h=>k7 h.2
  ·rw[List.getElem?_set_ne (Ne.symm qW)] at oi
   exact stays i' x' j c oi hc fun h=>qW h.1
 ·rintro i1 j1 i2 j2 k (⟨⟨rfl,ha,hb⟩,F,h1,h2⟩ | ⟨hn,h⟩) (⟨⟨rfl,ha',fI⟩,F',uU,KF⟩ | ⟨KR,h'⟩)
  ·refine⟨rfl,?_⟩
   have yF:=List.pairwise_iff_getElem.1 vH
   obtain⟨hj,rfl⟩:=List.getElem?_eq_some_iff.1 h1
   obtain⟨Es,rfl⟩:=List.getElem?_eq_some_iff.1 uU
   rcases Nat.lt_trichotomy (j1-off) (j2-off) with bU | heq | bU
   ·exact (yF _ _ hj Es bU k h2 KF).elim
   ·omega
   ·exact (yF _ _ Es hj bU k KF h2).elim
  ·exact (yE _ _ k h' ⟨F,List.mem_of_getElem? h1,h2⟩).elim
  ·exact (yE _ _ k h ⟨F',List.mem_of_getElem? uU,KF⟩).elim
  ·exact hp.W8 _ _ _ _ k h h'
theorem GW:∀{p:Path}{t:Ty}{xs zs:List (El t)}{s s':Sl},aQ t xs p=some s→dz t xs p s'=some zs→aQ t zs p=some s'
  | [],t,xs,zs,s,s',h,hz=>by
    simp only[dz] at hz
    have:=c8 hz
    simp only[enc,List.cons.injEq,and_true] at this
    cases s' with | mk t' xs'=>cases this;rfl
  | (i,j)::p,t,xs,zs,s,s',h,hz=>by
    simp only[aQ] at h
    split at h
    case h_2=>cases h
    rename_i x hx
    split at h
    case h_2=>cases h
    rename_i t1 ys hc
    simp only[dz,bm hx,hc,Option.bind_eq_some_iff,Option.some.injEq] at hz
    obtain⟨z1,Ep,y,hy,rfl⟩:=hz
    have IE:=c8 hy
    have bU:=mY hx
    have hj:j<(enc t x).length:=by rw[bl];exact jI hc
    simp only[aQ,List.getElem?_set_self bU,←IE,List.getElem?_set_self hj]
    exact GW h Ep
theorem aV.node{id:Nat}{ro:cC}(h:aV w g id ro){p:Path}{s:Sl}(hs:aQ ro.t ro.xs p=some s)(hm:ro.md.bM=true∨(ro.md.ll=true∧p=[])):
    bA w (g.rf id) s.t s.xs (g.rv id p) fun i j=>g.rv id (p++[(i,j)]):=by
 unfold aV at h
 split at h
 ·exact h.1 p s hs
 ·rename_i cK
  rcases hm with hm | ⟨_,rfl⟩
  ·simp[cK,Md.bM] at hm
  ·simp only[aQ,Option.some.injEq] at hs;subst hs;exact h.1
 ·rename_i cK;simp[cK,Md.bM,Md.ll] at hm
 ·rename_i cK;simp[cK,Md.bM,Md.ll] at hm
theorem Cx{t:Ty}{xs:List (El t)}{us:Array Value}{oo:Nat}{fH:Nat→Nat→Value}(h:RowsIn t xs us oo fH){i:Nat}{x y:El t}(hx:xs[i]? =some x){cv:List Cv}{vs:Array Value}{off:Nat}
 (hc:∀(j:Nat) c,cv[j]? =some c→∃z,vs[j]? =some z∧c = .v z) (hv:vs.size=cv.length) (hy:enc t y=et (enc t x) off cv) (hle:off+cv.length≤ar t) (dy:oo+xs.length*ar t≤us.size):
    RowsIn t (xs.set i y) (putAt us (oo+i*ar t+off) vs) oo fH:=by
 have hi:=mY hx
 have hmul:i*ar t+ar t≤xs.length*ar t:=by
  have:(i+1)*ar t≤xs.length*ar t:=Nat.mul_le_mul_right _ hi
  rw[Nat.add_mul] at this;omega
 have kO:=fun m=>e7 (cells:=us) (off:=oo+i*ar t+off) (vs:=vs) (by omega) m
 have stays:∀i' x' j c,xs[i']? =some x'→(enc t x')[j]? =some c→ ¬(i'=i∧off≤j∧j<off+cv.length)→∃u,(putAt us (oo+i*ar t+off) vs)[oo+i'*ar t+j]? =some u∧eI c u (fH i' j):=by
  intro i' x' j c oi mP hn
  have hj:=jI mP
  obtain⟨z,hz,hr⟩:=h i' x' j c oi mP
  refine⟨z,?_,hr⟩
  rw[kO,if_neg ?_]
  ·exact hz
  ·intro ⟨h1,h2⟩
   rw[hv] at h2
   rcases Nat.lt_trichotomy i' i with bU | heq | bU
   ·have:(i'+1)*ar t≤i*ar t:=Nat.mul_le_mul_right _ bU
    rw[Nat.add_mul] at this;omega
   ·subst heq;exact hn ⟨rfl,by omega,by omega⟩
   ·have:(i+1)*ar t≤i'*ar t:=Nat.mul_le_mul_right _ bU
    rw[Nat.add_mul] at this;omega
 intro i' x' j c oi mP
 by_cases qW:i'=i
 ·subst qW
  rw[List.getElem?_set_self hi] at oi
  cases oi
  rw[hy,kQ (by rw[bl];exact hle)] at mP
  by_cases k7:off≤j∧j<off+cv.length
  ·rw[if_pos k7] at mP
   obtain⟨z,hz,rfl⟩:=hc (j-off) c mP
   refine⟨z,?_,rfl⟩
   rw[kO,if_pos (by omega),show oo+i'*ar t+j-(oo+i'*ar t+off)=j-off by omega]
   exact hz
  ·rw[if_neg k7] at mP
   exact stays i' x j c hx mP fun h=>k7 h.2
 ·rw[List.getElem?_set_ne (Ne.symm qW)] at oi
  exact stays i' x' j c oi mP fun h=>qW h.1
theorem Le{t:Ty}{x y:El t}{cv:List Cv}{off:Nat}(hc:∀(j:Nat) c,cv[j]? =some c→∃z,c = .v z)(hk:∀(j:Nat) c,off≤j→j<off+cv.length→(enc t x)[j]? =some c→∃z,c = .v z)
 (hy:enc t y=et (enc t x) off cv) (hle:off+cv.length≤ar t):∀(j:Nat) t' (ys:List (El t')),(enc t y)[j]? =some (.l t' ys)↔(enc t x)[j]? =some (.l t' ys):=by
 intro j t' ys
 rw[hy,kQ (by rw[bl];exact hle)]
 by_cases k7:off≤j∧j<off+cv.length
 ·rw[if_pos k7]
  constructor
  ·intro h;obtain⟨z,hz⟩:=hc _ _ h;cases hz
  ·intro h;obtain⟨z,hz⟩:=hk _ _ k7.1 k7.2 h;cases hz
 ·rw[if_neg k7]
theorem a8.ahB{F:Nat→Prop}{t:Ty}{xs:List (El t)}{av:Path→Value}(h:a8 w F t xs av){i:Nat}{x y:El t}(hx:xs[i]? =some x)(hy:∀(j:Nat) t' (ys:List (El t')),(enc t y)[j]? =some (.l t' ys)↔(enc t x)[j]? =some (.l t' ys))
    {w':World} {b oo cap el:Nat} {us':Array Value} (ca:bD (fun k=>k=b) w w') (fX:av [] = .slice (some ⟨b,oo,none⟩) xs.length cap) (hb:w'.heap[b]? =some (.cells us' el (0,0))) (dr:xs.length≤cap)
 (dy:oo+cap*ar t≤us'.size) (hr:RowsIn t (xs.set i y) us' oo fun i j=>av [(i,j)]):a8 w' F t (xs.set i y) av:=by
 have eC:=sU hx hy
 have hbF:F b:=(h.1 [] _ rfl).oa (by rw[fX];rfl)
 refine⟨fun p s hs=> ?_,fun p q s s' k h1 h2 h3 h4=> ?_⟩
 ·by_cases hp:p=[]
  ·subst hp
   simp only[aQ,Option.some.injEq] at hs
   subst hs
   exact .inr ⟨b,oo,cap,us',el,by simpa using fX,hbF,hb,by simpa using dr,dy,hr⟩
  ·rw[eC p hp] at hs
   refine (h.1 p s hs).here ca fun k hk e=> ?_
   subst e
   exact hp (h.2 p [] s ⟨t,xs⟩ k hs rfl hk (by rw[fX];rfl))
 ·have fix:∀p s,aQ t (xs.set i y) p=some s→∃s0,aQ t xs p=some s0:=fun p s hs=>by
   by_cases hp:p=[]
   ·subst hp;exact⟨_,rfl⟩
   ·rw[eC p hp] at hs;exact⟨s,hs⟩
  obtain⟨s1,po⟩:=fix p s h1
  obtain⟨s2,uj⟩:=fix q s' h2
  exact h.2 _ _ _ _ k po uj h3 h4
theorem Inv.alone(I:Inv w0 Mf g st a w){id:Nat}(h:aS st id){k:Nat}(hk:g.rf id k):Xf g st id k:=
 ⟨fun aJ h1 h2 h3=>h2 (I.apart.rr aJ id k h1 h h3 hk),I.apart.eu id k h hk,fun b hb e=>I.apart.rb id b h hb (e▸hk)⟩
theorem vJ{t:Ty}{xs zs ys:List (El t)}(h:dz t xs [] ⟨t,ys⟩=some zs):zs=ys:=by
 simp only[dz] at h
 have:=c8 h
 simp only[enc,List.cons.injEq,and_true,Cv.l.injEq,heq_eq_eq,true_and] at this
 exact this.symm
theorem Inv.IT(I:Inv w0 Mf g st a w){id:Nat}{ro:cC}(ec:au st.roots id=some (.live ro)){p:Path}{s:Sl}(hs:aQ ro.t ro.xs p=some s)(hm:ro.md.bM=true∨(ro.md.ll=true∧p=[]))
    {i:Nat} {x y:El s.t} (hx:s.xs[i]? =some x) {cv:List Cv} {vs:Array Value} {off:Nat} (qS:∀(j:Nat) c,cv[j]? =some c→∃z,vs[j]? =some z∧c = .v z) (hv:vs.size=cv.length)
 (hk:∀(j:Nat) c,off≤j→j<off+cv.length→(enc s.t x)[j]? =some c→∃z,c = .v z) (hy:enc s.t y=et (enc s.t x) off cv) (hle:off+cv.length≤ar s.t)
    {zs:List (El ro.t)} (hz:dz ro.t ro.xs p ⟨s.t,s.xs.set i y⟩=some zs) {b oo n cap:Nat} (fX:g.rv id p = .slice (some ⟨b,oo,none⟩) n cap):
    ∃us el,w.heap[b]? =some (.cells us el (0,0))∧oo+i*ar s.t+ar s.t≤us.size∧∃g':Gh,g'.n=g.n∧
      Inv w0 Mf g' { st with roots:=bd st.roots id (.live ⟨ro.t,ro.md,ro.ver,ro.log,zs⟩) } a (w.setRow b (putAt us (oo+i*ar s.t+off) vs)):=by
  have hi:=mY hx
  have yv:ro.md.cr=false:=by
    rcases hm with hm | hm
    · cases h:ro.md<;>simp_all [Md.bM,Md.cr]
    · cases h:ro.md<;>simp_all [Md.ll,Md.cr]
  have cQ:aS st id:=⟨ro,ec,yv⟩
  have hr:=I.roots id ro ec
  have fK:=hr.node hs hm
  rcases fK with ⟨h0,_⟩ | ⟨b',Yq,iE,us,el,e1,hF,hb,dr,eh,du⟩
  · rw[h0] at hi;simp at hi
  rw[fX] at e1
  simp only[Value.slice.injEq,Option.some.injEq,Addr.mk.injEq,and_true] at e1
  obtain⟨⟨rfl,rfl⟩,rfl,rfl⟩:=e1
  have hmul:i*ar s.t+ar s.t≤s.xs.length*ar s.t:=by
    have:(i+1)*ar s.t≤s.xs.length*ar s.t:=Nat.mul_le_mul_right _ hi
    rw[Nat.add_mul] at this;omega
  have GX:s.xs.length*ar s.t≤cap*ar s.t:=Nat.mul_le_mul_right _ dr
  refine⟨us,el,hb,by omega,?_⟩
  have ca:=dQ w b (putAt us (oo+i*ar s.t+off) vs)
  have fI:=setRow_heap w b us (putAt us (oo+i*ar s.t+off) vs) el (0,0) hb
  have Lf:=Cx du hx qS hv hy hle (by omega)
  have YF:=Le (fun j c h=>let ⟨z,_,e⟩:=qS j c h;⟨z,e⟩) hk hy hle
  have Cu:oo+cap*ar s.t≤(putAt us (oo+i*ar s.t+off) vs).size:=by rw[cG (by omega)];exact eh
  have jD:Kept w0 (w.setRow b (putAt us (oo+i*ar s.t+off) vs)) Mf:=I.kept.step rfl rfl rfl ca (fun k e=>by subst e;exact I.apart.cp id _ cQ hF)
  have nW:aV (w.setRow b (putAt us (oo+i*ar s.t+off) vs)) (({ g with ro:=g.ro }:Gh).b7 id (g.rv id) (g.rf id)) id ⟨ro.t,ro.md,ro.ver,ro.log,zs⟩:=by
    unfold aV at hr ⊢
    simp only[Gh.b7,if_true]
    split at hr
    · rename_i cK
      try simp only[cK]
      have sM:=(hr.at hs).ahB hx YF ca (b:=b) (oo:=oo) (cap:=cap) (el:=el) (us':=putAt us (oo+i*ar s.t+off) vs) (by simpa using fX) fI dr Cu Lf
      have AK:dR ro.t ro.xs (g.rv id) p b:=⟨[],s,by rw[List.append_nil];exact hs,by rw[List.append_nil,fX];rfl⟩
      obtain⟨pW,h1,h2,h3⟩:=hr.Ld hs hz ca (fun k e=>by subst e;exact hr.eD AK) sM (by simp) (fun k hk=>hr.eD hk)
      have:pW=g.rv id:=by
        funext q
        by_cases hp:p <+: q
        · obtain⟨q',rfl⟩:=hp;exact h2 q'
        · exact h1 q fun h=>(hp h).elim
      subst this
      exact h3.mono fun k hk=>hk.elim hr.jj hr.kf
    · rename_i cK
      have hp:p=[]:=by rcases hm with hm | hm;simp[cK,Md.bM] at hm;exact hm.2
      subst hp
      simp only[aQ,Option.some.injEq] at hs
      subst hs
      have:=vJ hz
      subst this
      try simp only[cK]
      refine⟨.inr ⟨b,oo,cap,_,el,by simpa using fX,hF,fI,by simpa using dr,Cu,Lf⟩,fun q s' hq eK=> ?_⟩
      rw[sU hx YF q hq] at eK
      exact (hr.2 q s' hq eK).same ca fun k hk e=>I.apart.eu id k cQ (e▸hF) hk
    · rename_i cK;simp[cK,Md.cr] at yv
    · rename_i cK;simp[cK,Md.bM,Md.ll] at hm
  refine⟨_,by rfl,I.kA (ro':=⟨ro.t,ro.md,ro.ver,ro.log,zs⟩) (.inl ec) ca jD (fun k e=>by subst e;exact I.alone cQ hF) (fun _ h=>h) (fun aJ k h1 _ h3=>I.apart.eu aJ k h1 h3)
    I.apart.gD (fun k h=>Nat.lt_of_lt_of_le (I.apart.db k h) ca.1) I.apart.bY rfl rfl (l:=[]) (by simp) (fun q _=>⟨rfl,fun sq kP=> ?_⟩) nW
    (fun k hk=>⟨(I.alone cQ hk).r,(I.alone cQ hk).ro,(I.alone cQ hk).b,I.apart.cp id k cQ hk,Nat.lt_of_lt_of_le (I.apart.ew id k cQ hk) ca.1⟩)⟩
  by_cases hq:p <+: q→q=p
  · exact pq hs hz (by simp) q sq hq kP
  · have hp:p <+: q:=by
      by_cases h:p <+: q
      · exact h
      · exact (hq fun h'=>(h h').elim).elim
    obtain⟨q',rfl⟩:=hp
    have hq':q'≠[]:=fun e=>hq fun _=>by rw[e,List.append_nil]
    rw[ck q' hs] at kP
    refine⟨sq,?_,rfl,rfl⟩
    simp only
    rw[ck q' (GW hs hz),sU hx YF q' hq']
    exact kP
end Go.Gm
namespace Go.Gm
open Go
variable {R : Type} {P : Program} {E : Env} {w0 w : World} {Mf : Nat → Prop} {g : Gh} {st0 st : St} {a : Act} {Q : Exit → Act → World → Prop}
  {o:Oper} {k:Dl→Option R} {r:R} {K:Act→World→Prop}
theorem Inv.IU(I0:Inv w0 Mf g st0 a w)(I:Inv w0 Mf g st a w){fr:List (Nat×Rt)}{Gs:List (Nat→Prop)}(T:kN w g st0 st fr Gs){id:Nat}{ro:cC}(ec:au st.roots id=some (.live ro))
    {p:Path} {s:Sl} (hs:aQ ro.t ro.xs p=some s) (hm:ro.md = .deep)
    {i:Nat} {x y:El s.t} (hx:s.xs[i]? =some x) {cv:List Cv} {vs:Array Value} {off:Nat} (hA:ny w g.ro cv vs.toList Gs true) (hy:enc s.t y=et (enc s.t x) off cv) (hle:off+cv.length≤ar s.t)
    {zs:List (El ro.t)} (hz:dz ro.t ro.xs p ⟨s.t,s.xs.set i y⟩=some zs) {b oo n cap:Nat} (fX:g.rv id p = .slice (some ⟨b,oo,none⟩) n cap):
    ∃us el,w.heap[b]? =some (.cells us el (0,0))∧oo+i*ar s.t+ar s.t≤us.size∧∃g':Gh,g'.n=g.n∧
      Inv w0 Mf g' { st with roots:=bd st.roots id (.live ⟨ro.t,.deep,ro.ver,ro.log++[p.length],zs⟩) } a (w.setRow b (putAt us (oo+i*ar s.t+off) vs)):=by
 have hi:=mY hx
 have cQ:aS st id:=⟨ro,ec,by rw[hm];rfl⟩
 have hr:=I.roots id ro ec
 have fK:=hr.node hs (.inl (by rw[hm];rfl))
 have hv:vs.size=cv.length:=by have:=hA.len.1;simpa using this
 rcases fK with ⟨h0,_⟩ | ⟨b',Yq,iE,us,el,e1,hF,hb,dr,eh,du⟩
 ·rw[h0] at hi;simp at hi
 rw[fX] at e1
 simp only[Value.slice.injEq,Option.some.injEq,Addr.mk.injEq,and_true] at e1
 obtain⟨⟨rfl,rfl⟩,rfl,rfl⟩:=e1
 have hmul:i*ar s.t+ar s.t≤s.xs.length*ar s.t:=by
  have:(i+1)*ar s.t≤s.xs.length*ar s.t:=Nat.mul_le_mul_right _ hi
  rw[Nat.add_mul] at this;omega
 have GX:s.xs.length*ar s.t≤cap*ar s.t:=Nat.mul_le_mul_right _ dr
 refine⟨us,el,hb,by omega,?_⟩
 have ca:=dQ w b (putAt us (oo+i*ar s.t+off) vs)
 have fI:=setRow_heap w b us (putAt us (oo+i*ar s.t+off) vs) el (0,0) hb
 have Cu:oo+cap*ar s.t≤(putAt us (oo+i*ar s.t+off) vs).size:=by rw[cG (by omega)];exact eh
 have jD:Kept w0 (w.setRow b (putAt us (oo+i*ar s.t+off) vs)) Mf:=I.kept.step rfl rfl rfl ca (fun k e=>by subst e;exact I.apart.cp id _ cQ hF)
 have sM:a8 w (g.rf id) ro.t ro.xs (g.rv id):=by unfold aV at hr;rw[hm] at hr;exact hr
 have eC:=sM.at hs
 have cM:∀k,Any Gs k→fY w0 Mf g st k∧k<w.heap.size:=fun k ⟨F,hF,hk⟩=>T.free I0 hF hk
 have lP:∀k,Any Gs k→ ¬g.rf id k:=fun k ⟨F,hF,hk⟩=>T.off F hF k hk id cQ
 have AK:dR ro.t ro.xs (g.rv id) p b:=⟨[],s,by rw[List.append_nil];exact hs,by rw[List.append_nil,fX];rfl⟩
 have AL:∀i j k,dR s.t s.xs (fun q=>g.rv id (p++q)) [(i,j)] k→dR ro.t ro.xs (g.rv id) p k∧k≠b:=by
  rintro i j k ⟨q,s2,h1,h2⟩
  have h3:aQ ro.t ro.xs (p++([(i,j)]++q))=some s2:=by rw[ck _ hs];exact h1
  refine⟨⟨[(i,j)]++q,s2,h3,h2⟩,fun e=> ?_⟩
  subst e
  have:=sM.2 _ p s2 s k h3 hs h2 (by rw[fX];rfl)
  simp at this
 obtain⟨G',SD,qT⟩:=(eC.pieces (ro:=g.ro) (by simpa using du)).ac1 hx hA hy hle (fun _ h=>h) T.apart (fun i j k h1 h2=>lP k h2 (sM.jj (AL i j k h1).1)) (by omega)
 have hnb:∀i j k,G' i j k→k≠b:=fun i j k h=>(qT i j k h).elim (fun h e=>lP k h (e▸hF)) fun h=>(AL i j k h).2
 have tL:=SD.same ca hnb (fun k h e=>by
  subst e
  exact h.elim (fun h=>I.apart.eu id _ cQ hF h) (fun h=>lP _ h hF))
 simp only[Bool.and_self] at tL
 obtain⟨Ed,h0,jA⟩:=tL.own fI (by simpa using dr) Cu (fun i j h=>hnb i j b h rfl)
 have ahC:∀k,(k=b∨∃i j,G' i j k)→ ¬kB ro.t ro.xs (g.rv id) p k:=by
  rintro k (rfl | ⟨i,j,h⟩)
  ·exact sM.eD AK
  ·rcases qT i j k h with h | h
   ·exact fun h'=>lP k h (sM.kf h')
   ·exact sM.eD (AL i j k h).1
 obtain⟨pW,h1,h2,h3⟩:=sM.Ld hs hz ca (fun k e=>by subst e;exact sM.eD AK) jA (by rw[h0,fX];simp) ahC
 refine⟨_,by rfl,I.kA (ro':=⟨ro.t,.deep,ro.ver,ro.log++[p.length],zs⟩) (.inl ec) ca jD (fun k e=>by subst e;exact I.alone cQ hF) (fun _ h=>h) (fun aJ k h1 _ h3=>I.apart.eu aJ k h1 h3)
  I.apart.gD (fun k h=>Nat.lt_of_lt_of_le (I.apart.db k h) ca.1) I.apart.bY rfl rfl (l:=[p.length]) rfl (av:=pW) (F:=fun k=>(k=b∨∃i j,G' i j k)∨kB ro.t ro.xs (g.rv id) p k) (fun q hq=> ?_) ?_ (fun k hk=> ?_)⟩
 ·have hql:q.length≤p.length:=hq _ (by simp)
  have GY:p <+: q→q=p:=fun h=>(h.eq_of_length_le hql).symm
  exact⟨h1 q GY,fun sq kP=>pq hs hz (by simp) q sq GY kP⟩
 ·unfold aV
  simp only[Gh.b7,if_true]
  exact h3
 ·have hold:g.rf id k→(∀ aJ,aS st aJ→aJ≠id→ ¬g.rf aJ k)∧ ¬g.ro k∧(∀ b,bB st b→g.bx b≠k)∧(w0.heap.size≤k∨Mf k)∧k<(w.setRow b (putAt us (oo+i*ar s.t+off) vs)).heap.size:=fun hk=>
   ⟨(I.alone cQ hk).r,(I.alone cQ hk).ro,(I.alone cQ hk).b,I.apart.cp id k cQ hk,Nat.lt_of_lt_of_le (I.apart.ew id k cQ hk) ca.1⟩
  rcases hk with (rfl | ⟨i',j',h⟩) | h
  ·exact hold hF
  ·rcases qT i' j' k h with h | h
   ·obtain⟨hf,bU⟩:=cM k h
    exact⟨fun aJ h1 _=>hf.r aJ h1,hf.ro,hf.b,hf.ib,Nat.lt_of_lt_of_le bU ca.1⟩
   ·exact hold (sM.jj (AL i' j' k h).1)
  ·exact hold (sM.kf h)
theorem Inv.IV(I0:Inv w0 Mf g st0 a w)(I:Inv w0 Mf g st a w){fr:List (Nat×Rt)}{Gs:List (Nat→Prop)}(T:kN w g st0 st fr Gs){id:Nat}{ro:cC}(ec:au st.roots id=some (.live ro))
 (hm:ro.md.cr=false) (hmp:ro.md.cV=false) {i:Nat} {x y:El ro.t} (hx:ro.xs[i]? =some x) {cv:List Cv} {vs:Array Value} {off:Nat} {d:Bool} (hA:ny w g.ro cv vs.toList Gs d) (hy:enc ro.t y=et (enc ro.t x) off cv) (hle:off+cv.length≤ar ro.t)
    {b oo n cap:Nat} (fX:g.rv id [] = .slice (some ⟨b,oo,none⟩) n cap):
    ∃us el,w.heap[b]? =some (.cells us el (0,0))∧oo+i*ar ro.t+ar ro.t≤us.size∧∃g':Gh,g'.n=g.n∧
      Inv w0 Mf g' { st with roots:=bd st.roots id (.live ⟨ro.t,.n6,ro.ver,ro.log++[0],ro.xs.set i y⟩) } a (w.setRow b (putAt us (oo+i*ar ro.t+off) vs)):=by
 have hi:=mY hx
 have cQ:aS st id:=⟨ro,ec,hm⟩
 have hr:=I.roots id ro ec
 have fK:=hr.node (p:=[]) (s:=⟨ro.t,ro.xs⟩) rfl (by cases h:ro.md<;>simp_all [Md.bM,Md.ll,Md.cr,Md.cV])
 have hv:vs.size=cv.length:=by have:=hA.len.1;simpa using this
 rcases fK with ⟨h0,_⟩ | ⟨b',Yq,iE,us,el,e1,hF,hb,dr,eh,du⟩
 ·simp only at h0;rw[h0] at hi;simp at hi
 rw[fX] at e1
 simp only[Value.slice.injEq,Option.some.injEq,Addr.mk.injEq,and_true] at e1
 obtain⟨⟨rfl,rfl⟩,rfl,rfl⟩:=e1
 simp only at dr eh du
 have hmul:i*ar ro.t+ar ro.t≤ro.xs.length*ar ro.t:=by
  have:(i+1)*ar ro.t≤ro.xs.length*ar ro.t:=Nat.mul_le_mul_right _ hi
  rw[Nat.add_mul] at this;omega
 have GX:ro.xs.length*ar ro.t≤cap*ar ro.t:=Nat.mul_le_mul_right _ dr
 refine⟨us,el,hb,by omega,?_⟩
 have ca:=dQ w b (putAt us (oo+i*ar ro.t+off) vs)
 have fI:=setRow_heap w b us (putAt us (oo+i*ar ro.t+off) vs) el (0,0) hb
 have Cu:oo+cap*ar ro.t≤(putAt us (oo+i*ar ro.t+off) vs).size:=by rw[cG (by omega)];exact eh
 have jD:Kept w0 (w.setRow b (putAt us (oo+i*ar ro.t+off) vs)) Mf:=I.kept.step rfl rfl rfl ca (fun k e=>by subst e;exact I.apart.cp id _ cQ hF)
 have cM:∀k,Any Gs k→fY w0 Mf g st k∧k<w.heap.size:=fun k ⟨F,hF,hk⟩=>T.free I0 hF hk
 have lP:∀k,Any Gs k→ ¬g.rf id k:=fun k ⟨F,hF,hk⟩=>T.off F hF k hk id cQ
 -- what was there, in pieces
 have hpc:∃dd G,dN w g.ro dd ro.t ro.xs us oo G∧∀i j k,G i j k→g.rf id k∧k≠b:=by
  unfold aV at hr
  split at hr
  ·refine⟨true,_,hr.pieces (ro:=g.ro) (by simpa using du),?_⟩
   rintro i j k ⟨q,s2,h1,h2⟩
   refine⟨(hr.1 _ s2 h1).oa h2,fun e=> ?_⟩
   subst e
   have:=hr.2 _ [] s2 ⟨ro.t,ro.xs⟩ k h1 rfl h2 (by rw[fX];rfl)
   simp at this
  ·exact⟨false,_,hr.pieces (by simpa using du),fun _ _ _ h=>h.elim⟩
  ·rename_i cK;simp[cK,Md.cr] at hm
  ·rename_i cK;simp[cK,Md.cV] at hmp
 obtain⟨dd,G,hpc,hG⟩:=hpc
 obtain⟨G',SD,qT⟩:=hpc.ac1 hx hA hy hle (fun _ h=>h) T.apart (fun i j k h1 h2=>lP k h2 (hG i j k h1).1) (by omega)
 have hnb:∀i j k,G' i j k→k≠b:=fun i j k h=>(qT i j k h).elim (fun h e=>lP k h (e▸hF)) fun h=>(hG i j k h).2
 let S3:Nat→Prop:=fun k=>(g.ro k∨Any Gs k)∨∃i j,G' i j k
 have tL:=SD.same ca hnb (fun k h e=>by
  subst e
  exact h.elim (fun h=>I.apart.eu id _ cQ hF h) (fun h=>lP _ h hF))
 obtain⟨Ed,h0,jA⟩:=tL.n6 fI (by simpa using dr) Cu (ro':=S3) (fun k=> .inl) (fun i j k h=> .inr ⟨i,j,h⟩)
 -- who holds what is read from now on
 have hRO:∀k,S3 k→(∀ aJ,aS st aJ→aJ≠id→ ¬g.rf aJ k)∧(∀ b,bB st b→g.bx b≠k)∧k<w.heap.size∧k≠b:=by
  have hgs:∀k,Any Gs k→(∀ aJ,aS st aJ→aJ≠id→ ¬g.rf aJ k)∧(∀ b,bB st b→g.bx b≠k)∧k<w.heap.size∧k≠b:=fun k h=>by
   obtain⟨hf,bU⟩:=cM k h
   exact⟨fun aJ h1 _=>hf.r aJ h1,hf.b,bU,fun e=>lP k h (e▸hF)⟩
  rintro k ((h | h) | ⟨i',j',h⟩)
  ·exact⟨fun aJ h1 _ h3=>I.apart.eu aJ k h1 h3 h,fun b' fI e=>I.apart.gD b' fI (e▸h),I.apart.db k h,fun e=>I.apart.eu id b cQ hF (e▸h)⟩
  ·exact hgs k h
  ·rcases qT i' j' k h with h | h
   ·exact hgs k h
   ·have hk:=(hG i' j' k h).1
    exact⟨(I.alone cQ hk).r,(I.alone cQ hk).b,I.apart.ew id k cQ hk,(hG i' j' k h).2⟩
 have ahF:∀k,S3 k→g.n.r0 k∨w0.heap.size≤k∨Mf k:=by
  rintro k ((h | h) | ⟨i',j',h⟩)
  ·exact I.apart.bY k h
  ·exact .inr (cM k h).1.ib
  ·rcases qT i' j' k h with h | h
   ·exact .inr (cM k h).1.ib
   ·exact .inr (I.apart.cp id k cQ (hG i' j' k h).1)
 refine⟨_,by rfl,I.kA (ro':=⟨ro.t,.n6,ro.ver,ro.log++[0],ro.xs.set i y⟩) (G:=S3) (.inl ec) ca jD (fun k e=>by subst e;exact I.alone cQ hF) (fun _ h=> .inl (.inl h)) (fun aJ k h1 h2 h3 h4=>(hRO k h4).1 aJ h1 h2 h3)
  (fun b' fI h=>(hRO _ h).2.1 b' fI rfl) (fun k h=>Nat.lt_of_lt_of_le (hRO k h).2.2.1 ca.1) ahF rfl rfl (l:=[0]) rfl (av:=Ed) (F:=fun k=>k=b) (fun q hq=> ?_) ?_ (fun k hk=> ?_)⟩
 ·have EI:q=[]:=List.eq_nil_of_length_eq_zero (Nat.le_zero.1 (hq 0 (by simp)))
  subst EI
  refine⟨by rw[h0,fX];simp,fun sq kP=> ?_⟩
  simp only[aQ,Option.some.injEq] at kP
  subst kP
  exact⟨_,rfl,rfl,by simp⟩
 ·unfold aV
  simp only[Gh.b7,if_true]
  exact jA
 ·subst hk
  exact⟨(I.alone cQ hF).r,fun h=>(hRO _ h).2.2.2 rfl,(I.alone cQ hF).b,I.apart.cp id _ cQ hF,Nat.lt_of_lt_of_le (I.apart.ew id _ cQ hF) ca.1⟩
theorem vK:∀{p:Path}{t:Ty}{xs zs:List (El t)}{s s':Sl},aQ t xs p=some s→dz t xs p s'=some zs→
    ∀q sq,¬p <+: q→aQ t xs q=some sq→∃YE,aQ t zs q=some YE∧YE.t=sq.t∧YE.xs.length=sq.xs.length
  | [],t,xs,zs,s,s',h,hz,q,sq,hq,kP=>absurd List.nil_prefix hq
  | (i,j)::p,t,xs,zs,s,s',h,hz,q,sq,hq,kP=>by
    simp only[aQ] at h
    split at h
    case h_2=>cases h
    rename_i x hx
    split at h
    case h_2=>cases h
    rename_i t1 ys hc
    simp only[dz,bm hx,hc,Option.bind_eq_some_iff,Option.some.injEq] at hz
    obtain⟨z1,Ep,y,hy,rfl⟩:=hz
    have IE:=c8 hy
    have bU:=mY hx
    have hj:j<(enc t x).length:=by rw[bl];exact jI hc
    cases q with
    |nil=>
      simp only[aQ,Option.some.injEq] at kP
      subst kP
      exact⟨⟨t,xs.set i y⟩,rfl,rfl,by simp⟩
    |cons ij q=>
      obtain⟨i',j'⟩:=ij
      simp only[aQ] at kP ⊢
      by_cases qW:i=i'
      · subst qW
        simp only[List.getElem?_set_self bU,←IE]
        rw[hx] at kP
        simp only at kP
        by_cases KE:j=j'
        · subst KE
          simp only[hc,List.getElem?_set_self hj] at kP ⊢
          exact vK h Ep q sq (fun hp=>hq (by simpa using hp)) kP
        · rw[List.getElem?_set_ne KE]
          exact⟨sq,kP,rfl,rfl⟩
      · simp only[List.getElem?_set_ne qW]
        exact⟨sq,kP,rfl,rfl⟩
theorem mq:∀{q:Path}{t:Ty}{xs:List (El t)}{s:Sl},aQ t xs q=some s→∀p,sub t xs (q++p)=sub s.t s.xs p
  | [],t,xs,s,h,p=>by simp only[aQ,Option.some.injEq] at h;subst h;rfl
  | (i,j)::q,t,xs,s,h,p=>by
    simp only[aQ] at h
    split at h
    · rename_i x hx
      split at h
      · rename_i t' ys hc
        simp only[List.cons_append,sub,bm hx,hc]
        exact mq h p
      · cases h
    · cases h
theorem IW{us:Array Value}{off:Nat}{u:Value}(h:off<us.size)(m:Nat):(putAt us off #[u])[m]? =if m=off then some u else us[m]? :=by
 rw[e7 (by simp;omega)]
 by_cases e:m=off
 ·subst e;rw[if_pos ⟨Nat.le_refl _,by simp⟩,if_pos rfl,Nat.sub_self];rfl
 ·rw[if_neg (by simp;omega),if_neg e]
theorem cX.fill{F F2:Nat→Prop}{t:Ty}{xs zs:List (El t)}{av:Path→Value}{q:Path}{i j:Nat}(h:cX w F (.hole (q++[(i,j)])) t xs av){s s':Sl}(hs:aQ t xs (q++[(i,j)])=some s)
 (hz:dz t xs (q++[(i,j)]) s'=some zs) {b oo n cap:Nat} (fX:av q = .slice (some ⟨b,oo,none⟩) n cap) {sq:Sl} (kP:aQ t xs q=some sq) {us:Array Value} {el:TypeId} {fz:Nat×Nat} (hb:w.heap[b]? =some (.cells us el fz))
    {u:Value} (hu:cR u=true) {Ed:Path→Value} (jA:a8 w F2 s'.t s'.xs Ed) (h0:Ed []=u) (hF2:∀k,F2 k→ ¬F k):
    ∃pW:Path→Value,(∀ r,¬(q++[(i,j)]) <+: r→pW r=av r)∧a8 (w.setRow b (putAt us (oo+i*ar sq.t+j) #[u])) (fun k=>F k∨F2 k) t zs pW:=by
 have hqa:(Pt.hole (q++[(i,j)])).nodeAt q=true:=(jd (by simp)).2 fun hp=>by
  have:=hp.length_le
  simp at this
  omega
 obtain⟨xq,hxq,hcq⟩:∃xq,sq.xs[i]? =some xq∧(enc sq.t xq)[j]? =some (.l s.t s.xs):=by
  rw[ck _ kP] at hs
  exact IN hs
 have hi:=mY hxq
 have hj:=jI hcq
 rcases h.1 q sq hqa kP with ⟨e0,_⟩ | ⟨b',Yq,iE,us',pM,e1,Eb,fI,dr,eh,du⟩
 ·rw[e0] at hi;simp at hi
 rw[fX] at e1
 simp only[Value.slice.injEq,Option.some.injEq,Addr.mk.injEq,and_true] at e1
 obtain⟨⟨rfl,rfl⟩,rfl,rfl⟩:=e1
 rw[hb] at fI
 simp only[Option.some.injEq,Obj.cells.injEq] at fI
 obtain⟨rfl,rfl,rfl⟩:=fI
 have hmul:i*ar sq.t+ar sq.t≤sq.xs.length*ar sq.t:=by
  have:(i+1)*ar sq.t≤sq.xs.length*ar sq.t:=Nat.mul_le_mul_right _ hi
  rw[Nat.add_mul] at this;omega
 have GX:sq.xs.length*ar sq.t≤cap*ar sq.t:=Nat.mul_le_mul_right _ dr
 have lP:oo+i*ar sq.t+j<us.size:=by omega
 have ca:=dQ w b (putAt us (oo+i*ar sq.t+j) #[u])
 have hbn:=setRow_heap w b us (putAt us (oo+i*ar sq.t+j) #[u]) el (0,0) hb
 have ahG:(putAt us (oo+i*ar sq.t+j) #[u]).size=us.size:=cG (by simp;omega)
 let pW:Path→Value:=fun r=>if (q++[(i,j)]) <+: r then Ed (r.drop (q++[(i,j)]).length) else av r
 have hup:∀r,pW ((q++[(i,j)])++r)=Ed r:=fun r=>by simp only[pW];rw[if_pos (List.prefix_append _ _),List.drop_left]
 have Cy:∀r,¬(q++[(i,j)]) <+: r→pW r=av r:=fun r hr=>by simp only[pW];rw[if_neg hr]
 have GZ:a8 (w.setRow b (putAt us (oo+i*ar sq.t+j) #[u])) F2 s'.t s'.xs Ed:=jA.same ca fun k hk e=>by subst e;exact hF2 _ hk Eb
 refine⟨pW,Cy,fun r Ea uj=> ?_,fun r1 r2 s1 s2 n h1 h2 h3 h4=> ?_⟩
 ·rcases lu hs hz r Ea uj with ⟨r',rfl,IS⟩ | ⟨hn,s2,IS,uk⟩
  ·rw[hup]
   have:=(GZ.1 r' Ea IS).mono (Q:=fun k=>F k∨F2 k) fun k=> .inr
   refine this.fH fun i y j t' ys _ _=> ?_
   rw[List.append_assoc,hup]
  ·rw[Cy r hn]
   have ha:=(jd (by simp)).2 hn
   have h1:=h.1 r s2 ha IS
   by_cases hrq:r=q
   ·subst hrq
    rw[kP] at IS;cases IS
    refine .inr ⟨b,oo,cap,_,el,by rw[fX,uk.2.1],.inl Eb,hbn,by rw[uk.2.1];exact dr,by rw[ahG,uk.1];exact eh,?_⟩
    have ac4:=uk.rows du
    intro i2 y j2 c hy hc
    obtain⟨z,hz2,n8⟩:=ac4 i2 y j2 c hy hc
    rw[uk.1] at hz2 ⊢
    rw[IW lP]
    have hj2:j2<ar sq.t:=by rw[← uk.1];exact jI hc
    by_cases e:oo+i2*ar sq.t+j2=oo+i*ar sq.t+j
    ·rw[if_pos e]
     have:i2=i∧j2=j:=by
      rcases Nat.lt_trichotomy i2 i with bU | heq | bU
      ·have:(i2+1)*ar sq.t≤i*ar sq.t:=Nat.mul_le_mul_right _ bU
       rw[Nat.add_mul] at this;omega
      ·subst heq;exact⟨rfl,by omega⟩
      ·have:(i+1)*ar sq.t≤i2*ar sq.t:=Nat.mul_le_mul_right _ bU
       rw[Nat.add_mul] at this;omega
     obtain⟨rfl,rfl⟩:=this
     refine⟨u,rfl,?_⟩
     have AN:c.kind.isSome=true:=by
      obtain⟨y0,c0,h5,h6,h7⟩:=uk.2.2 i2 y j2 c hy hc
      rw[hxq] at h5;cases h5
      rw[hcq] at h6;cases h6
      cases c with
      |v x=>exact h7.elim
      |l t' ys=>rfl
     cases c with
     |v x=>cases AN
     |l t' ys=>
      show u=pW (r++[(i2,j2)])
      have:=hup []
      rw[List.append_nil] at this
      rw[this,h0]
    ·rw[if_neg e]
     refine⟨z,hz2,?_⟩
     cases c with
     |v x=>exact n8
     |l t' ys=>
      have n8:z=av (r++[(i2,j2)]):=n8
      show z=pW (r++[(i2,j2)])
      rw[n8,Cy]
      intro hp
      have hl:=hp.eq_of_length (by simp)
      have:=List.append_cancel_left hl
      simp only[List.cons.injEq,Prod.mk.injEq,and_true] at this
      exact e (by rw[this.1,this.2])
   ·have AF:∀k,qR (av r)=some k→k≠b:=fun k hk e=>by
     subst e
     exact hrq (h.2.1 r q s2 sq k ha hqa IS kP hk (by rw[fX];rfl))
    have h2:=(h1.toF (G:=fun k=>F k∧k≠b) fun k hk=>⟨h1.oa hk,AF k hk⟩).same ca fun k hk e=>hk.2 e
    refine ((uk.own h2).mono fun k hk=>Or.inl hk.1).fH fun i2 y j2 t' ys _ _=> ?_
    refine Cy _ fun hp=> ?_
    rw[List.prefix_concat_iff] at hp
    rcases hp with hp | hp
    ·have:=List.append_inj_left' hp rfl
     exact hrq this.symm
    ·exact hn hp
 ·rcases lu hs hz r1 s1 h1 with ⟨r1',rfl,po⟩ | ⟨Ec,s1',po,_⟩<;>rcases lu hs hz r2 s2 h2 with ⟨r2',rfl,uj⟩ | ⟨GV,Ea,uj,_⟩
  ·rw[hup] at h3 h4
   rw[GZ.2 _ _ _ _ n po uj h3 h4]
  ·rw[hup] at h3;rw[Cy _ GV] at h4
   exact (hF2 n ((GZ.1 _ _ po).oa h3) ((h.1 _ _ ((jd (by simp)).2 GV) uj).oa h4)).elim
  ·rw[hup] at h4;rw[Cy _ Ec] at h3
   exact (hF2 n ((GZ.1 _ _ uj).oa h4) ((h.1 _ _ ((jd (by simp)).2 Ec) po).oa h3)).elim
  ·rw[Cy _ Ec] at h3;rw[Cy _ GV] at h4
   exact h.2.1 _ _ _ _ n ((jd (by simp)).2 Ec) ((jd (by simp)).2 GV) po uj h3 h4
theorem Inv.IX(I0:Inv w0 Mf g st0 a w)(I:Inv w0 Mf g st a w){fr:List (Nat×Rt)}{F2:Nat→Prop}(T:kN w g st0 st fr [F2]){id:Nat}{ro:cC}(ec:au st.roots id=some (.live ro))
    {q:Path} {i j:Nat} (hm:ro.md = .part (.hole (q++[(i,j)]))) {sq:Sl} (kP:aQ ro.t ro.xs q=some sq) (hi:i<sq.xs.length) {s:Sl} (hs:sub ro.t ro.xs (q++[(i,j)])=some s) {ys:List (El s.t)} {u:Value} (hu:cR u=true)
 (jA:jB w F2 s.t ys u) {zs:List (El ro.t)} (hz:dz ro.t ro.xs (q++[(i,j)]) ⟨s.t,ys⟩=some zs) {b oo n cap:Nat} (fX:g.rv id q = .slice (some ⟨b,oo,none⟩) n cap) (hj:j<ar sq.t):
    ∃us el,w.heap[b]? =some (.cells us el (0,0))∧oo+i*ar sq.t+ar sq.t≤us.size∧∃g':Gh,g'.n=g.n∧
      Inv w0 Mf g' { st with roots:=bd st.roots id (.live ⟨ro.t,.deep,ro.ver,ro.log++[q.length],zs⟩) } a (w.setRow b (putAt us (oo+i*ar sq.t+j) #[u])):=by
 have hr:=I.roots id ro ec
 unfold aV at hr
 rw[hm] at hr
 have hr:cX w (g.rf id) (.hole (q++[(i,j)])) ro.t ro.xs (g.rv id):=hr
 have cQ:aS st id:=⟨ro,ec,by rw[hm];rfl⟩
 have hqa:(Pt.hole (q++[(i,j)])).nodeAt q=true:=(jd (by simp)).2 fun hp=>by
  have:=hp.length_le
  simp at this
  omega
 rcases hr.1 q sq hqa kP with ⟨e0,_⟩ | ⟨b',Yq,iE,us,el,e1,Eb,hb,dr,eh,du⟩
 ·rw[e0] at hi;simp at hi
 rw[fX] at e1
 simp only[Value.slice.injEq,Option.some.injEq,Addr.mk.injEq,and_true] at e1
 obtain⟨⟨rfl,rfl⟩,rfl,rfl⟩:=e1
 have hmul:i*ar sq.t+ar sq.t≤sq.xs.length*ar sq.t:=by
  have:(i+1)*ar sq.t≤sq.xs.length*ar sq.t:=Nat.mul_le_mul_right _ hi
  rw[Nat.add_mul] at this;omega
 have GX:sq.xs.length*ar sq.t≤cap*ar sq.t:=Nat.mul_le_mul_right _ dr
 have hsR:∃s1,aQ ro.t ro.xs (q++[(i,j)])=some s1:=by
  have hx:=dm hi
  rw[mq kP] at hs
  rw[ck _ kP]
  simp only[sub,aQ,hx] at hs ⊢
  split at hs
  ·rename_i t' ys' hc;first | exact⟨_,rfl⟩ | (simp only[hc];exact⟨_,rfl⟩)
  ·cases hs
 obtain⟨s1,po⟩:=hsR
 have:=cW po
 rw[hs] at this;cases this
 have cM:∀k,F2 k→fY w0 Mf g st k∧k<w.heap.size:=fun k hk=>T.free I0 (by simp) hk
 obtain⟨Ed,h0,GV⟩:=jA
 obtain⟨pW,h1,h2⟩:=hr.fill po hz fX kP hb hu GV h0 fun k hk j6=>(cM k hk).1.r id cQ j6
 have ca:=dQ w b (putAt us (oo+i*ar sq.t+j) #[u])
 have jD:Kept w0 (w.setRow b (putAt us (oo+i*ar sq.t+j) #[u])) Mf:=I.kept.step rfl rfl rfl ca (fun k e=>by subst e;exact I.apart.cp id _ cQ Eb)
 refine⟨us,el,hb,by omega,_,by rfl,I.kA (ro':=⟨ro.t,.deep,ro.ver,ro.log++[q.length],zs⟩) (.inl ec) ca jD (fun k e=>by subst e;exact I.alone cQ Eb) (fun _ h=>h) (fun aJ k h1 _ h3=>I.apart.eu aJ k h1 h3)
  I.apart.gD (fun k h=>Nat.lt_of_lt_of_le (I.apart.db k h) ca.1) I.apart.bY rfl rfl (l:=[q.length]) rfl (av:=pW) (F:=fun k=>g.rf id k∨F2 k) (fun r j6=> ?_) ?_ (fun k hk=> ?_)⟩
 ·have hrl:r.length≤q.length:=j6 _ (by simp)
  have hnp : ¬(q++[(i,j)]) <+: r:=fun hp=>by
   have:=hp.length_le
   simp at this
   omega
  exact⟨h1 r hnp,fun sr hsr=>vK po hz r sr hnp hsr⟩
 ·unfold aV
  simp only[Gh.b7,if_true]
  exact h2
 ·rcases hk with hk | hk
  ·exact⟨(I.alone cQ hk).r,(I.alone cQ hk).ro,(I.alone cQ hk).b,I.apart.cp id k cQ hk,Nat.lt_of_lt_of_le (I.apart.ew id k cQ hk) ca.1⟩
  ·obtain⟨hf,bU⟩:=cM k hk
   exact⟨fun aJ h1 _=>hf.r aJ h1,hf.ro,hf.b,hf.ib,Nat.lt_of_lt_of_le bU ca.1⟩
end Go.Gm
namespace Go.Gm
open Go
variable {R : Type} {P : Program} {E : Env} {w0 w : World} {Mf : Nat → Prop} {g : Gh} {st : St} {a : Act} {Q : Exit → Act → World → Prop}
  {o:Oper} {k:Dl→Option R} {r:R} {K:Act→World→Prop}
theorem nD{w':World}(hd:o.dst=none)(h:(execOp a.eval o).run P w = .ok .skip w')(hK:K a w'):o.wp P a w K Q:=by
 unfold Oper.wp;rw[h,Oper.upon_skip,hd];exact hK
theorem G0(t:Ty)(x:El t)(j:Nat):((enc t x)[j]?).map Cv.kind=(kinds t)[j]? :=by
 rw[← vi t x,List.getElem?_map]
theorem S9(hE:E.Ok P)(I:Inv w0 Mf g st a w)(hK:Then w0 Mf g st k r K){T:Nat}{x y:Operand}(b9:o.op = .store T x y)
 (h:eZ E o st k=some r):o.wp P a w K Q:=by
 simp only[eZ,b9] at h
 replace h:=bh h;obtain⟨ly,h⟩:=h
 have ly:=Option.isNone_iff_eq_none.1 ly
 replace h:=aT h;obtain⟨t,hT,h⟩:=h
 replace h:=I.fV h;obtain⟨c,h,hc⟩:=h
 replace h:=I.dv h;obtain⟨s,h,hs⟩:=h
 replace h:=aT h;obtain⟨cs,fq,h⟩:=h
 replace h:=bh h;obtain⟨hlen,h⟩:=h
 have hlen:=iC hlen
 obtain⟨vs,eU,um⟩:=dw fq hs
 have SE:vs.size=cs.length:=um.1
 have df:∀(b off:Nat)(us:Array Value)(el:Nat),a.eval x = .pointer (some ⟨b,off,none⟩)→w.heap[b]? =some (.cells us el (0,0))→off+ar t≤us.size→
   (execOp a.eval o).run P w = .ok .skip (w.setRow b (putAt us off vs)):=by
  intro b off us el hx hb hl
  have:=ra hE hT (off:=off) hb eU (by omega) hl um.flat
  rw[k8 (by omega)] at this
  simp[execOp,b9,Instr.storeAt,hx,Instr.sureAddr,this]
 split at h
 ·-- into a variable in memory
  rename_i b off
  replace h:=aT h;obtain⟨bx,AA,h⟩:=h
  replace h:=bh h;obtain⟨hl,h⟩:=h
  have hl:=iD hl
  obtain⟨us,el,hb,oB⟩:=I.boxes b bx AA
  have tG:=oB.1
  have cQ:bB st b:=by simp[bB,AA]
  refine nD ly (df _ _ us el hc.2.1 hb (by omega)) (hK _ g _ _ h rfl ?_)
  have ca:=dQ w (g.bx b) (putAt us off vs)
  have ur:=oB.set um off (by omega)
  rw[k8 (by omega)] at ur
  have:=I.qY (t:=bx.t) cQ ca (I.kept.step rfl rfl rfl ca (fun k e=>by subst e;exact I.apart.dL b cQ)) (setRow_heap w _ us _ el (0,0) hb) ur
  simpa [St.apply,cj] using this
 ·-- into an own list
  rename_i id ver iv p i off
  replace h:=de h;obtain⟨ro,dj,h⟩:=h
  split at h
  ·rename_i p0 zn
   replace h:=bh h;obtain⟨heq,h⟩:=h
   have heq:=Az.1 heq
   subst heq
   split at h
   case h_2=>cases h
   rename_i c1 _
   replace h:=aT h;obtain⟨s0,YG,h⟩:=h
   obtain⟨u1,YH,lr⟩:=um.2 0 c1 rfl
   have ahI:vs = #[u1]:=by
    apply Array.ext_getElem?
    intro n
    cases n with
    |zero=>simpa using YH
    |succ n=>rw[Array.getElem?_eq_none (by rw[SE];simp),Array.getElem?_eq_none (by simp)]
   subst ahI
   replace h:=I.kE h lr;obtain⟨cv,d,aF,fr,F,h,I',TK,hr,ho⟩:=h
   replace h:=bh h;obtain⟨hd,h⟩:=h
   subst hd
   replace h:=di h;obtain⟨yw,ec,gE,h⟩:=h
   have EJ:=TK.live id yw ec
   have:yw=ro:=by have:=EJ.symm.trans dj.1;simpa using this
   subst this
   replace h:=aT h;obtain⟨ys,Lb,h⟩:=h
   replace h:=aT h;obtain⟨zs,hz,h⟩:=h
   obtain⟨s',b,oo,n,cap,h1,h2,h3,hu⟩:=hc.2.2 yw dj.x
   have hm:yw.md = .part (.hole (p++[(i,off)])):=by
    cases hq:yw.md with
    |part k=>
     cases k with
     |cur a b=>rw[hq] at zn;cases zn
     |hole p1=>rw[hq] at zn;cases zn;rfl
    |_=>rw[hq] at zn;cases zn
   have hj:off<ar s'.t:=by
    rw[mq h1] at YG
    simp only[sub] at YG
    split at YG
    ·rename_i mP;exact jI mP
    ·cases YG
   have ac5:=Cv.ie Lb
   subst ac5
   obtain⟨us,el,hb,dy,g',hn,I2⟩:=I.IX I' TK ec hm h1 h2 YG lr.1 (ho rfl) hz h3 hj
   refine nD ly (df _ _ us el (by rw[hu]) hb (by simp only[List.length_cons,List.length_nil] at hlen;omega)) (hK _ g' _ _ h hn ?_)
   have jh:=TK.eq
   subst jh
   simpa [St.apply,bn,cj] using I2
  replace h:=aT h;obtain⟨s1,po,h⟩:=h
  replace h:=bh h;obtain⟨lA,h⟩:=h
  replace h:=I.qp h um.l;obtain⟨cv,d,aF,fr,Gs,h,I',TK,hA⟩:=h
  replace h:=di h;obtain⟨yw,ec,gE,h⟩:=h
  have EJ:=TK.live id yw ec
  have:yw=ro:=by have:=EJ.symm.trans dj.1;simpa using this
  subst this
  replace h:=bh h;obtain⟨hdp,h⟩:=h
  replace h:=aT h;obtain⟨y1,hy1,h⟩:=h
  replace h:=aT h;obtain⟨zs,hz,h⟩:=h
  obtain⟨s',b,oo,n,cap,h1,h2,h3,hu⟩:=hc.2.2 yw dj.x
  have:=cW h1;rw[po] at this;cases this
  simp only[Bool.and_eq_true,Bool.or_eq_true,Bool.not_eq_true',List.isEmpty_iff] at lA
  obtain⟨cK,hl⟩:=lA
  have hl:=iD hl
  have KH:=dm h2
  have IE:=(c8 hy1).symm
  have ac5:cv.length=cs.length:=by have:=hA.len.1;simp[SE] at this;omega
  have S':yw.md.bM=true∨(yw.md.ll=true∧p=[]):=cK
  have jh:=TK.eq
  cases G4:cv.all fun c=>c.kind.isNone
  ·-- lists go in
   simp only[G4,cond_false] at h
   by_cases zl:yw.md.bM=true∧d=true
   ·obtain⟨hm,rfl⟩:=zl
    have GM:yw.md = .deep:=by cases hq:yw.md<;>simp_all [Md.bM]
    obtain⟨us,el,hb,dy,g',hn,I2⟩:=I.IU I' TK ec h1 GM KH hA IE (by omega) hz h3
    refine nD ly (df _ _ us el (by rw[hu]) hb (by omega)) (hK _ g' _ _ h hn ?_)
    subst jh
    rw[GM]
    simpa [St.apply,bn,cj,Md.meet] using I2
   ·have hp:p=[]:=by
     rcases S' with hm | hm
     ·simp only[Bool.or_eq_true,List.isEmpty_iff] at hdp
      rcases hdp with hd | hp
      ·exact (zl ⟨hm,hd⟩).elim
      ·exact hp
     ·exact hm.2
    have yv:yw.md.cr=false:=by
     rcases S' with hm | hm
     ·cases hq:yw.md<;>simp_all [Md.bM,Md.cr]
     ·cases hq:yw.md<;>simp_all [Md.ll,Md.cr]
    have IP:yw.md.cV=false:=by
     rcases S' with hm | hm
     ·cases hq:yw.md<;>simp_all [Md.bM,Md.cV]
     ·cases hq:yw.md<;>simp_all [Md.ll,Md.cV]
    subst hp
    simp only[aQ,Option.some.injEq] at h1
    subst h1
    have IM:=vJ hz
    subst IM
    obtain⟨us,el,hb,dy,g',hn,I2⟩:=I.IV I' TK ec yv IP KH hA IE (by simp only at hl ⊢;omega) h3
    refine nD ly (df _ _ us el (by rw[hu]) hb (by simp only at hl dy ⊢;omega)) (hK _ g' _ _ h hn ?_)
    have ac6:yw.md.meet d = .n6:=by
     cases hq:yw.md<;>cases d<;>simp_all [Md.meet,Md.bM,Md.cr,Md.cV]
    rw[ac6]
    subst jh
    simpa [St.apply,bn,cj] using I2
  ·simp only[G4,cond_true] at h
   rw[List.all_eq_true] at G4
   have qS:∀(j:Nat) c,cv[j]? =some c→∃z,vs[j]? =some z∧c = .v z:=by
    intro j c hj
    obtain⟨z,hz,hr⟩:=hA.rd.get j c hj
    have:=G4 c (List.mem_of_getElem? hj)
    cases c with
    |v q=>exact⟨z,by simpa using hz,by simp only[pL] at hr;rw[hr]⟩
    |l t' ys=>simp[Cv.kind] at this
   obtain⟨us,el,hb,dy,g',hn,I2⟩:=I'.IT ec h1 S' KH qS (by omega) (fun j c hj1 hj2 B7=>by
     have e1:=G0 s1.t (al s1.xs i) j
     have e2:=G0 s1.t y1 j
     rw[← e1,IE,kQ (by rw[bl];omega),if_pos ⟨hj1,hj2⟩,B7] at e2
     have hj3:j-off<cv.length:=by omega
     rw[List.getElem?_eq_getElem hj3] at e2
     have:=G4 cv[j-off] (List.getElem_mem hj3)
     simp only[Option.map_some,Option.some.injEq] at e2
     cases c with
     |v q=>exact⟨q,rfl⟩
     |l t' ys=>rw[e2] at this;simp[Cv.kind] at this) IE (by omega) hz h3
   refine nD ly (df _ _ us el (by rw[hu]) hb (by omega)) (hK _ g' _ _ h hn ?_)
   subst jh
   simpa [St.apply,bn,cj] using I2
 ·cases h
theorem rh(t e ty:TypeId)(zv:Value)(ht:P.underlying t=some (.slice e))(hv:∀w,(zeroValue e).run P w = .ok zv w)(hz:∀v∈zv.cells.toList,v.oneCell'=true)(hz0:0<zv.cells.size)(b o n c:Nat)(hn:0<n)(cs:Array Value)(el:TypeId)
 (hb:w.heap[b]? =some (.cells cs el (0,0))) (da:o+n*zv.cells.size≤cs.size):
 (Builtin.clear_ #[t] ty #[.slice (some ⟨b,o,none⟩) n c]).run P w = .ok (.tuple #[]) (w.setRow b (putAt cs o (Builtin.zeroCells zv.cells n))):=by
 have yH:∀v∈(Builtin.zeroCells zv.cells n).toList,v.oneCell'=true:=by
  intro v KI
  simp only[Builtin.zeroCells,Array.toList_map,List.mem_map] at KI
  obtain⟨i,_,rfl⟩:=KI
  refine hz _ ?_
  have bU:i%zv.cells.size<zv.cells.size:=Nat.mod_lt _ hz0
  rw[getElem!_pos zv.cells _ bU]
  exact Array.getElem_mem_toList bU
 have dy:=size_zeroCells zv.cells n
 have jh:=run_storeCells_at P b o el (Builtin.zeroCells zv.cells n).toList 0 cs w hb (by simp[dy];omega) yH
 simp only[Nat.add_zero] at jh
 rw[← k8 (by rw[dy];omega)]
 obtain⟨m,rfl⟩:∃m,n=m+1:=⟨n-1,by omega⟩
 simp[Builtin.clear_,run_underlying ht,hv,jh]
theorem IY{e:Ty}:∀v∈(dP e),v.oneCell'=true:=by
 intro v hv
 simp only[dP] at hv
 obtain⟨c,hc,rfl⟩:=List.mem_map.1 hv
 obtain⟨m,hm⟩:=List.getElem?_of_mem hc
 cases c with
 |v x=>exact oC (fu (P':=fun _=>True) (w:=default) hm rfl)
 |l t ys=>rfl
theorem pr{t:Ty}(h:(kinds t).all (fun q=>q.isNone)=true)(xs:List (El t)){p:Path}(hp:p≠[]):aQ t xs p=none:=by
 cases p with
 |nil=>exact (hp rfl).elim
 |cons x p=>
  obtain⟨i,j⟩:=x
  simp only[aQ]
  split
  ·split
   ·rename_i hc
    obtain⟨_,e⟩:=vE h hc
    cases e
   ·rfl
  ·rfl
theorem Inv.Xg(I:Inv w0 Mf g st a w){id:Nat}{ro:cC}(ec:au st.roots id=some (.live ro))(cK:ro.md = .deep)(pN:(kinds ro.t).all (fun q=>q.isNone)=true){ys:List (El ro.t)}(hlen:ys.length=ro.xs.length)
    {w':World} (h1:w'.os=w.os) (h2:w'.tape=w.tape) (h3:w'.output=w.output) (hs:bD (g.rf id) w w') (fK:bA w' (g.rf id) ro.t ys (g.rv id []) fun i j=>g.rv id [(i,j)]):
    ∃g':Gh,g'.n=g.n∧Inv w0 Mf g' { st with roots:=bd st.roots id (.live ⟨ro.t,ro.md,ro.ver,ro.log,ys⟩) } a w':=by
 have cQ:aS st id:=⟨ro,ec,by rw[cK];rfl⟩
 have jD:Kept w0 w' Mf:=I.kept.step h1 h2 h3 hs (fun k e=>I.apart.cp id _ cQ e)
 have nW:aV w' (({ g with ro:=g.ro }:Gh).b7 id (g.rv id) (g.rf id)) id ⟨ro.t,ro.md,ro.ver,ro.log,ys⟩:=by
  unfold aV
  simp only[Gh.b7,if_true,cK]
  refine⟨fun p s hp=> ?_,fun p q s s' b hp hq _ _=> ?_⟩
  ·by_cases e:p=[]
   ·subst e;simp only[aQ,Option.some.injEq] at hp;subst hp;exact fK
   ·rw[pr pN ys e] at hp;cases hp
  ·have e1:p=[]:=Classical.byContradiction fun e=>by rw[pr pN ys e] at hp;cases hp
   have e2:q=[]:=Classical.byContradiction fun e=>by rw[pr pN ys e] at hq;cases hq
   rw[e1,e2]
 exact⟨_,by rfl,I.kA (ro':=⟨ro.t,ro.md,ro.ver,ro.log,ys⟩) (.inl ec) hs jD (fun k e=>I.alone cQ e) (fun _ h=>h) (fun aJ k h1 _ h3=>I.apart.eu aJ k h1 h3)
  I.apart.gD (fun k h=>Nat.lt_of_lt_of_le (I.apart.db k h) hs.1) I.apart.bY rfl rfl (l:=[]) (by simp) (fun q _=>⟨rfl,fun sq kP=>by
   by_cases e:q=[]
   ·subst e;simp only[aQ,Option.some.injEq] at kP;subst kP;exact⟨_,rfl,rfl,hlen⟩
   ·rw[pr pN ro.xs e] at kP;cases kP⟩) nW
  (fun k hk=>⟨(I.alone cQ hk).r,(I.alone cQ hk).ro,(I.alone cQ hk).b,I.apart.cp id k cQ hk,Nat.lt_of_lt_of_le (I.apart.ew id k cQ hk) hs.1⟩)⟩
theorem vL{α:Type}(z:α){xs:List α}{lo hi:Nat}(h1:lo≤hi)(h2:hi≤xs.length):(Ch z xs lo hi).length=xs.length:=by simp[Ch];omega
theorem Lg{α:Type}(z:α){xs:List α}{lo hi:Nat}(h1:lo≤hi)(h2:hi≤xs.length)(i:Nat):(Ch z xs lo hi)[i]? =if lo≤i∧i<hi then some z else xs[i]? :=by
 unfold Ch
 by_cases h3:i<lo
 ·rw[List.append_assoc,List.getElem?_append_left (by simp;omega),List.getElem?_take,if_pos h3,if_neg (by omega)]
 ·by_cases h4:i<hi
  ·rw[List.getElem?_append_left (by simp;omega),List.getElem?_append_right (by simp;omega),if_pos (by omega),List.getElem?_replicate]
   simp;omega
  ·rw[List.getElem?_append_right (by simp;omega),List.getElem?_drop,if_neg (by omega)]
   congr 1;simp;omega
theorem Ta(hE:E.Ok P)(I:Inv w0 Mf g st a w)(hK:Then w0 Mf g st k r K){c:Call}(b9:o.op = .call c)(hc:c.callee = .builtin .clear)
 (h:eZ E o st k=some r):o.wp P a w K Q:=by
 simp only[eZ,b9,hc,eY] at h
 split at h
 case h_2=>cases h
 rename_i x T ik KZ
 have jH:c.args = #[x]:=by apply Array.ext';simpa using ik
 have Cr:c.argTypes = #[T]:=by apply Array.ext';simpa using KZ
 replace h:=bh h;obtain⟨ly,h⟩:=h
 have ly:=Option.isNone_iff_eq_none.1 ly
 replace h:=aT h;obtain⟨e,he,h⟩:=h
 obtain⟨el,hu,pg⟩:=hE.slice (gF he)
 obtain⟨ii,zv,nz,dy,Ys,hz,vA⟩:=hE.info el e pg
 replace h:=I.fV h;obtain⟨c',h,mP⟩:=h
 split at h
 case h_2=>cases h
 rename_i id ver lo hi
 replace h:=di h;obtain⟨ro,hv,gE,h⟩:=h
 obtain⟨h1,h2,hx⟩:=mP.2.2 ro ⟨.inl hv,gE,ig _ _⟩
 replace h:=bh h;obtain⟨lA,h⟩:=h
 simp only[Bool.and_eq_true] at lA
 obtain⟨cK,Lh,eV⟩:=lA
 have Lh:=iC Lh
 have cK:ro.md = .deep:=by cases hq:ro.md<;>simp_all [Md.bM]
 replace h:=aT h;obtain⟨z,Ep,h⟩:=h
 have hez:enc ro.t z=enc e (zero e):=(c8 Ep).symm
 have pN:(kinds ro.t).all (fun q=>q.isNone)=true:=by
  rw[← vi ro.t z,hez,List.all_map];exact eV
 have n9:=eW e
 have IM:zv.cells.size=ar e:=by rw[vA];simp[dP,bl]
 have key:∀w',(Builtin.clear_ #[T] o.type #[a.eval x]).run P w = .ok (.tuple #[]) w'→(∃ g',g'.n=g.n∧Inv w0 Mf g' { st with roots:=bd st.roots id (.live ⟨ro.t,ro.md,ro.ver,ro.log,Ch z ro.xs lo hi⟩) } a w')→o.wp P a w K Q:=by
  rintro w' hr ⟨g',hn,I'⟩
  have df:(execOp a.eval o).run P w = .ok (.value (.tuple #[])) w':=by simp[execOp,b9,resolve,hc,invoke,builtin,jH,Cr,hr]
  unfold Oper.wp
  rw[df,Oper.upon_value,ly]
  refine hK _ g' _ _ h hn ?_
  show Inv w0 Mf g' _ a w'
  simpa [St.apply,cj] using I'
 have cQ:aS st id:=⟨ro,hv,by rw[cK];rfl⟩
 have fK:=(I.roots id ro hv).node (p:=[]) (s:=⟨ro.t,ro.xs⟩) rfl (.inl (by rw[cK];rfl))
 simp only[List.nil_append] at fK
 by_cases hlh:lo=hi
 ·subst hlh
  have e:Ch z ro.xs lo lo=ro.xs:=by simp[Ch]
  have EK:∃ad cap,a.eval x = .slice ad 0 cap:=by
   rw[hx]
   rcases fK with ⟨_,e⟩ | ⟨b,oo,cap,cs,pM,e,_⟩<;>rw[e]<;>simp[mn]
  obtain⟨ad,cap,e1⟩:=EK
  refine key w ?_ (I.Xg hv cK pN (by rw[e]) rfl rfl rfl ⟨Nat.le_refl _,fun _ _ _=>rfl⟩ (by rw[e];exact fK))
  rw[e1]
  cases ad<;>simp[Builtin.clear_,run_underlying hu]
 ·rcases fK with ⟨e,_⟩ | ⟨b,oo,cap,cs,pM,e1,hF,hb,dr,eh,du⟩
  ·have e:ro.xs=[]:=e
   rw[e] at h2;simp at h2;omega
  ·have dr:ro.xs.length≤cap:=dr
   have eh:oo+cap*ar ro.t≤cs.size:=eh
   have du:RowsIn ro.t ro.xs cs oo fun i j=>g.rv id [(i,j)]:=du
   rw[← Lh] at eh
   have e2:a.eval x = .slice (some ⟨b,oo+lo*ar e,none⟩) (hi-lo) (cap-lo):=by
    rw[hx,e1]
    simp only[mn]
    rw[if_neg (by omega),Option.map_some,eA,←Lh]
   have m1:lo*ar e≤hi*ar e:=Nat.mul_le_mul_right _ h1
   have m2:hi*ar e≤cap*ar e:=Nat.mul_le_mul_right _ (by omega)
   have m3:(hi-lo)*ar e=hi*ar e-lo*ar e:=Nat.sub_mul _ _ _
   have Xh:(Builtin.zeroCells zv.cells (hi-lo)).size=hi*ar e-lo*ar e:=by rw[size_zeroCells,IM,m3]
   have da:oo+lo*ar e+(Builtin.zeroCells zv.cells (hi-lo)).size≤cs.size:=by rw[Xh];omega
   have uT:=rh (P:=P) T el o.type zv hu (fun w=>by simp[zeroValue,typeInfo,nz,hz]) (by rw[vA];simpa using IY) (by omega) b (oo+lo*ar e) (hi-lo) (cap-lo) (by omega) cs pM hb (by rw[IM,m3];omega)
   have ca:=dQ w b (putAt cs (oo+lo*ar e) (Builtin.zeroCells zv.cells (hi-lo)))
   have fI:=setRow_heap w b cs (putAt cs (oo+lo*ar e) (Builtin.zeroCells zv.cells (hi-lo))) pM (0,0) hb
   generalize hW:w.setRow b (putAt cs (oo+lo*ar e) (Builtin.zeroCells zv.cells (hi-lo)))=W at uT ca fI
   refine key W (by rw[e2];exact uT) (I.Xg hv cK pN (vL z h1 h2) (by rw[← hW];rfl) (by rw[← hW];rfl) (by rw[← hW];rfl) ⟨ca.1,fun k h3 h4=>ca.2 k h3 fun e=>h4 (by subst e;exact hF)⟩
     (.inr ⟨b,oo,cap,_,pM,by rw[e1,vL z h1 h2],hF,fI,by rw[vL z h1 h2];exact dr,by rw[cG da,←Lh];exact eh,?_⟩))
   intro i y j c0 hy mP
   have hj:=jI mP
   rw[Lg z h1 h2] at hy
   rw[e7 da,Xh]
   have mi:i*ar ro.t=i*ar e:=by rw[Lh]
   have m4:i<lo→i*ar ro.t+ar ro.t≤lo*ar e:=fun hi=>by
    have:(i+1)*ar e≤lo*ar e:=Nat.mul_le_mul_right _ hi
    rw[Nat.add_mul] at this;omega
   have m5:hi≤i→hi*ar e≤i*ar ro.t:=fun hi=>by rw[← Lh];exact Nat.mul_le_mul_right _ hi
   by_cases k7:lo≤i∧i<hi
   ·rw[if_pos k7] at hy
    cases hy
    have m6:lo*ar e≤i*ar ro.t:=by rw[← Lh];exact Nat.mul_le_mul_right _ k7.1
    have m7:i*ar ro.t+ar ro.t≤hi*ar e:=by
     have:(i+1)*ar e≤hi*ar e:=Nat.mul_le_mul_right _ k7.2
     rw[Nat.add_mul] at this;omega
    rw[if_pos (by omega)]
    rw[hez] at mP
    have Es:j<ar e:=by omega
    refine⟨zv.cells[j]'(by omega),?_,?_⟩
    ·have hm8:oo+i*ar ro.t+j-(oo+lo*ar e)=(i-lo)*ar e+j:=by
      have:(i-lo)*ar e=i*ar e-lo*ar e:=Nat.sub_mul _ _ _
      omega
     rw[hm8]
     have bU:(i-lo)*ar e+j<(hi-lo)*zv.cells.size:=by
      rw[IM,m3]
      have:(i-lo)*ar e=i*ar e-lo*ar e:=Nat.sub_mul _ _ _
      rw[← Lh] at m7 m6;omega
     unfold Builtin.zeroCells
     rw[Array.getElem?_map,Array.getElem?_range,if_pos bU]
     simp only[Option.map_some,Option.some.injEq]
     have YB:((i-lo)*ar e+j)%zv.cells.size=j:=by rw[IM,Nat.mul_comm,Nat.mul_add_mod];exact Nat.mod_eq_of_lt Es
     rw[YB,getElem!_pos zv.cells j (by omega)]
    ·rw[List.all_eq_true] at eV
     have:=eV c0 (List.mem_of_getElem? mP)
     cases c0 with
     |v q=>
      simp only[eI]
      have hq:(dP e)[j]? =some q:=by simp[dP,mP]
      have:zv.cells[j]? =some q:=by rw[vA];simpa using hq
      rw[Array.getElem?_eq_getElem (by omega)] at this
      exact Option.some.inj this
     |l t' ys=>simp[Cv.kind] at this
   ·rw[if_neg k7] at hy
    obtain⟨u,yu,lr⟩:=du i y j c0 hy mP
    refine⟨u,?_,lr⟩
    rw[if_neg ?_]
    ·exact yu
    ·intro h5
     by_cases h6:i<lo
     ·have:=m4 h6;omega
     ·have:=m5 (by omega);omega
theorem Inv.ac7(I:Inv w0 Mf g st a w){id:Nat}{r:cC}(h:au st.roots id=some (.live r)){p:Path}(hp:r.md.nodeAt p=true){s:Sl}(hs:aQ r.t r.xs p=some s){P:Nat→Prop}(dj:∀k,g.ro k→P k)(hr:aS st id→∀k,g.rf id k→P k):
    eJ w P s.t s.xs (g.rv id p) fun i j=>g.rv id (p++[(i,j)]):=by
 have hR:=I.roots id r h
 unfold aV at hR
 split at hR
 ·rename_i hm;exact (hR.rd p s hs).mono (hr ⟨r,h,by rw[hm];rfl⟩)
 ·rename_i hm;exact (hR.rd p s hs).mono fun k hk=>hk.elim (hr ⟨r,h,by rw[hm];rfl⟩ k) (dj k)
 ·exact (hR p s hs).mono dj
 ·rename_i hm;rw[hm,tE] at hp;exact (hR.1 p s hp hs).rd.mono (hr ⟨r,h,by rw[hm];rfl⟩)
theorem Inv.Tc(I:Inv w0 Mf g st a w){id:Nat}{r:cC}(h:au st.roots id=some (.live r)){p:Path}(hp:r.md.ky p=true){s:Sl}(hs:aQ r.t r.xs p=some s){P:Nat→Prop}(dj:∀k,g.ro k→P k)(hr:aS st id→∀k,g.rf id k→P k):
    ep w P s.t s.xs fun q=>g.rv id (p++q):=by
 intro q s' eK
 have:=I.ac7 h (vt hp q) (p:=p++q) (s:=s') (by rw[ck q hs];exact eK) dj hr
 simpa [List.append_assoc] using this
theorem Inv.Xi(I:Inv w0 Mf g st a w){id:Nat}{r:cC}(h:au st.roots id=some (.live r))(hp:r.md.ky []=true){P:Nat→Prop}(dj:∀k,g.ro k→P k)(hr:aS st id→∀k,g.rf id k→P k):ep w P r.t r.xs (g.rv id):=by
 have hR:=I.roots id r h
 unfold aV at hR
 split at hR
 ·rename_i hm;exact hR.rd.mono (hr ⟨r,h,by rw[hm];rfl⟩)
 ·rename_i hm;exact hR.rd.mono fun k hk=>hk.elim (hr ⟨r,h,by rw[hm];rfl⟩ k) (dj k)
 ·exact hR.mono dj
 ·rename_i k hm;rw[hm] at hp;cases k<;>cases hp
theorem Inv.ac8(I:Inv w0 Mf g st a w){c:Sc}{q:Option Ty}{k:Cv→Option R}{r:R}{u:Value}(h:Gm.pK st c q k=some r)(hc:bg w g st c u){P:Nat→Prop}(dj:∀k,g.ro k→P k)
 (hr:∀id∈c.names.2,aS st id→∀k,g.rf id k→P k):∃cv,k cv=some r∧pL w P cv u:=by
 unfold Gm.pK at h
 split at h
 ·exact⟨_,h,hc.2⟩
 ·exact⟨_,h,GL _ _ _ ⟨none,0,hc.2⟩⟩
 ·exact⟨_,h,gC.mono dj hc.2⟩
 ·exact⟨_,h,gC.mono dj (I.kro hc.2)⟩
 ·rename_i id ver iv p t
  obtain⟨ro,hv,h⟩:=de h
  obtain⟨IF,h⟩:=bh h
  obtain⟨s,hs,h⟩:=aT h
  obtain⟨hu,lv⟩:=hc.2.2 ro hv.x
  obtain⟨s',eK⟩:=Option.isSome_iff_exists.1 lv
  have:=cW eK
  rw[hs] at this;cases this
  refine⟨_,h,_,?_,I.Tc hv.1 IF eK dj (hr id (by simp[Sc.names]))⟩
  simpa using hu.symm
 ·rename_i id ver lo hi t
  obtain⟨ro,hv,gE,h⟩:=di h
  obtain⟨IF,h⟩:=bh h
  obtain⟨h1,h2,hu⟩:=hc.2.2 ro ⟨.inl hv,gE,ig _ _⟩
  refine⟨_,h,?_⟩
  simp only[pL,hu]
  exact (I.Xi hv IF dj (hr id (by simp[Sc.names]))).cut h1 h2
 ·cases h
theorem Inv.YI(I:Inv w0 Mf g st a w){P:Nat→Prop}(dj:∀k,g.ro k→P k):∀{cs:List Sc}{qs:List (Option Ty)}{k:List Cv→Option R}{r:R}{us:List Value},Gm.Eo st cs qs k=some r→mT w g st cs us→
 (∀ c∈cs,∀id∈c.names.2,aS st id→∀k,g.rf id k→P k)→∃cv,k cv=some r∧jg w P cv us
 | [],[],k,r,us,h,hc,_=>by
  cases us with
  |nil=>exact⟨[],h,trivial⟩
  |cons u us=>exact hc.elim
 |c::cs,q::qs,k,r,us,h,hc,hr=>by
  cases us with
  |nil=>exact hc.elim
  |cons u us=>
   obtain⟨cv,h1,h2⟩:=I.ac8 h hc.1 dj (hr c (by simp))
   obtain⟨Cl,h3,h4⟩:=I.YI dj h1 hc.2 (fun c hc=>hr c (by simp[hc]))
   exact⟨cv::Cl,h3,h2,h4⟩
 | [],_::_,k,r,us,h,hc,_=>by cases h
 |_::_,[],k,r,us,h,hc,_=>by cases h
theorem yI{t:Ty}{s:Sv}{cs:List Sc}(h:fp t s=some cs):s.cells=cs:=by
 unfold fp at h
 split at h
 ·simp only[Option.some.injEq] at h;subst h;rfl
 ·simp only[Option.some.injEq] at h;subst h;rfl
 ·cases h
theorem Inv.Td(I:Inv w0 Mf g st a w){t:Ty}{s:Sv}{k:El t→Option R}{r:R}{u:Value}(h:Gm.sP st t s k=some r)(hs:dO w g st s u){P:Nat→Prop}(dj:∀k,g.ro k→P k)
 (hr:∀c∈s.cells,∀id∈c.names.2,aS st id→∀k,g.rf id k→P k):∃x,k x=some r∧ox w P t x u:=by
 obtain⟨cs,fq,h⟩:=aT h
 obtain⟨us,hf,hc⟩:=dw fq hs
 have:=yI fq
 subst this
 obtain⟨cv,h1,h2⟩:=I.YI dj h hc.l hr
 obtain⟨x,hx,h3⟩:=aT h1
 refine⟨x,h3,us,hf,?_⟩
 rw[← c8 hx]
 exact h2.arr
def Sc.kC:Sc→Bool | .dead=>true | _=>false
structure RdP (g:Gh) (st:St) (P:Nat→Prop) (s:Sv):Prop where
 ro:∀k,g.ro k→P k
 r:∀c∈s.cells,∀id∈c.names.2,aS st id→∀k,g.rf id k→P k
 b:(∀ c∈s.cells,c.names.1=[])∨((∀ b x,au st.boxes b=some x→(∃ c∈x.cs,c.kC=false)→P (g.bx b))∧∀id,aS st id→∀k,g.rf id k→P k)
theorem jC.mono{P Q:Nat→Prop}(zf:∀k,P k→Q k){t:Ty}{x:El t}{off:Nat}{u:Value}(h:jC w P t x off u):jC w Q t x off u:=by
 obtain⟨b,oo,cs,el,fz,h1,h2,h3,h4⟩:=h
 exact⟨b,oo,cs,el,fz,h1,zf _ h2,h3,fun j c hj=>let ⟨z,hz,hc⟩:=h4 j c hj;⟨z,hz,hc.mono zf⟩⟩
theorem Cz:∀{cs:List Sc}{qs:List (Option Ty)}{k:List Cv→Option R}{r:R},Eo st cs qs k=some r→∀c∈cs,c.kC=false
 | [],_,_,_,_,c,hc=>by simp at hc
 |c::cs,[],_,_,h,_,_=>by cases h
 |c::cs,q::qs,k,r,h,c',hc=>by
  simp only[Gm.Eo] at h
  have:c.kC=false∧∃cv,Eo st cs qs (fun xs=>k (cv::xs))=some r:=by
   unfold Gm.pK at h
   split at h
   ·exact⟨rfl,_,h⟩
   ·exact⟨rfl,_,h⟩
   ·exact⟨rfl,_,h⟩
   ·exact⟨rfl,_,h⟩
   ·obtain⟨ro,_,h⟩:=de h
    obtain⟨_,h⟩:=bh h
    obtain⟨s,_,h⟩:=aT h
    exact⟨rfl,_,h⟩
   ·obtain⟨ro,_,_,h⟩:=di h
    obtain⟨_,h⟩:=bh h
    exact⟨rfl,_,h⟩
   ·cases h
  obtain⟨h1,cv,h2⟩:=this
  rcases List.mem_cons.1 hc with rfl | hc
  ·exact h1
  ·exact Cz h2 c' hc
theorem Inv.Xj(I:Inv w0 Mf g st a w){b:Nat}{x:Bx}(hb:au st.boxes b=some x){k:El x.t→Option R}{r:R}(h:(Gm.Eo st x.cs (kinds x.t) fun cv=>(dec x.t cv).bind k)=some r){P:Nat→Prop}
 (hP:(∀ b x,au st.boxes b=some x→(∃ c∈x.cs,c.kC=false)→P (g.bx b))∧∀id,aS st id→∀k,g.rf id k→P k) (dj:∀k,g.ro k→P k):
    ∃y,k y=some r∧jC w P x.t y 0 (.pointer (some ⟨g.bx b,0,none⟩)):=by
 obtain⟨us,el,h1,h2⟩:=I.boxes b x hb
 obtain⟨cv,h3,h4⟩:=I.YI dj h h2.l (fun c _ id _=>hP.2 id)
 obtain⟨y,hy,h5⟩:=aT h3
 have qS:=c8 hy
 subst qS
 have n9:0<x.cs.length:=by
  have e1:=h4.len
  have e2:=h2.1
  rw[bl] at e1
  have:=eW x.t
  simp at e1;omega
 refine⟨y,h5,g.bx b,0,us,el,_,rfl,hP.1 b x hb ⟨x.cs[0],List.getElem_mem n9,?_⟩,h1,fun j c hj=> ?_⟩
 ·exact Cz h _ (List.getElem_mem n9)
 ·obtain⟨z,hz,hc⟩:=h4.get j c hj
  exact⟨z,by simpa using hz,hc⟩
theorem Inv.nw(I:Inv w0 Mf g st a w){P:Nat→Prop}(hP:(∀ b x,au st.boxes b=some x→(∃ c∈x.cs,c.kC=false)→P (g.bx b))∧∀id,aS st id→∀k,g.rf id k→P k)(dj:∀k,g.ro k→P k):
    ∀{bs:List Nat}{k:List (Σ t:Ty,El t)→Option R}{r:R},Gm.nw st bs k=some r→∃ys,k ys=some r∧ys.length=bs.length∧
      ∀(i:Nat)(y:Σ t:Ty,El t)(b:Nat),ys[i]? =some y→bs[i]? =some b→jC w P y.1 y.2 0 (.pointer (some ⟨g.bx b,0,none⟩))
 | [],k,r,h=>⟨[],h,rfl,fun i y b h=>by simp at h⟩
 |b::bs,k,r,h=>by
  obtain⟨x,hx,h⟩:=aT h
  obtain⟨y,h,hy⟩:=I.Xj hx h hP dj
  obtain⟨ys,h1,h2,h3⟩:=I.nw hP dj h
  refine⟨⟨x.t,y⟩::ys,h1,by simp[h2],fun i y' b' hi hb=> ?_⟩
  cases i with
  |zero=>simp only[List.getElem?_cons_zero,Option.some.injEq] at hi hb;subst hi;subst hb;exact hy
  |succ i=>exact h3 i y' b' (by simpa using hi) (by simpa using hb)
theorem Kl.nil{wl:World}{t:Ty}{u:Value}(h:u = .slice none 0 0):Kl wl t [] u:=GL _ _ _ ⟨none,0,h⟩
theorem IZ{c:Sc}{q:Option Ty}{cv:Cv}{u:Value}(h:rdK c q=some cv)(hc:bg w g st c u):CKl g.n.wl cv u:=by
 unfold rdK at h
 split at h
 ·cases h;exact hc.2
 ·cases h;exact Kl.nil hc.2
 ·cases h;exact hc.2
 ·cases h
theorem vM{cs:List Sc}{qs:List (Option Ty)}{cv:List Cv}{us:Array Value}(h:Cg cs qs=some cv)(hc:mT w g st cs us.toList):GJ g.n.wl cv us:=by
 have key:∀{cs:List Sc}{qs:List (Option Ty)}{cv:List Cv}{us:List Value},Cg cs qs=some cv→mT w g st cs us→us.length=cv.length∧∀(j:Nat) c,cv[j]? =some c→∃z,us[j]? =some z∧CKl g.n.wl c z:=by
  intro cs
  induction cs with
  |nil=>
   intro qs cv us h hc
   cases qs with
   |cons _ _=>cases h
   |nil=>
    cases h
    cases us with
    |nil=>exact⟨rfl,fun j c hj=>by simp at hj⟩
    |cons _ _=>exact hc.elim
  |cons c cs ih=>
   intro qs cv us h hc
   cases qs with
   |nil=>cases h
   |cons q qs=>
    simp only[Cg] at h
    obtain⟨x,hx,h⟩:=aT h
    obtain⟨xs,yt,h⟩:=aT h
    cases h
    cases us with
    |nil=>exact hc.elim
    |cons u us=>
     obtain⟨h1,h2⟩:=ih yt hc.2
     refine⟨by simp[h1],fun j c' hj=> ?_⟩
     cases j with
     |zero=>simp only[List.getElem?_cons_zero,Option.some.injEq] at hj;subst hj;exact⟨u,rfl,IZ hx hc.1⟩
     |succ j=>simpa using h2 j c' (by simpa using hj)
 obtain⟨h1,h2⟩:=key h hc
 exact⟨by simpa using h1,fun j c hj=>by simpa using h2 j c hj⟩
theorem Kl.flat{wl:World}{t:Ty}{xs:List (El t)}{u:Value}(h:Kl wl t xs u):cR u=true:=by
 obtain⟨av,h0,fX⟩:=h
 obtain⟨ad,cap,e,_⟩:=fX [] _ rfl
 rw[h0] at e;subst e;rfl
theorem vN{Cl:List Cv}{us:Array Value}(h:GJ g.n.wl Cl us)(hf:∀x,.v x∈Cl→cR x=true):cJ w g st (ID Cl) us:=by
 refine⟨by simpa [ID] using h.1,fun j c hj=> ?_⟩
 simp only[ID,List.getElem?_map] at hj
 cases hc:Cl[j]? with
 |none=>simp[hc] at hj
 |some cv=>
  simp only[hc,Option.map_some,Option.some.injEq] at hj
  obtain⟨z,hz,hk⟩:=h.2 j cv hc
  refine⟨z,hz,?_⟩
  cases cv with
  |v x=>
   subst hj
   have hk:z=x:=hk
   subst hk
   exact⟨hf z (List.mem_of_getElem? hc),rfl⟩
  |l t xs=>
   subst hj
   exact⟨Kl.flat hk,hk⟩
theorem Inv.YJ(I:Inv w0 Mf g st a w){m:Am}(hm:m.reads=true){T:Nat}{s:Sv}{u:Value}(hs:dO w g st s u){k:Dt→List Bk→St→Dl→Option R}{r:R}(h:gh E m T s st k=some r)
    {P:Nat→Prop} (hP:RdP g st P s):∃d,k d [] st {}=some r∧∀F,vp g.n.wl w P m d u F:=by
 cases m with
 |ro=>
  obtain⟨t,ht,h⟩:=aT h
  obtain⟨x,h,hx⟩:=I.Td h hs hP.ro hP.r
  exact⟨_,h,fun _=>hx⟩
 |D'=>
  simp only[gh] at h
  split at h
  ·rename_i b
   obtain⟨x,hx,h⟩:=aT h
   have hb:=hP.b.resolve_left fun hn=>by simpa [Sv.cells,Cm.cells,Sc.names] using hn (.pt b 0) (by simp[Sv.cells,Cm.cells])
   obtain⟨y,h,hy⟩:=I.Xj hx h hb hP.ro
   have hu:u = .pointer (some ⟨g.bx b,0,none⟩):=hs.2.1
   subst hu
   exact⟨_,h,fun _=>hy⟩
  ·rename_i t x
   exact⟨_,h,fun _=>jC.mono hP.ro hs.2⟩
  ·cases h
 |fn=>
  simp only[gh] at h
  split at h
  ·rename_i f bs
   obtain⟨hu,W6⟩:=hs.2
   by_cases hbn:bs=[]
   ·subst hbn
    exact⟨_,h,fun _=>⟨[],by rw[hu];rfl,rfl,fun i y q h=>by simp at h⟩⟩
   ·have hb:=hP.b.resolve_left fun hn=>by
     have:=hn (.fi f bs) (by simp[Sv.cells,Cm.cells])
     exact hbn this
    obtain⟨ys,h,hl,hy⟩:=I.nw hb hP.ro h
    refine⟨_,h,fun _=>⟨bs.map fun b=> .pointer (some ⟨g.bx b,0,none⟩),hu,by simp[hl],fun i y q hi hq=> ?_⟩⟩
    rw[List.getElem?_map] at hq
    cases hbi:bs[i]? with
    |none=>simp[hbi] at hq
    |some b=>
     simp only[hbi,Option.map_some,Option.some.injEq] at hq
     subst hq
     exact hy i y b hi hbi
  ·rename_i f ys
   obtain⟨ps,h1,h2,h3⟩:=hs.2
   exact⟨_,h,fun _=>⟨ps,h1,h2,fun i y q hy hq=>jC.mono hP.ro (h3 i y q hy hq)⟩⟩
  ·cases h
 |SO=>
  simp only[gh] at h
  split at h
  ·rename_i c
   exact⟨_,h,fun _=>hs.1⟩
  ·cases h
 |kp=>
  obtain⟨t,ht,h⟩:=aT h
  obtain⟨cs,fq,h⟩:=aT h
  obtain⟨us,hf,hc⟩:=dw fq hs
  obtain⟨cv,qS,h⟩:=aT h
  obtain⟨x,hx,h⟩:=aT h
  have hr:=vM qS hc.l
  refine⟨_,h,fun _=>⟨us,hf,?_⟩⟩
  rw[← c8 hx]
  exact hr
 | «mut» =>cases hm
 |oh=>cases hm
 |bG=>cases hm
theorem dV{α:Type}:∀(L:List (Nat×α))(l:List (Nat×α))(n:Nat),au (cj l L) n=(au (cj [] L) n).or (au l n)
  | [],l,n=>by simp[cj,au]
  | (m,v)::L,l,n=>by
    simp only[cj]
    rw[dV L (bd l m v) n,dV L (bd [] m v) n]
    cases h:au (cj [] L) n with
    |some x=>simp
    |none=>
      simp only[Option.none_or,aH]
      by_cases e:n=m
      · simp[e]
      · simp[e,au]
def nd(st:St)(b:Nat):Prop:=∃x,au st.boxes b=some x∧∃c∈x.cs,c.kC=false
theorem nd.at{b:Nat}(h:nd st b):bB st b:=by obtain⟨x,hx,_⟩:=h;simp[bB,hx]
structure AO (g:Gh) (w:World) (st bz:St) (bs:List Bk) (d:Dl) (H:Nat→Prop):Prop where
 own:∀id,aS bz id→aS st id
 live:∀id r,au bz.roots id=some (.live r)→au st.roots id=some (.live r)
 dq:∀id r,au st.roots id=some (.dq r)→au bz.roots id=some (.dq r)
 map:∀c u,bg w g st c u→bg w g bz c u
 box:∀b,bB bz b↔bB st b
 nd:∀b,nd bz b→nd st b
 src:∀k,H k→(∃ id,aS st id∧g.rf id k)∨(∃ b,Gm.nd st b∧ ¬Gm.nd bz b∧ .box b∈bs∧g.bx b=k)
 off:∀k,H k→∀id,aS bz id→ ¬g.rf id k
 roots:∀id,(∀ r p,.root id r p ∉ bs)→au bz.roots id=au (cj st.roots d.roots) id
 boxes:∀b,au bz.boxes b=au (cj st.boxes d.boxes) b
 ay:bz.ay=st.ay
 mr:d.slot=none
 yJ:∀id r p,.root id r p∈bs→aS st id∧ ¬aS bz id
 uu:∀b,.box b∈bs→Gm.nd st b∧ ¬Gm.nd bz b
theorem AO.refl:AO g w st st [] {} (fun _=>False):=
 ⟨fun _ h=>h,fun _ _ h=>h,fun _ _ h=>h,fun _ _ h=>h,fun _=> .rfl,fun _ h=>h,fun _ h=>h.elim,fun _ h=>h.elim,fun _ _=>rfl,fun _=>rfl,rfl,rfl,fun _ _ _ h=>by simp at h,fun _ h=>by simp at h⟩
theorem AO.trans{s1 s2 s3:St}{bs cs:List Bk}{d e:Dl}{H G:Nat→Prop}(h:AO g w s1 s2 bs d H)(k:AO g w s2 s3 cs e G):AO g w s1 s3 (bs++cs) { boxes:=d.boxes++e.boxes,roots:=d.roots++e.roots } (fun n=>H n∨G n):={
 own:=fun id hi=>h.own id (k.own id hi)
 live:=fun id r hr=>h.live id r (k.live id r hr)
 dq:=fun id r hr=>k.dq id r (h.dq id r hr)
 map:=fun c u hc=>k.map c u (h.map c u hc)
 box:=fun b=>(k.box b).trans (h.box b)
 nd:=fun b hb=>h.nd b (k.nd b hb)
 src:=fun n hn=>by
  rcases hn with hn | hn
  ·rcases h.src n hn with h1 | ⟨b,h1,h2,h3,h4⟩
   ·exact .inl h1
   ·exact .inr ⟨b,h1,fun h=>h2 (k.nd b h),List.mem_append_left _ h3,h4⟩
  ·rcases k.src n hn with ⟨id,h1,h2⟩ | ⟨b,h1,h2,h3,h4⟩
   ·exact .inl ⟨id,h.own id h1,h2⟩
   ·exact .inr ⟨b,h.nd b h1,h2,List.mem_append_right _ h3,h4⟩
 off:=fun n hn id hi=>hn.elim (fun hn=>h.off n hn id (k.own id hi)) fun hn=>k.off n hn id hi
 roots:=fun id cS=>by
  rw[k.roots id fun r p hm=>cS r p (List.mem_append_right _ hm),dV,h.roots id fun r p hm=>cS r p (List.mem_append_left _ hm)]
  simp only[bn]
  exact (dV e.roots _ id).symm
 boxes:=fun b=>by
  rw[k.boxes b,dV,h.boxes b]
  simp only[bn]
  exact (dV e.boxes _ b).symm
 ay:=k.ay.trans h.ay
 mr:=rfl
 yJ:=fun id r p hm=>by
  rcases List.mem_append.1 hm with hm | hm
  ·exact⟨(h.yJ id r p hm).1,fun h2=>(h.yJ id r p hm).2 (k.own id h2)⟩
  ·exact⟨h.own id (k.yJ id r p hm).1,(k.yJ id r p hm).2⟩
 uu:=fun b hm=>by
  rcases List.mem_append.1 hm with hm | hm
  ·exact⟨(h.uu b hm).1,fun h2=>(h.uu b hm).2 (k.nd b h2)⟩
  ·exact⟨h.nd b (k.uu b hm).1,(k.uu b hm).2⟩ }
theorem kN.lnd{bz:St}{fr:List (Nat×Rt)}{Fs:List (Nat→Prop)}(T:kN w g st bz fr Fs):AO g w st bz [] { roots:=fr } (Any Fs):={
 own:=T.own
 live:=T.live
 dq:=T.dq
 map:=T.map
 box:=fun b=>by rw[T.eq];exact .rfl
 nd:=fun b h=>by rw[T.eq] at h;exact h
 src:=fun k ⟨F,hF,hk⟩=> .inl (T.src F hF k hk)
 off:=fun k ⟨F,hF,hk⟩=>T.off F hF k hk
 roots:=fun id _=>by rw[T.eq]
 boxes:=fun b=>by rw[T.eq];rfl
 ay:=by rw[T.eq]
 mr:=rfl
 yJ:=fun _ _ _ h=>by simp at h
 uu:=fun _ h=>by simp at h }
def gi(w:World)(g:Gh)(bz:St)(m:Am)(u:Value)(F:Nat→Prop)(bk:List Bk)(H:Nat→Prop):Prop:=
  match m with
 | .mut=>∃id r p s,bk=[.root id r p]∧au bz.roots id=some (.dq r)∧r.md = .deep∧a8 w (g.rf id) r.t r.xs (g.rv id)∧aQ r.t r.xs p=some s∧u=g.rv id p∧(∀ k,F k↔dR r.t r.xs (g.rv id) p k)∧H=g.rf id
 | .bG=>∃b,bk=[.box b]∧ ¬nd bz b∧bB bz b∧u = .pointer (some ⟨g.bx b,0,none⟩)∧H=F∧F (g.bx b)
 |_=>bk=[]∧H=F
theorem gi.keep{bz qu:St}(hl:∀id r,au bz.roots id=some (.dq r)→au qu.roots id=some (.dq r))(hn:∀b,nd qu b→nd bz b)(hb:∀b,bB bz b→bB qu b){m:Am}{u:Value}{F:Nat→Prop}{bk:List Bk}{H:Nat→Prop}
 (h:gi w g bz m u F bk H):gi w g qu m u F bk H:=by
 cases m with
 | «mut» =>obtain⟨id,r,p,s,h1,h2,h3⟩:=h;exact⟨id,r,p,s,h1,hl _ _ h2,h3⟩
 |bG=>obtain⟨b,h1,h2,h3,h4⟩:=h;exact⟨b,h1,fun h=>h2 (hn b h),hb b h3,h4⟩
 |_=>exact h
theorem Inv.Te(I:Inv w0 Mf g st a w){T:Nat}{s:Sv}{u:Value}(hs:dO w g st s u){k:Dt→List Bk→St→Dl→Option R}{r:R}(h:gh E .oh T s st k=some r):
    ∃d bk bz δ F H,k d bk bz δ=some r∧Inv w0 Mf g bz a w∧(∀ P,vp g.n.wl w P .oh d u F)∧gi w g bz .oh u F bk H∧AO g w st bz bk δ H:=by
 obtain⟨t,ht,h⟩:=aT h
 obtain⟨x,us,d,bz,fr,Gs,h,hf,I1,T,hA⟩:=I.zc h hs
 obtain⟨hd,h⟩:=bh h
 exact⟨_,_,_,_,Any Gs,Any Gs,h,I1,fun P=>⟨us,hf,by simpa using hA.row hd T.apart⟩,⟨rfl,rfl⟩,T.lnd⟩
theorem Tf{id:Nat}{ro:cC}(h:au st.roots id=some (.live ro)):∀c u,bg w g st c u→bg w g { st with roots:=bd st.roots id (.dq ro) } c u:=by
 have hv:∀aJ ver iv,cL st aJ ver iv→cL { st with roots:=bd st.roots id (.dq ro) } aJ ver iv:=by
  intro aJ ver iv hv
  by_cases cS:aJ=id
  ·subst cS
   rw[lz (.inr (bo _ _ _))]
   exact (lz (.inl h)).1 hv
  ·unfold cL at hv ⊢
   simp only[b6 _ _ cS];exact hv
 have hx:∀aJ ver iv p r',Vx { st with roots:=bd st.roots id (.dq ro) } aJ ver iv p r'→Vx st aJ ver iv p r':=by
  intro aJ ver iv p r' ⟨h1,h2,h3⟩
  simp only[aH] at h1
  by_cases cS:aJ=id
  ·subst cS
   simp only[if_true,Option.some.injEq,reduceCtorEq,Rt.dq.injEq,false_or] at h1
   subst h1;exact⟨.inl h,h2,h3⟩
  ·simp only[cS,if_false] at h1;exact⟨h1,h2,h3⟩
 exact fun c u hc=>⟨hc.1,mO.roots (st:=st) (fun b hb=>hb) hv (fun _ _ _ _ _ _ h=>hx _ _ _ _ _ h) hc.2⟩
theorem Inv.Tg(I:Inv w0 Mf g st a w){T:Nat}{s:Sv}{u:Value}(hs:dO w g st s u){k:Dt→List Bk→St→Dl→Option R}{r:R}(h:gh E .mut T s st k=some r):
    ∃d bk bz δ F H,k d bk bz δ=some r∧Inv w0 Mf g bz a w∧(∀ P,vp g.n.wl w P .mut d u F)∧gi w g bz .mut u F bk H∧AO g w st bz bk δ H:=by
 simp only[gh] at h
 split at h
 case h_2=>cases h
 rename_i id ver iv p
 obtain⟨ro,dj,h⟩:=de h
 obtain⟨zl,h⟩:=bh h
 obtain⟨s1,po,h⟩:=aT h
 obtain⟨hu,lv⟩:=hs.2.2 ro dj.x
 obtain⟨s',eK⟩:=Option.isSome_iff_exists.1 lv
 have:=cW eK
 rw[po] at this;cases this
 have cK:ro.md = .deep:=by cases hq:ro.md<;>simp_all [Md.bM]
 have sM:a8 w (g.rf id) ro.t ro.xs (g.rv id):=by have:=I.roots id ro dj.1;unfold aV at this;rw[cK] at this;exact this
 have cQ:aS st id:=⟨ro,dj.1,by rw[cK];rfl⟩
 have I1:=I.ahA dj.1
 have ho:∀aJ,aS { st with roots:=bd st.roots id (.dq ro) } aJ→aJ≠id∧aS st aJ:=fun aJ ⟨r',h1,h2⟩=>by
  simp only[aH] at h1
  by_cases cS:aJ=id
  ·simp[cS] at h1
  ·exact⟨cS,r',by simpa [cS] using h1,h2⟩
 refine⟨_,_,_,_,dR ro.t ro.xs (g.rv id) p,g.rf id,h,I1,fun P=>⟨s1.t,s1.xs,rfl,fun q=>g.rv id (p++q),by simpa using hu.symm,sM.at eK⟩,
  ⟨id,ro,p,s1,rfl,bo _ _ _,cK,sM,eK,hu,fun _=> .rfl,rfl⟩,?_⟩
 exact {
  own:=fun aJ h=>(ho aJ h).2
  live:=fun aJ r' h=>by
   simp only[aH] at h
   by_cases cS:aJ=id
   ·simp[cS] at h
   ·simpa [cS] using h
  dq:=fun aJ r' Li=>by
   simp only[aH]
   by_cases cS:aJ=id
   ·rw[cS,dj.1] at Li;cases Li
   ·simpa [cS] using Li
  map:=Tf dj.1
  box:=fun _=> .rfl
  nd:=fun _ h=>h
  src:=fun k hk=> .inl ⟨id,cQ,hk⟩
  off:=fun k hk aJ h h3=>(ho aJ h).1 (I.apart.rr aJ id k (ho aJ h).2 cQ h3 hk)
  roots:=fun aJ cS=>by
   have:aJ≠id:=fun e=>cS ro p (by rw[e];simp)
   simp only[cj]
   rw[b6 _ _ this]
  boxes:=fun _=>rfl
  ay:=rfl
  mr:=rfl
  yJ:=fun aJ r' p' hm=>by
   simp only[List.mem_singleton,Bk.root.injEq] at hm
   rw[hm.1]
   exact⟨cQ,fun h=>(ho id h).1 rfl⟩
  uu:=fun _ h=>by simp at h }
theorem zo:∀{cs:List Sc}{st:St}{qs:List (Option Ty)}{k:List Cv→Bool→St→List (Nat×Rt)→Option R}{r:R},qp st cs qs k=some r→∀c∈cs,c.kC=false
 | [],_,_,_,_,_,c,hc=>by simp at hc
 |c::cs,_,[],_,_,h,_,_=>by cases h
 |c::cs,st,q::qs,k,r,h,c',hc=>by
  simp only[Gm.qp] at h
  have:c.kC=false∧∃aF d cv u,qp aF cs qs (fun xs d' ahN u'=>k (cv::xs) (d&&d') ahN (u++u'))=some r:=by
   unfold Gm.kE at h
   split at h
   ·exact⟨rfl,_,_,_,_,h⟩
   ·exact⟨rfl,_,_,_,_,h⟩
   ·exact⟨rfl,_,_,_,_,h⟩
   ·exact⟨rfl,_,_,_,_,h⟩
   ·obtain⟨ro,_,_,h⟩:=di h
    obtain⟨_,h⟩:=bh h
    cases hf:ro.md.cr
    ·simp only[hf,cond_false] at h;exact⟨rfl,_,_,_,_,h⟩
    ·simp only[hf,cond_true] at h;exact⟨rfl,_,_,_,_,h⟩
   ·obtain⟨ro,_,_,h⟩:=di h
    obtain⟨_,h⟩:=bh h
    cases hf:ro.md.cr
    ·simp only[hf,cond_false] at h;exact⟨rfl,_,_,_,_,h⟩
    ·simp only[hf,cond_true] at h;exact⟨rfl,_,_,_,_,h⟩
   ·cases h
  obtain⟨h1,_,_,_,_,h2⟩:=this
  rcases List.mem_cons.1 hc with rfl | hc
  ·exact h1
  ·exact zo h2 c' hc
theorem zp:∀{cs:List Sc}{qs:List (Option Ty)}{cv:List Cv},Cg cs qs=some cv→∀c∈cs,c.kC=false
 | [],_,_,_,c,hc=>by simp at hc
 |_::_,[],_,h,_,_=>by cases h
 |c::cs,q::qs,cv,h,c',hc=>by
  simp only[Cg] at h
  obtain⟨x,hx,h⟩:=aT h
  obtain⟨xs,yt,h⟩:=aT h
  rcases List.mem_cons.1 hc with rfl | hc
  ·cases c'<;>first | rfl | (cases q<;>cases hx)
  ·exact zp yt c' hc
theorem mo.mono{F G:Nat→Prop}(hFG:∀k,F k→G k){cs:List Cv}{us:Array Value}(h:mo w F cs us):mo w G cs us:=by
 obtain⟨Fs,h1,h2,h3,h4⟩:=h
 exact⟨Fs,fun j k hk=>hFG k (h1 j k hk),h2,h3,h4⟩
theorem Inv.Lj(I:Inv w0 Mf g st a w){T:Nat}{s:Sv}{u:Value}(hs:dO w g st s u){k:Dt→List Bk→St→Dl→Option R}{r:R}(h:gh E .bG T s st k=some r):
    ∃d bk bz δ F H,k d bk bz δ=some r∧Inv w0 Mf g bz a w∧(∀ P,vp g.n.wl w P .bG d u F)∧gi w g bz .bG u F bk H∧AO g w st bz bk δ H:=by
 simp only[gh] at h
 split at h
 case h_2=>cases h
 rename_i b
 obtain⟨x,hx,h⟩:=aT h
 obtain⟨us,el,hb,fq⟩:=I.boxes b x hx
 have core:∃cv bz fr Gs y,k (.d x.t y) [.box b] { bz with boxes:=bd bz.boxes b ⟨x.t,x.cs.map fun _=> .dead⟩ } { boxes:=[(b,⟨x.t,x.cs.map fun _=> .dead⟩)],roots:=fr }=some r∧Inv w0 Mf g bz a w∧kN w g st bz fr Gs∧cv=enc x.t y∧
   us.size=cv.length∧vm g.n.wl (shr x.t) w (Any Gs) cv us∧∀c∈x.cs,c.kC=false:=by
  unfold SP at h
  cases mX:shr x.t
  ·rw[mX] at h
   simp only[cond_false] at h
   have h0:=h
   obtain⟨cv,d,bz,fr,Gs,h,I1,T,hA⟩:=I.qp h fq.l
   obtain⟨hd,h⟩:=bh h
   obtain⟨y,hy,oE⟩:=aT h
   have e8:=hA.row hd T.apart
   rw[Array.toArray_toList] at e8
   have:=hA.len.1
   exact⟨cv,bz,fr,Gs,y,oE,I1,T,(c8 hy),by simpa using this,e8,zo h0⟩
  ·rw[mX] at h
   simp only[cond_true] at h
   obtain⟨cv,qS,h⟩:=aT h
   obtain⟨y,hy,oE⟩:=aT h
   have hr:=vM qS fq.l
   exact⟨cv,st,[],[],y,oE,I,kN.refl _ _ _,(c8 hy),hr.1,hr,zp qS⟩
 clear h
 obtain⟨cv,bz,fr,Gs,y,oE,I1,T,qS,ac9,e8,hlv⟩:=core
 subst qS
 have hu:u = .pointer (some ⟨g.bx b,0,none⟩):=hs.2.1
 have cQ:bB st b:=by simp[bB,hx]
 have YK:bB bz b:=by rw[T.eq];exact cQ
 have tG:us.size=x.cs.length:=fq.1
 have ca:bD (fun k=>k=g.bx b) w w:=⟨Nat.le_refl _,fun _ _ _=>rfl⟩
 have G5:cJ w g bz (x.cs.map fun _=>Sc.dead) us:=⟨by simpa using tG,fun j c hj=>by
  rw[List.getElem?_map] at hj
  cases hc:x.cs[j]? with
  |none=>simp[hc] at hj
  |some c0=>
   simp only[hc,Option.map_some,Option.some.injEq] at hj
   subst hj
   obtain⟨z,hz,hr⟩:=fq.2 j c0 hc
   exact⟨z,hz,hr.1,trivial⟩⟩
 have I2:=I1.qY (t:=x.t) YK ca I1.kept hb G5
 have hlen:0<x.cs.length:=by
  rw[bl] at ac9
  have:=eW x.t
  omega
 have hgs:∀k,Any Gs k→k≠g.bx b:=fun k ⟨F,hF,hk⟩ e=>by
  obtain⟨id,h1,h2⟩:=T.src F hF k hk
  exact I.apart.rb id b h1 cQ (e▸h2)
 have Eu : ¬nd { bz with boxes:=bd bz.boxes b ⟨x.t,x.cs.map fun _=> .dead⟩ } b:=by
  rintro⟨x',oi,c,hc,hcd⟩
  simp only[bo,Option.some.injEq] at oi
  subst oi
  simp only[List.mem_map] at hc
  obtain⟨_,_,rfl⟩:=hc
  cases hcd
 have pO:∀b',bB { bz with boxes:=bd bz.boxes b ⟨x.t,x.cs.map fun _=> .dead⟩ } b'↔bB st b':=fun b'=>by
  have e:bz.boxes=st.boxes:=by rw[T.eq]
  simp only[bB,aH,e]
  by_cases Tj:b'=b
  ·subst Tj;simpa [bB] using cQ
  ·simp[Tj]
 have L:=T.lnd
 refine⟨_,_,_,_,fun k=>k=g.bx b∨Any Gs k,fun k=>k=g.bx b∨Any Gs k,oE,I2,fun P=>⟨g.bx b,us,el,hu,.inl rfl,hb,?_⟩,⟨b,rfl,Eu,(pO b).2 cQ,hu,rfl,.inl rfl⟩,?_⟩
 ·revert e8
  cases shr x.t
  ·exact fun e8=>mo.mono (fun k hk=>⟨.inr hk,hgs k hk⟩) e8
  ·exact fun e8=>e8
 ·exact {
   own:=T.own
   live:=T.live
   dq:=T.dq
   map:=fun c u hc=>by
    have:=T.map c u hc
    exact⟨this.1,mO.roots (st:=bz) (fun b' fI=>by
     simp only[aH];split
     ·rfl
     ·exact fI) (fun _ _ _ h=>h) (fun _ _ _ _ _ _ h=>h) this.2⟩
   box:=pO
   nd:=fun b' fI=>by
    by_cases e:b'=b
    ·subst e;exact (Eu fI).elim
    ·obtain⟨x',oi,hh⟩:=fI
     simp only[aH,e,if_false] at oi
     rw[T.eq] at oi
     exact⟨x',oi,hh⟩
   src:=fun k hk=>by
    rcases hk with rfl | hk
    ·exact .inr ⟨b,⟨x,hx,x.cs[0],List.getElem_mem hlen,hlv _ (List.getElem_mem hlen)⟩,Eu,by simp,rfl⟩
    ·rcases L.src k hk with h1 | ⟨_,_,_,h3,_⟩
     ·exact .inl h1
     ·simp at h3
   off:=fun k hk id hi h3=>by
    rcases hk with rfl | hk
    ·exact I.apart.rb id b (T.own id hi) cQ h3
    ·exact L.off k hk id hi h3
   roots:=fun id _=>by simp only;rw[T.eq]
   boxes:=fun b'=>by simp only[cj];rw[T.eq]
   ay:=by simp only;rw[T.eq]
   mr:=rfl
   yJ:=fun _ _ _ h=>by simp at h
   uu:=fun b' hm=>by
    simp only[List.mem_singleton,Bk.box.injEq] at hm
    subst hm
    exact⟨⟨x,hx,x.cs[0],List.getElem_mem hlen,hlv _ (List.getElem_mem hlen)⟩,Eu⟩ }
inductive mw (w:World) (g:Gh) (bz:St):List Am→List Value→List (Nat→Prop)→List Bk→List (Nat→Prop)→Prop where
 | nil:mw w g bz [] [] [] [] []
 | cons {m ms u us F Fs b bs H Hs} (h:gi w g bz m u F b H) (hs:mw w g bz ms us Fs bs Hs):mw w g bz (m::ms) (u::us) (F::Fs) (b++bs) (H::Hs)
theorem mw.keep{bz qu:St}(hl:∀id r,au bz.roots id=some (.dq r)→au qu.roots id=some (.dq r))(hn:∀b,nd qu b→nd bz b)(hb:∀b,bB bz b→bB qu b){ms:List Am}{us:List Value}{Fs:List (Nat→Prop)}{bs:List Bk}
    {Hs:List (Nat→Prop)} (h:mw w g bz ms us Fs bs Hs):mw w g qu ms us Fs bs Hs:=by
 induction h with
 |nil=>exact .nil
 |cons h hs ih=>exact .cons (h.keep hl hn hb) ih
theorem gi.sub{bz:St}{m:Am}{u:Value}{F:Nat→Prop}{bk:List Bk}{H:Nat→Prop}(h:gi w g bz m u F bk H):∀k,F k→H k:=by
 intro k hk
 cases m with
 | «mut» =>obtain⟨id,r,p,s,h1,h2,h3,h4,h5,h6,h7,rfl⟩:=h;exact h4.jj ((h7 k).1 hk)
 |bG=>obtain⟨b,h1,h2,h3,h4,rfl,_⟩:=h;exact hk
 |_=>obtain⟨_,rfl⟩:=h;exact hk
def Bk.key:Bk→Bool×Nat | .root id _ _=>(true,id) | .box b=>(false,b)
def ArgRel(w:World)(g:Gh)(st:St):List (Am×Nat×Sv)→List Value→Prop
  | [],[]=>True
  | (_,_,s)::l,u::us=>dO w g st s u∧ArgRel w g st l us
  |_,_=>False
theorem ArgRel.map{bz:St}(hm:∀c u,bg w g st c u→bg w g bz c u):∀{l:List (Am×Nat×Sv)}{us:List Value},ArgRel w g st l us→ArgRel w g bz l us
  | [],[],_=>trivial
  | [],_::_,h=>h.elim
  |_::_,[],h=>h.elim
  | (_,_,_)::_,_::_,h=>⟨h.1.map hm,ArgRel.map hm h.2⟩
theorem Inv.dH:∀{l:List (Am×Nat×Sv)}{us:List Value}{st:St}{k:List Dt→List Bk→St→Dl→Option R}{r:R},Inv w0 Mf g st a w→ArgRel w g st l us→dH E l st k=some r→
    ∃bz,Inv w0 Mf g bz a w∧∀Pr,(∀ x∈l,x.1.reads=true→RdP g bz Pr x.2.2)→∃ds bs d Fs Hs,k ds bs bz d=some r∧cP g.n.wl w Pr (l.map (·.1)) ds us Fs∧mw w g bz (l.map (·.1)) us Fs bs Hs∧AO g w st bz bs d (Any Hs)∧bS Hs∧bs.Pairwise fun b c=>b.key≠c.key
  | [],us,st,k,r,I,hu,h=>by
    cases us with
    |cons u us=>exact hu.elim
    |nil=>
      refine⟨st,I,fun Pr _=>⟨[],[],{},[],[],h,.nil,.nil,?_,List.Pairwise.nil,List.Pairwise.nil⟩⟩
      have:(fun _=>False:Nat→Prop)=Any []:=by funext k;exact propext ⟨fun h=>h.elim,S4⟩
      rw[← this];exact AO.refl
  | (m,T,s)::l,us,st,k,r,I,hu,h=>by
    cases us with
    |nil=>exact hu.elim
    |cons u us=>
      simp only[Gm.dH] at h
      split at h
      · rename_i hm
        obtain⟨bz,I1,hh⟩:=Inv.dH I hu.2 h
        refine⟨bz,I1,fun Pr hP=> ?_⟩
        obtain⟨ds,bs,d,Fs,Hs,h1,h2,h3,h4,h5,ob⟩:=hh Pr fun x hx=>hP x (by simp[hx])
        obtain⟨x,h6,h7⟩:=I1.YJ hm (hu.1.map h4.map) h1 (hP (m,T,s) (by simp) hm)
        have CA:gi w g bz m u (fun _=>False) [] (fun _=>False):=by cases m<;>first | exact⟨rfl,rfl⟩ | cases hm
        refine⟨_,bs,d,(fun _=>False)::Fs,(fun _=>False)::Hs,h6,.cons (h7 _) h2,by simpa using mw.cons CA h3,?_,List.pairwise_cons.2 ⟨fun _ _ _ h=>h.elim,h5⟩,ob⟩
        have:Any ((fun _=>False)::Hs)=Any Hs:=by
          funext k
          refine propext ⟨fun ⟨F,hF,hk⟩=> ?_,fun ⟨F,hF,hk⟩=>⟨F,List.mem_cons_of_mem _ hF,hk⟩⟩
          rcases List.mem_cons.1 hF with rfl | hF
          · exact hk.elim
          · exact⟨F,hF,hk⟩
        rw[this];exact h4
      · rename_i hm
        have key:∃d bk bz δ F H,(Gm.dH E l bz fun xs bs qu d'=>k (d::xs) (bk++bs) qu { boxes:=δ.boxes++d'.boxes,roots:=δ.roots++d'.roots })=some r∧Inv w0 Mf g bz a w∧(∀ P,vp g.n.wl w P m d u F)∧gi w g bz m u F bk H∧AO g w st bz bk δ H:=by
          cases m with
          |oh=>exact I.Te hu.1 h
          | «mut» =>exact I.Tg hu.1 h
          |bG=>exact I.Lj hu.1 h
          |ro=>cases hm
          |D'=>cases hm
          |fn=>cases hm
          |SO=>cases hm
          |kp=>cases hm
        obtain⟨x,bk,s1,δ,F,H,h1,I1,hA,hH,L1⟩:=key
        obtain⟨bz,I2,hh⟩:=Inv.dH I1 (hu.2.map L1.map) h1
        refine⟨bz,I2,fun Pr hP=> ?_⟩
        obtain⟨ds,bs,d,Fs,Hs,h2,h3,h4,h5,h6,ob⟩:=hh Pr fun x hx=>hP x (by simp[hx])
        refine⟨_,_,_,F::Fs,H::Hs,h2,.cons (hA _) h3,.cons (hH.keep h5.dq h5.nd fun b hb=>(h5.box b).2 hb) h4,?_,List.pairwise_cons.2 ⟨fun G hG n h7 h8=> ?_,h6⟩,List.pairwise_append.2 ⟨?_,ob,fun b hb c hc=> ?_⟩⟩
        · have:Any (H::Hs)=fun n=>H n∨Any Hs n:=by
            funext n
            refine propext ⟨fun ⟨F,hF,hk⟩=> ?_,fun h=> ?_⟩
            · rcases List.mem_cons.1 hF with rfl | hF
              · exact .inl hk
              · exact .inr ⟨F,hF,hk⟩
            · rcases h with h | ⟨F,hF,hk⟩
              · exact⟨H,by simp,h⟩
              · exact⟨F,by simp[hF],hk⟩
          rw[this];exact L1.trans h5
        · rcases h5.src n ⟨G,hG,h8⟩ with ⟨id,h9,KJ⟩ | ⟨b,h9,_,_,KJ⟩
          · exact L1.off n h7 id h9 KJ
          · have hb:=(L1.nd b h9).at
            rcases L1.src n h7 with ⟨id,Ll,h12⟩ | ⟨b',Ll,h12,_,h13⟩
            · exact I.apart.rb id b Ll hb (KJ▸h12)
            · have:=I.apart.bb b b' hb Ll.at (by rw[KJ,h13])
              subst this
              exact h12 h9
        · cases m with
          | «mut» =>obtain⟨id,r,p,s,rfl,_⟩:=hH;exact List.pairwise_singleton _ _
          |bG=>obtain⟨b,rfl,_⟩:=hH;exact List.pairwise_singleton _ _
          |_=>obtain⟨rfl,_⟩:=hH;exact List.Pairwise.nil
        · cases b<;>cases c<;>simp only[Bk.key,ne_eq,Prod.mk.injEq,Bool.true_eq_false,Bool.false_eq_true,false_and,not_false_eq_true,true_and]
          · rename_i id r p aJ r' p'
            intro e;subst e
            exact (L1.yJ _ _ _ hb).2 (h5.yJ _ _ _ hc).1
          · rename_i b b'
            intro e;subst e
            exact (L1.uu _ hb).2 (h5.uu _ hc).1
theorem EL{id:Nat}{t:Ty}{md:Md}{xs:List (El t)}{k:cC→Option R}{r:R}(h:mkRoot st id t md xs k=some r):
    ∃ver,dF st id ⟨t,md,ver,[],xs⟩∧k ⟨t,md,ver,[],xs⟩=some r∧∀ro,au st.roots id≠some (.live ro)∧au st.roots id≠some (.dq ro):=by
 unfold mkRoot at h
 split at h
 ·rename_i hn;exact⟨0,by unfold dF;rw[hn];trivial,h,fun ro=>by rw[hn];simp⟩
 ·rename_i v hn;exact⟨v+1,by unfold dF;rw[hn];simp,h,fun ro=>by rw[hn];simp⟩
 ·cases h
def EM(w:World):List Cv→List Value→List (Nat→Prop)→Prop
 | [],[],[]=>True
 |c::cs,u::us,F::Fs=>gX w F c u∧EM w cs us Fs
 |_,_,_=>False
theorem EM.of:∀{cs:List Cv}{us:List Value}{Fs:Nat→Nat→Prop},us.length=cs.length→(∀(j:Nat) c,cs[j]? =some c→∃z,us[j]? =some z∧gX w (Fs j) c z)→EM w cs us ((List.range cs.length).map Fs)
 | [],[],_,_,_=>trivial
 | [],_::_,_,h,_=>by simp at h
 |_::_,[],_,h,_=>by simp at h
 |c::cs,u::us,Fs,h,hr=>by
  rw[List.length_cons,List.range_succ_eq_map,List.map_cons,List.map_map]
  refine⟨?_,EM.of (Fs:=Fs∘Nat.succ) (by simpa using h) fun j c' hj=>by simpa using hr (j+1) c' (by simpa using hj)⟩
  obtain⟨z,hz,hc⟩:=hr 0 c rfl
  simp only[List.getElem?_cons_zero,Option.some.injEq] at hz;subst hz;exact hc
theorem mo.list{F:Nat→Prop}{cs:List Cv}{us:Array Value}(h:mo w F cs us):∃Gs,EM w cs us.toList Gs∧bS Gs∧∀G∈Gs,∀k,G k→F k:=by
 obtain⟨Fs,h1,h2,h3,h4⟩:=h
 refine⟨_,EM.of (Fs:=Fs) (by simpa using h3) (fun j c hj=>by simpa using h4 j c hj),?_,fun G hG k hk=> ?_⟩
 ·unfold bS
  rw[List.pairwise_map]
  refine List.pairwise_lt_range.imp fun {i j} zq k hi hj=> ?_
  have:=h2 i j k hi hj
  omega
 ·simp only[List.mem_map] at hG
  obtain⟨j,_,rfl⟩:=hG
  exact h1 j k hk
structure Grow (w:World) (g:Gh) (st:St) (g':Gh) (aF:St) (u:List (Nat×Rt)) (F:Nat→Prop):Prop where
 n:g'.n=g.n
 ro:g'.ro=g.ro
 bx:g'.bx=g.bx
 eq:aF={ st with roots:=cj st.roots u }
 live:∀id r,au st.roots id=some (.live r)→au aF.roots id=some (.live r)∧g'.rf id=g.rf id∧g'.rv id=g.rv id
 dq:∀id r,au st.roots id=some (.dq r)→au aF.roots id=some (.dq r)∧g'.rf id=g.rf id∧g'.rv id=g.rv id
 own:∀id,aS aF id→(aS st id∧g'.rf id=g.rf id)∨∀k,g'.rf id k→F k
 map:∀c v,bg w g st c v→bg w g' aF c v
theorem Grow.refl(F:Nat→Prop):Grow w g st g st [] F:=⟨rfl,rfl,rfl,rfl,fun _ _ h=>⟨h,rfl,rfl⟩,fun _ _ h=>⟨h,rfl,rfl⟩,fun _ h=> .inl ⟨h,rfl⟩,fun _ _ h=>h⟩
theorem Grow.trans{g1 g2:Gh}{s1 s2:St}{u v:List (Nat×Rt)}{F G H:Nat→Prop}(h:Grow w g st g1 s1 u F)(k:Grow w g1 s1 g2 s2 v G)(hF:∀n,F n→H n)(hG:∀n,G n→H n):Grow w g st g2 s2 (u++v) H:={
 n:=k.n.trans h.n
 ro:=k.ro.trans h.ro
 bx:=k.bx.trans h.bx
 eq:=by rw[k.eq,h.eq,bn]
 live:=fun id r hr=>by
  obtain⟨h1,h2,h3⟩:=h.live id r hr
  obtain⟨h4,h5,h6⟩:=k.live id r h1
  exact⟨h4,h5.trans h2,h6.trans h3⟩
 dq:=fun id r hr=>by
  obtain⟨h1,h2,h3⟩:=h.dq id r hr
  obtain⟨h4,h5,h6⟩:=k.dq id r h1
  exact⟨h4,h5.trans h2,h6.trans h3⟩
 own:=fun id hi=>by
  rcases k.own id hi with ⟨h1,h2⟩ | h1
  ·rcases h.own id h1 with ⟨h3,h4⟩ | h3
   ·exact .inl ⟨h3,h2.trans h4⟩
   ·exact .inr fun n hn=>hF n (h3 n (by rw[← h2];exact hn))
  ·exact .inr fun n hn=>hG n (h1 n hn)
 map:=fun c v hc=>k.map c v (h.map c v hc) }
theorem jB.flat{F:Nat→Prop}{t:Ty}{xs:List (El t)}{u:Value}(h:jB w F t xs u):cR u=true:=by
 obtain⟨av,h0,h1⟩:=h
 rcases h1.1 [] _ rfl with ⟨_,e⟩ | ⟨b,o,cap,cs,el,e,_⟩<;> · rw[h0] at e;subst e;rfl
theorem Inv.Lm(I:Inv w0 Mf g st a w){id:Nat}{t:Ty}{xs:List (El t)}{ver:Nat}(da:dF st id ⟨t,.deep,ver,[],xs⟩)(jA:∀ro,au st.roots id≠some (.live ro)∧au st.roots id≠some (.dq ro))
    {F:Nat→Prop} {u:Value} (h:jB w F t xs u) (hF:∀k,F k→fY w0 Mf g st k∧k<w.heap.size):
    ∃g',Inv w0 Mf g' { st with roots:=bd st.roots id (.live ⟨t,.deep,ver,[],xs⟩) } a w∧Grow w g st g' { st with roots:=bd st.roots id (.live ⟨t,.deep,ver,[],xs⟩) } [(id,.live ⟨t,.deep,ver,[],xs⟩)] F∧
      bg w g' { st with roots:=bd st.roots id (.live ⟨t,.deep,ver,[],xs⟩) } (.h id ver 0 []) u:=by
 obtain⟨av,h0,h1⟩:=h
 have I1:=I.b7 (id:=id) (r:=⟨t,.deep,ver,[],xs⟩) da (av:=av) (F:=F) (by unfold aV;simp only[Gh.b7,if_true];exact h1)
  (fun k hk=>⟨fun aJ h2 _=>(hF k hk).1.r aJ h2,(hF k hk).1.ro,(hF k hk).1.b,(hF k hk).1.ib,(hF k hk).2⟩)
 refine⟨_,I1,⟨rfl,rfl,rfl,rfl,fun aJ r h2=> ?_,fun aJ r h2=> ?_,fun aJ ⟨r',h2,h3⟩=> ?_,fun c v hc=>⟨hc.1,hc.2.b7 da⟩⟩,jB.flat ⟨av,h0,h1⟩,?_,fun r' j6=> ?_⟩
 ·have:aJ≠id:=fun e=>(jA r).1 (e▸h2)
  simp only[b6 _ _ this,Gh.b7,this,if_false]
  exact⟨h2,trivial,trivial⟩
 ·have:aJ≠id:=fun e=>(jA r).2 (e▸h2)
  simp only[b6 _ _ this,Gh.b7,this,if_false]
  exact⟨h2,trivial,trivial⟩
 ·by_cases e:aJ=id
  ·subst e;exact .inr fun k hk=>by simpa [Gh.b7] using hk
  ·simp only[b6 _ _ e] at h2
   exact .inl ⟨⟨r',h2,h3⟩,by simp[Gh.b7,e]⟩
 ·unfold cL;simp only[bo];exact .inr ⟨trivial,Nat.zero_le _⟩
 ·have:=j6.is (bo _ _ _)
  subst this
  exact⟨by simp only[Gh.b7,if_true];exact h0.symm,rfl⟩
theorem Inv.vO:∀{cs:List Cv}{us:List Value}{Fs:List (Nat→Prop)}{g:Gh}{st:St}{id:Nat}{k:List Sc→Nat→St→List (Nat×Rt)→Option R}{r:R},Inv w0 Mf g st a w→EM w cs us Fs→(∀ x,.v x∈cs→cR x=true)→bS Fs→
 (∀ F∈Fs,∀n,F n→fY w0 Mf g st n∧n<w.heap.size)→vk true st id cs k=some r→
    ∃ss m g' aF u,k ss m aF u=some r∧Inv w0 Mf g' aF a w∧Grow w g st g' aF u (Any Fs)∧mT w g' aF ss us
 | [],us,Fs,g,st,id,k,r,I,hO,pN,hp,hF,h=>by
  cases us<;>cases Fs<;>first | exact hO.elim | skip
  exact⟨[],id,g,st,[],h,I,Grow.refl _,trivial⟩
 | .v x::cs,us,Fs,g,st,id,k,r,I,hO,pN,hp,hF,h=>by
  cases us with
  |nil=>cases Fs<;>exact hO.elim
  |cons u us=>
   cases Fs with
   |nil=>exact hO.elim
   |cons F Fs=>
    obtain⟨ss,m,g',aF,v,h1,h2,h3,h4⟩:=Inv.vO (id:=id) I hO.2 (fun x hx=>pN x (by simp[hx])) (List.pairwise_cons.1 hp).2 (fun G hG=>hF G (by simp[hG])) h
    have hu:u=x:=hO.1
    subst hu
    refine⟨_,m,g',aF,v,h1,h2,?_,⟨⟨pN u (by simp),rfl⟩,h4⟩⟩
    exact { h3 with own:=fun id hi=>(h3.own id hi).imp (fun h=>h) fun h n hn=>let ⟨G,hG,hk⟩:=h n hn;⟨G,by simp[hG],hk⟩ }
 | .l t xs::cs,us,Fs,g,st,id,k,r,I,hO,pN,hp,hF,h=>by
  cases us with
  |nil=>cases Fs<;>exact hO.elim
  |cons u us=>
   cases Fs with
   |nil=>exact hO.elim
   |cons F Fs=>
    simp only[vk] at h
    replace h:=(W4 h).2
    simp only[cond_true] at h
    obtain⟨ver,da,h,jA⟩:=EL h
    obtain⟨g1,I1,G1,G4⟩:=I.Lm da jA hO.1 (hF F (by simp))
    obtain⟨uX,tL⟩:=List.pairwise_cons.1 hp
    obtain⟨ss,m,g',aF,v,h1,h2,h3,h4⟩:=Inv.vO (id:=id+1) I1 hO.2 (fun x hx=>pN x (by simp[hx])) tL (fun G hG n hn=>by
     obtain⟨hf,bU⟩:=hF G (by simp[hG]) n hn
     refine⟨⟨fun aJ hi h5=> ?_,by rw[G1.ro];exact hf.ro,fun b hb=>by rw[G1.bx];exact hf.b b hb,hf.ib⟩,bU⟩
     rcases G1.own aJ hi with ⟨h6,h7⟩ | h6
     ·rw[h7] at h5;exact hf.r aJ h6 h5
     ·exact uX G hG n (h6 n h5) hn) h
    refine⟨_,m,g',aF,_,h1,h2,?_,⟨h3.map _ _ G4,h4⟩⟩
    exact G1.trans h3 (fun n hn=>⟨F,by simp,hn⟩) (fun n ⟨G,hG,hn⟩=>⟨G,by simp[hG],hn⟩)
theorem Inv.vl(I:Inv w0 Mf g st a w){F:Nat→Prop}{t:Ty}{cs:List Cv}{us:Array Value}(e8:vm g.n.wl (shr t) w F cs us)(pN:∀x,.v x∈cs→cR x=true)(hF:∀n,F n→fY w0 Mf g st n∧n<w.heap.size)
    {id:Nat} {k:List Sc→Nat→St→List (Nat×Rt)→Option R} {r:R} (h:vl true st id t cs k=some r):
    ∃ss m g' aF u,k ss m aF u=some r∧Inv w0 Mf g' aF a w∧Grow w g st g' aF u F∧mT w g' aF ss us.toList:=by
 unfold Gm.vl at h
 cases mX:shr t
 ·rw[mX] at h e8
  simp only[cond_false] at h
  obtain⟨Gs,hO,hp,eC⟩:=mo.list e8
  obtain⟨ss,m,g',bz,u,h1,I1,G1,hc⟩:=Inv.vO I hO pN hp (fun G hG n hn=>hF n (eC G hG n hn)) h
  exact⟨ss,m,g',bz,u,h1,I1,{ G1 with own:=fun id hi=>(G1.own id hi).imp (fun h=>h) fun h n hn=>let ⟨G,hG,hk⟩:=h n hn;eC G hG n hk },hc⟩
 ·rw[mX] at h e8
  simp only[cond_true] at h
  exact⟨_,_,g,st,_,h,I,Grow.refl _,(vN e8 pN).l⟩
end Go.Gm
namespace Go.Gm
open Go
variable {wl : World} {R : Type} {P : Program} {E : Env} {w0 w w' : World} {Mf : Nat → Prop} {g : Gh} {st : St} {a : Act} {Q : Exit → Act → World → Prop}
  {o:Oper} {k:Dl→Option R} {r:R} {K:Act→World→Prop}
theorem Inv.called(I:Inv w0 Mf g st a w){X:Nat→Prop}(hs:bD X w w')(dj:∀k,g.ro k→ ¬X k)(n7:∀id k,aS st id→g.rf id k→ ¬X k)
 (AA:∀b x,au st.boxes b=some x→ ¬X (g.bx b)∨(¬ nd st b∧∃us el,w'.heap[g.bx b]? =some (.cells us el (0,0))∧us.size=x.cs.length∧∀(j:Nat) v,us[j]? =some v→cR v=true)) (hk:Kept w0 w' Mf):Inv w0 Mf g st a w':={
 ay:=fun s sv h=>let ⟨u,hu,hr⟩:=I.ay s sv h;⟨u,hu,hr.map fun c u hc=>⟨hc.1,hc.2.world hs dj⟩⟩
 boxes:=fun b x h=>by
  rcases AA b x h with hb | ⟨hn,us,el,h1,h2,h3⟩
  ·obtain⟨us,el,h1,h2⟩:=I.boxes b x h
   exact⟨us,el,hs.get h1 hb,h2.map fun c u hc=>⟨hc.1,hc.2.world hs dj⟩⟩
  ·refine⟨us,el,h1,h2,fun j c hj=> ?_⟩
   have hd:c.kC=true:=by
    cases hc:c.kC
    ·exact (hn ⟨x,h,c,List.mem_of_getElem? hj,hc⟩).elim
    ·rfl
   have bU:j<us.size:=by rw[h2];exact mY hj
   refine⟨us[j],Array.getElem?_eq_getElem bU,h3 j _ (Array.getElem?_eq_getElem bU),?_⟩
   cases c<;>first | trivial | cases hd
 roots:=fun id r h=>by
  have hr:=I.roots id r h
  unfold aV at hr ⊢
  split at hr
  ·rename_i hm;exact hr.same hs (n7 id · ⟨r,h,by rw[hm];rfl⟩)
  ·rename_i hm;exact hr.same hs (n7 id · ⟨r,h,by rw[hm];rfl⟩) dj
  ·exact hr.same hs dj
  ·rename_i hm;exact hr.same hs (n7 id · ⟨r,h,by rw[hm];rfl⟩)
 apart:={ I.apart with
  ew:=fun id k h1 h2=>Nat.lt_of_lt_of_le (I.apart.ew id k h1 h2) hs.1
  db:=fun k h=>Nat.lt_of_lt_of_le (I.apart.db k h) hs.1
  bY:=I.apart.bY }
 kept:=hk
 defers:=I.defers
 size:=I.size
 base:=⟨I.base.wl,I.base.ap,I.base.ro⟩ }
structure CB (w0:World) (Mf:Nat→Prop) (g:Gh) (st:St) (bs:List Bk) (n:Nat):Prop where
 r:∀id,aS st id→ ¬g.rf id n
 ro : ¬g.ro n
 b:∀b,bB st b→g.bx b=n→ .box b∈bs
 ib:w0.heap.size≤n∨Mf n
def lB(X:Nat→Prop):List (Nat→Prop)→List (Nat→Prop)→Prop
 | [],[]=>True
 |F::Fs,H::Hs=>(∀ k,X k→H k→F k)∧lB X Fs Hs
 |_,_=>False
structure ri (w':World) (g:Gh) (st:St) (g':Gh) (aF:St) (bs:List Bk) (d:Dl) (F:Nat→Prop):Prop where
 n:g'.n=g.n
 ro:g'.ro=g.ro
 bx:g'.bx=g.bx
 ay:aF.ay=st.ay
 roots:aF.roots=cj st.roots d.roots
 boxes:aF.boxes=cj st.boxes d.boxes
 mr:d.slot=none
 live:∀id r,au st.roots id=some (.live r)→au aF.roots id=some (.live r)∧g'.rf id=g.rf id∧g'.rv id=g.rv id
 own:∀id,aS aF id→(aS st id∧g'.rf id=g.rf id)∨∀k,g'.rf id k→F k
 box:∀b,bB aF b↔bB st b
 key:∀id r p,.root id r p∈bs→(au (cj [] d.roots) id).isSome
 map:∀c v,bg w' g st c v→bg w' g' aF c v
theorem EN{α:Type}{L M:List (Nat×α)}{n:Nat}(h:(au (cj [] L) n).isSome∨(au (cj [] M) n).isSome):(au (cj [] (L++M)) n).isSome:=by
 rw[bn,dV]
 cases hm:au (cj [] M) n with
 |some x=>simp
 |none=>simpa [hm] using h
theorem mw.box{ms:List Am}{us:List Value}{Fs:List (Nat→Prop)}{bs:List Bk}{Hs:List (Nat→Prop)}(h:mw w g st ms us Fs bs Hs){ins:List Dt}{outs:List Dt}{Bs:List (Nat→Prop)}(hb:ey wl w' ms ins us outs Bs)
    {b:Nat} (hm : .box b∈bs):(∃ B∈Bs,B (g.bx b))∧∃H∈Hs,H (g.bx b):=by
 induction h generalizing ins outs Bs with
 |nil=>simp at hm
 |cons h hs ih=>
  rename_i m ms u us F Fs bk bs H Hs
  cases m with
  | «mut» =>
   obtain⟨id,r,p,s,rfl,_⟩:=h
   cases hb with
   |skip h1 h2=>exact h1.elim
   | «mut» h1 h2=>
    have GM:Bk.box b∈bs:=by simpa using hm
    obtain⟨⟨B,h3,h4⟩,H',h5,h6⟩:=ih h2 GM
    exact⟨⟨B,by simp[h3],h4⟩,H',by simp[h5],h6⟩
  |bG=>
   obtain⟨b',rfl,_,_,hu,rfl,hF⟩:=h
   cases hb with
   |skip h1 h2=>exact h1.elim
   |bG h1 ht h2=>
    rcases List.mem_append.1 hm with hm | hm
    ·simp only[List.mem_singleton,Bk.box.injEq] at hm
     subst hm
     obtain⟨b0,us',el,e,hB,_⟩:=h1
     rw[hu] at e
     simp only[Value.pointer.injEq,Option.some.injEq,Addr.mk.injEq,and_true] at e
     rw[← e] at hB
     exact⟨⟨_,by simp,hB⟩,_,by simp,hF⟩
    ·obtain⟨⟨B,h3,h4⟩,H',h5,h6⟩:=ih h2 hm
     exact⟨⟨B,by simp[h3],h4⟩,H',by simp[h5],h6⟩
  |_=>
   obtain⟨rfl,_⟩:=h
   cases hb with
   |skip h1 h2=>
    obtain⟨h3,H',h5,h6⟩:=ih h2 (by simpa using hm)
    exact⟨h3,H',by simp[h5],h6⟩
theorem gi.move{g':Gh}{aF:St}{m:Am}{u:Value}{F:Nat→Prop}{bk:List Bk}{H:Nat→Prop}(h:gi w g st m u F bk H)
 (hl:∀id r p,.root id r p∈bk→au st.roots id=some (.dq r)→au aF.roots id=some (.dq r)∧g'.rf id=g.rf id∧g'.rv id=g.rv id)
 (hb:∀b,.box b∈bk→(¬ nd st b→ ¬nd aF b)∧(bB st b→bB aF b)) (hx:g'.bx=g.bx):gi w g' aF m u F bk H:=by
 cases m with
 | «mut» =>
  obtain⟨id,r,p,s,rfl,h1,h2,h3,h4,h5,h6,rfl⟩:=h
  obtain⟨e1,e2,e3⟩:=hl id r p (by simp) h1
  exact⟨id,r,p,s,rfl,e1,h2,by rw[e2,e3];exact h3,h4,by rw[e3];exact h5,by rw[e3];exact h6,e2.symm⟩
 |bG=>
  obtain⟨b,rfl,h1,h2,h3,h4⟩:=h
  obtain⟨e1,e2⟩:=hb b (by simp)
  exact⟨b,rfl,e1 h1,e2 h2,by rw[hx];exact h3,by rw[hx];exact h4⟩
 |_=>exact h
theorem mw.move{g':Gh}{aF:St}{ms:List Am}{us:List Value}{Fs:List (Nat→Prop)}{bs:List Bk}{Hs:List (Nat→Prop)}(h:mw w g st ms us Fs bs Hs)
 (hl:∀id r p,.root id r p∈bs→au st.roots id=some (.dq r)→au aF.roots id=some (.dq r)∧g'.rf id=g.rf id∧g'.rv id=g.rv id)
 (hb:∀b,.box b∈bs→(¬ nd st b→ ¬nd aF b)∧(bB st b→bB aF b)) (hx:g'.bx=g.bx):mw w g' aF ms us Fs bs Hs:=by
 induction h with
 |nil=>exact .nil
 |cons h hs ih=>
  exact .cons (h.move (fun id r p hm=>hl id r p (List.mem_append_left _ hm)) (fun b hm=>hb b (List.mem_append_left _ hm)) hx)
   (ih (fun id r p hm=>hl id r p (List.mem_append_right _ hm)) (fun b hm=>hb b (List.mem_append_right _ hm)))
end Go.Gm
namespace Go.Gm
open Go
variable {R : Type} {P : Program} {E : Env} {w0 w w' : World} {Mf : Nat → Prop} {g : Gh} {st : St} {a : Act}
theorem I5{F G:Nat→Prop}{t t':Ty}{xs:List (El t)}{ys:List (El t')}{u:Value}{fH EB:Nat→Nat→Value}(h:bA w F t xs u fH)(h':bA w' G t' ys u EB):ys.length=xs.length:=by
 rcases h with ⟨rfl,rfl⟩ | ⟨b,o,cap,cs,el,rfl,_⟩<;>rcases h' with ⟨rfl,e⟩ | ⟨b',o',iE,sK,pM,e,_⟩
 ·rfl
 ·cases e
 ·cases e
 ·simp only[Value.slice.injEq] at e;exact e.2.1.symm
theorem Inv.Ln(I:Inv w0 Mf g st a w'){X:Nat→Prop}(ca:bD X w w'){id:Nat}{ro:cC}{p:Path}{s:Sl}(cQ:au st.roots id=some (.dq ro))(cK:ro.md = .deep)(sM:a8 w (g.rf id) ro.t ro.xs (g.rv id))
 (hs:aQ ro.t ro.xs p=some s) {F:Nat→Prop} (hF:∀k,F k↔dR ro.t ro.xs (g.rv id) p k) (hX:∀k,X k→g.rf id k→F k) {t:Ty} {ys:List (El t)} {B:Nat→Prop} (ez:jB w' B t ys (g.rv id p))
 (hB:∀k,B k→(X k∨w.heap.size≤k)∧k<w'.heap.size) (hH:∀k,g.rf id k→k<w.heap.size) (cM:∀k,B k∨(g.rf id k∧ ¬F k)→fY w0 Mf g st k) {zs:List (El ro.t)} (hz:dz ro.t ro.xs p ⟨t,ys⟩=some zs):
    ∃g':Gh,g'.n=g.n∧g'.ro=g.ro∧g'.bx=g.bx∧(∀ aJ,aJ≠id→g'.rf aJ=g.rf aJ∧g'.rv aJ=g.rv aJ)∧(∀ k,g'.rf id k→B k∨(g.rf id k∧ ¬F k))∧
      Inv w0 Mf g' { st with roots:=bd st.roots id (.live ⟨ro.t,ro.md,ro.ver,ro.log++[p.length],zs⟩) } a w'∧
      ∀c v,bg w' g st c v→bg w' g' { st with roots:=bd st.roots id (.live ⟨ro.t,ro.md,ro.ver,ro.log++[p.length],zs⟩) } c v:=by
 obtain⟨Ed,h0,jA⟩:=ez
 have hXb:∀k,X k→ ¬kB ro.t ro.xs (g.rv id) p k:=fun k hx hb=>sM.eD ((hF k).1 (hX k hx (sM.kf hb))) hb
 have hBb:∀k,B k→ ¬kB ro.t ro.xs (g.rv id) p k:=fun k hk hb=>by
  rcases (hB k hk).1 with h | h
  ·exact hXb k h hb
  ·have:=hH k (sM.kf hb);omega
 obtain⟨pW,h1,_,h3⟩:=sM.Ld hs hz ca hXb jA h0 hBb
 have hlen:ys.length=s.xs.length:=I5 (sM.1 p s hs) (by rw[← h0];exact jA.1 [] _ rfl)
 have YL:bD (fun _=>False) w' w':=bD.refl w'
 have fX:∀q,(∀ D∈[p.length],q.length≤D)→pW q=g.rv id q∧∀s,aQ ro.t ro.xs q=some s→∃s',aQ ro.t zs q=some s'∧s'.t=s.t∧s'.xs.length=s.xs.length:=fun q hq=>by
  have hql:q.length≤p.length:=hq _ (by simp)
  have GY:p <+: q→q=p:=fun h=>(h.eq_of_length_le hql).symm
  exact⟨h1 q GY,fun sq kP=>pq hs hz hlen q sq GY kP⟩
 refine⟨(({ g with ro:=g.ro }:Gh).b7 id pW fun k=>B k∨kB ro.t ro.xs (g.rv id) p k),rfl,rfl,rfl,fun aJ h=>by simp[Gh.b7,h],fun k hk=> ?_,?_,fun c v hc=> ?_⟩
 ·simp only[Gh.b7,if_true] at hk
  exact hk.imp (fun h=>h) fun h=>⟨sM.kf h,fun hf=>sM.eD ((hF k).1 hf) h⟩
 ·refine I.kA (ro':=⟨ro.t,ro.md,ro.ver,ro.log++[p.length],zs⟩) (.inr cQ) YL I.kept (fun k h=>h.elim) (fun _ h=>h) (fun aJ k h1 _ h3=>I.apart.eu aJ k h1 h3) I.apart.gD I.apart.db I.apart.bY rfl rfl rfl fX ?_ (fun k hk=> ?_)
  ·unfold aV
   simp only[Gh.b7,if_true,cK]
   exact h3
  ·have hf:fY w0 Mf g st k:=hk.elim (fun h=>cM k (.inl h)) fun h=>cM k (.inr ⟨sM.kf h,fun hf=>sM.eD ((hF k).1 hf) h⟩)
   refine⟨fun aJ h1 _=>hf.r aJ h1,hf.ro,hf.b,hf.ib,?_⟩
   rcases hk with h | h
   ·exact (hB k h).2
   ·exact Nat.lt_of_lt_of_le (hH k (sM.kf h)) ca.1
 ·exact⟨hc.1,mO.kA (g:=g) (ro':=⟨ro.t,ro.md,ro.ver,ro.log++[p.length],zs⟩) (.inr cQ) rfl rfl rfl fX hc.2⟩
theorem Inv.Tk(I:Inv w0 Mf g st a w'){b:Nat}(cQ:bB st b){t:Ty}{x:El t}{B:Nat→Prop}(ez:vn g.n.wl w' B t x (.pointer (some ⟨g.bx b,0,none⟩)))(hB:∀k,B k→k<w'.heap.size)
 (cM:∀k,B k→k≠g.bx b→fY w0 Mf g st k) {k:List Sc→Nat→St→List (Nat×Rt)→Option R} {r:R} (h:Gm.vl true st (64*b) t (enc t x) k=some r):
    ∃ss m g' bz u,k ss m bz u=some r∧Inv w0 Mf g' { bz with boxes:=bd bz.boxes b ⟨t,ss⟩ } a w'∧Grow w' g st g' bz u B∧
      ∀c v,bg w' g st c v→bg w' g' { bz with boxes:=bd bz.boxes b ⟨t,ss⟩ } c v:=by
 obtain⟨b',us,el,e,hBb,hb,e8⟩:=ez
 simp only[Value.pointer.injEq,Option.some.injEq,Addr.mk.injEq,and_true] at e
 subst e
 obtain⟨ss,m,g',bz,u,h1,I1,G1,hc⟩:=Inv.vl I e8 (fun y hy=>by
   have:=vh t x
   rw[List.all_eq_true] at this
   exact this _ hy) (fun n hn=>⟨cM n hn.1 hn.2,hB n hn.1⟩) h
 have YK:bB bz b:=by rw[G1.eq];exact cQ
 have AA:g'.bx b=g.bx b:=by rw[G1.bx]
 have ca:bD (fun k=>k=g'.bx b) w' w':=⟨Nat.le_refl _,fun _ _ _=>rfl⟩
 have fq:cJ w' g' bz ss us:=hc.arr
 refine⟨ss,m,g',bz,u,h1,I1.qY YK ca I1.kept (by rw[AA];exact hb) fq,?_,fun c v qS=> ?_⟩
 ·exact { G1 with own:=fun id hi=>(G1.own id hi).imp (fun h=>h) fun h n hn=>(h n hn).1 }
 ·have:=G1.map c v qS
  exact⟨this.1,mO.roots (st:=bz) (fun b' fI=>by
   simp only[aH];split
   ·rfl
   ·exact fI) (fun _ _ _ h=>h) (fun _ _ _ _ _ _ h=>h) this.2⟩
def I6:List (Nat→Prop)→List (Nat→Prop)→Nat→Prop
 |F::Fs,H::Hs,k=>(H k∧ ¬F k)∨I6 Fs Hs k
 |_,_,_=>False
theorem I6.any:∀{Fs Hs:List (Nat→Prop)}{k:Nat},I6 Fs Hs k→Any Hs k
 |F::Fs,H::Hs,k,h=>by
  rcases h with h | h
  ·exact⟨H,by simp,h.1⟩
  ·obtain⟨G,hG,hk⟩:=I6.any h;exact⟨G,by simp[hG],hk⟩
 | [],_,_,h=>h.elim
 |_::_,[],_,h=>h.elim
theorem lB.rem{X:Nat→Prop}:∀{Fs Hs:List (Nat→Prop)}{k:Nat},lB X Fs Hs→I6 Fs Hs k→ ¬X k
 |F::Fs,H::Hs,k,h,hr=>by
  rcases hr with hr | hr
  ·exact fun hx=>hr.2 (h.1 k hx hr.1)
  ·exact lB.rem h.2 hr
 | [],_,_,_,h=>h.elim
 |_::_,[],_,_,h=>h.elim
theorem ri.refl(F:Nat→Prop):ri w' g st g st [] {} F:=
 ⟨rfl,rfl,rfl,rfl,rfl,rfl,rfl,fun _ _ h=>⟨h,rfl,rfl⟩,fun _ h=> .inl ⟨h,rfl⟩,fun _=> .rfl,fun _ _ _ h=>by simp at h,fun _ _ h=>h⟩
theorem ri.trans{g1 g2:Gh}{s1 s2:St}{bs cs:List Bk}{d e:Dl}{F G H:Nat→Prop}(h:ri w' g st g1 s1 bs d F)(k:ri w' g1 s1 g2 s2 cs e G)(hF:∀n,F n→H n)(hG:∀n,G n→H n):
    ri w' g st g2 s2 (bs++cs) { boxes:=d.boxes++e.boxes,roots:=d.roots++e.roots } H:={
 n:=k.n.trans h.n
 ro:=k.ro.trans h.ro
 bx:=k.bx.trans h.bx
 ay:=k.ay.trans h.ay
 roots:=by rw[k.roots,h.roots,bn]
 boxes:=by rw[k.boxes,h.boxes,bn]
 mr:=rfl
 live:=fun id r hr=>by
  obtain⟨h1,h2,h3⟩:=h.live id r hr
  obtain⟨h4,h5,h6⟩:=k.live id r h1
  exact⟨h4,h5.trans h2,h6.trans h3⟩
 own:=fun id hi=>by
  rcases k.own id hi with ⟨h1,h2⟩ | h1
  ·rcases h.own id h1 with ⟨h3,h4⟩ | h3
   ·exact .inl ⟨h3,h2.trans h4⟩
   ·exact .inr fun n hn=>hF n (h3 n (by rw[← h2];exact hn))
  ·exact .inr fun n hn=>hG n (h1 n hn)
 box:=fun b=>(k.box b).trans (h.box b)
 key:=fun id r p hm=>by
  refine EN ?_
  rcases List.mem_append.1 hm with hm | hm
  ·exact .inl (h.key id r p hm)
  ·exact .inr (k.key id r p hm)
 map:=fun c v hc=>k.map c v (h.map c v hc) }
theorem Inv.gB{X:Nat→Prop}(ca:bD X w w'):∀{ms:List Am}{ins:List Dt}{us:List Value}{Fs:List (Nat→Prop)}{bs:List Bk}{Hs:List (Nat→Prop)}{outs:List Dt}{Bs:List (Nat→Prop)}{g:Gh}{st:St}
    {k:St→Dl→Option R} {r:R},Inv w0 Mf g st a w'→mw w g st ms us Fs bs Hs→ey g.n.wl w' ms ins us outs Bs→(bs.Pairwise fun b c=>b.key≠c.key)→bS Bs→bS Hs→lB X Fs Hs→
 (∀ B∈Bs,∀k,B k→(X k∨w.heap.size≤k)∧k<w'.heap.size)→(∀ H∈Hs,∀k,H k→k<w.heap.size)→(∀ k,Any Bs k∨I6 Fs Hs k→CB w0 Mf g st bs k)→gB st bs outs k=some r→
    ∃g' aF d,k aF d=some r∧Inv w0 Mf g' aF a w'∧ri w' g st g' aF bs d (fun n=>Any Bs n∨I6 Fs Hs n):=by
 intro ms
 induction ms with
 |nil=>
  intro ins us Fs bs Hs outs Bs g st k r I hh hb _ _ _ _ _ _ _ h
  cases hh;cases hb
  exact⟨g,st,{},h,I,ri.refl _⟩
 |cons m ms ih=>
  intro ins us Fs bs Hs outs Bs g st k r I hh hb ob YM KK hX hB hH cM h
  cases hh with
  |cons h1 hs=>
  rename_i u us F Fs bk bs H Hs
  obtain⟨YN,YO⟩:=List.pairwise_cons.1 KK
  -- a mode that lends nothing
  have plain:bk=[]→H=F→ey g.n.wl w' ms (ins.drop 1) us outs Bs→∃g' aF d,k aF d=some r∧Inv w0 Mf g' aF a w'∧ri w' g st g' aF (bk++bs) d (fun n=>Any Bs n∨I6 (F::Fs) (H::Hs) n):=by
   intro e1 e2 pv
   subst e1;subst e2
   obtain⟨g',aF,d,h2,h3,h4⟩:=ih I hs pv ob YM YO hX.2 hB (fun H' hH'=>hH H' (by simp[hH'])) (fun n hn=>cM n (hn.imp (fun h=>h) fun h=> .inr h)) h
   refine⟨g',aF,d,h2,h3,?_⟩
   have:(fun n=>Any Bs n∨I6 (H::Fs) (H::Hs) n)=fun n=>Any Bs n∨I6 Fs Hs n:=by
    funext n
    refine propext (or_congr .rfl ⟨fun h=>h.elim (fun h=>(h.2 h.1).elim) fun h=>h,.inr⟩)
   rw[this];exact h4
  cases m with
  |ro=>cases hb with | skip _ pv=>exact plain h1.1 h1.2 pv
  |oh=>cases hb with | skip _ pv=>exact plain h1.1 h1.2 pv
  |D'=>cases hb with | skip _ pv=>exact plain h1.1 h1.2 pv
  |fn=>cases hb with | skip _ pv=>exact plain h1.1 h1.2 pv
  |SO=>cases hb with | skip _ pv=>exact plain h1.1 h1.2 pv
  |kp=>cases hb with | skip _ pv=>exact plain h1.1 h1.2 pv
  | «mut» =>
   obtain⟨id,ro,p,s,rfl,cQ,cK,sM,eK,hu,hF,rfl⟩:=h1
   cases hb with
   |skip hn _=>exact hn.elim
   | «mut» hb pv=>
   rename_i d0 qq t xs ds B Bs
   obtain⟨I7,YP⟩:=List.pairwise_cons.1 YM
   obtain⟨AN,Ee⟩:=List.pairwise_cons.1 ob
   simp only[List.singleton_append,Gm.gB] at h
   obtain⟨zs,hz,oE⟩:=aT h
   subst hu
   have ada:∀n,B n∨(g.rf id n∧ ¬F n)→fY w0 Mf g st n:=by
    intro n hn
    have hf:=cM n (hn.imp (fun h=>⟨B,by simp,h⟩) fun h=> .inl h)
    refine⟨hf.r,hf.ro,fun b G6 e=> ?_,hf.ib⟩
    have hm:=hf.b b G6 e
    have GM:Bk.box b∈bs:=by simpa using hm
    obtain⟨⟨B',h5,h6⟩,H',h7,h8⟩:=hs.box pv GM
    rw[e] at h6 h8
    rcases hn with hn | hn
    ·exact I7 B' h5 n hn h6
    ·exact YN H' h7 n hn.1 h8
   obtain⟨g1,e1,e2,e3,e4,e5,I1,vC⟩:=I.Ln ca cQ cK sM eK hF hX.1 hb (hB B (by simp)) (hH (g.rf id) (by simp)) ada hz
   have dn:∀aJ r' p',Bk.root aJ r' p'∈bs→aJ≠id:=fun aJ r' p' hm e=>AN _ hm (by rw[e];rfl)
   obtain⟨g',aF,d,h2,h3,h4⟩:=ih I1 (hs.move (fun aJ r' p' hm hl=>by
     have hn:=dn aJ r' p' hm
     exact⟨by simp only[b6 _ _ hn];exact hl,(e4 aJ hn).1,(e4 aJ hn).2⟩) (fun b hm=>⟨fun h=>h,fun h=>h⟩) e3) (by rw[e1];exact pv) Ee YP YO hX.2 (fun B' EO=>hB B' (by simp[EO])) (fun H' hH'=>hH H' (by simp[hH']))
    (fun n hn=>by
     have hf:=cM n (hn.imp (fun ⟨G,hG,hk⟩=>⟨G,by simp[hG],hk⟩) fun h=> .inr h)
     refine⟨fun aJ ⟨r',h5,h6⟩ h7=> ?_,by rw[e2];exact hf.ro,fun b G6 e=>by
      rw[e3] at e
      simpa using hf.b b G6 e,hf.ib⟩
     by_cases e:aJ=id
     ·subst e
      rcases e5 n h7 with h8 | ⟨h8,h9⟩
      ·rcases hn with ⟨G,hG,hk⟩ | hn
       ·exact I7 G hG n h8 hk
       ·rcases (hB B (by simp) n h8).1 with hx | hx
        ·exact hX.2.rem hn hx
        ·obtain⟨H',KJ,Ll⟩:=hn.any
         have:=hH H' (by simp[KJ]) n Ll;omega
      ·rcases hn with ⟨G,hG,hk⟩ | hn
       ·rcases (hB G (by simp[hG]) n hk).1 with hx | hx
        ·exact h9 (hX.1 n hx h8)
        ·have:=hH (g.rf aJ) (by simp) n h8;omega
       ·obtain⟨H',KJ,Ll⟩:=hn.any
        exact YN H' KJ n h8 Ll
     ·simp only[b6 _ _ e] at h5
      rw[(e4 aJ e).1] at h7
      exact hf.r aJ ⟨r',h5,h6⟩ h7) oE
   have Lo:ri w' g st g1 { st with roots:=bd st.roots id (.live ⟨ro.t,ro.md,ro.ver,ro.log++[p.length],zs⟩) } [.root id ro p] { roots:=[(id,.live ⟨ro.t,ro.md,ro.ver,ro.log++[p.length],zs⟩)] } (fun n=>B n∨(g.rf id n∧ ¬F n)):={
    n:=e1,ro:=e2,bx:=e3,ay:=rfl,roots:=rfl,boxes:=rfl,mr:=rfl
    live:=fun aJ r' hl=>by
     have hn:aJ≠id:=fun e=>by rw[e,cQ] at hl;cases hl
     exact⟨by simp only[b6 _ _ hn];exact hl,(e4 aJ hn).1,(e4 aJ hn).2⟩
    own:=fun aJ ⟨r',h5,h6⟩=>by
     by_cases e:aJ=id
     ·subst e;exact .inr e5
     ·simp only[b6 _ _ e] at h5
      exact .inl ⟨⟨r',h5,h6⟩,(e4 aJ e).1⟩
    box:=fun _=> .rfl
    key:=fun aJ r' p' hm=>by
     simp only[List.mem_singleton,Bk.root.injEq] at hm
     rw[hm.1];simp[cj,bo]
    map:=vC }
   refine⟨g',aF,_,h2,h3,?_⟩
   have:=Lo.trans h4 (H:=fun n=>Any (B::Bs) n∨I6 (F::Fs) (g.rf id::Hs) n) (fun n hn=>hn.imp (fun h=>⟨B,by simp,h⟩) .inl) (fun n hn=>hn.imp (fun ⟨G,hG,hk⟩=>⟨G,by simp[hG],hk⟩) .inr)
   have hd:=h4.mr
   cases d
   simp only at hd
   subst hd
   exact this
  |bG=>
   obtain⟨b,rfl,Eu,qZ,hu,rfl,Eb⟩:=h1
   cases hb with
   |skip hn _=>exact hn.elim
   |bG hb ht pv=>
   rename_i t0 x0 qq t x ds B Bs
   obtain⟨I7,YP⟩:=List.pairwise_cons.1 YM
   obtain⟨AN,Ee⟩:=List.pairwise_cons.1 ob
   simp only[List.singleton_append,Gm.gB] at h
   subst hu
   obtain⟨ss,mm,g1,bz,u,oE,I1,G1,vC⟩:=I.Tk qZ hb (fun n hn=>(hB B (by simp) n hn).2) (fun n hn dn=>by
    have hf:=cM n (.inl ⟨B,by simp,hn⟩)
    refine⟨hf.r,hf.ro,fun b' G6 e=> ?_,hf.ib⟩
    have hm:=hf.b b' G6 e
    simp only[List.singleton_append,List.mem_cons,Bk.box.injEq] at hm
    rcases hm with rfl | hm
    ·exact dn e.symm
    ·obtain⟨⟨B',h5,h6⟩,_⟩:=hs.box pv hm
     rw[e] at h6
     exact I7 B' h5 n hn h6) h
   have dn:∀b',Bk.box b'∈bs→b'≠b:=fun b' hm e=>AN _ hm (by rw[e])
   have heq:bz.boxes=st.boxes:=by rw[G1.eq]
   have AA:∀b',bB { bz with boxes:=bd bz.boxes b ⟨t,ss⟩ } b'↔bB st b':=fun b'=>by
    simp only[bB,aH,heq]
    by_cases Tj:b'=b
    ·subst Tj;simpa [bB] using qZ
    ·simp[Tj]
   obtain⟨g',aF,d,h2,h3,h4⟩:=ih I1 (hs.move (fun aJ r' p' hm hl=>G1.dq aJ r' hl) (fun b' hm=>⟨fun hn ⟨x',oi,hh⟩=>hn ⟨x',by simpa [aH,dn b' hm,heq] using oi,hh⟩,fun h=>(AA b').2 h⟩) G1.bx)
    (by rw[G1.n];exact pv) Ee YP YO hX.2 (fun B' EO=>hB B' (by simp[EO])) (fun H' hH'=>hH H' (by simp[hH']))
    (fun n hn=>by
     have hf:=cM n (hn.imp (fun ⟨G,hG,hk⟩=>⟨G,by simp[hG],hk⟩) fun h=> .inr h)
     refine⟨fun aJ hi h7=> ?_,by rw[G1.ro];exact hf.ro,fun b' G6 e=> ?_,hf.ib⟩
     ·rcases G1.own aJ hi with ⟨h8,h9⟩ | h8
      ·rw[h9] at h7;exact hf.r aJ h8 h7
      ·have h9:=h8 n h7
       rcases hn with ⟨G,hG,hk⟩ | hn
       ·exact I7 G hG n h9 hk
       ·rcases (hB B (by simp) n h9).1 with hx | hx
        ·exact hX.2.rem hn hx
        ·obtain⟨H',KJ,Ll⟩:=hn.any
         have:=hH H' (by simp[KJ]) n Ll;omega
     ·rw[G1.bx] at e
      have hm:=hf.b b' ((AA b').1 G6) e
      simp only[List.singleton_append,List.mem_cons,Bk.box.injEq] at hm
      rcases hm with rfl | hm
      ·rcases hn with ⟨G,hG,hk⟩ | hn
       ·obtain⟨b0,EP,el0,e0,hB0,_⟩:=hb
        simp only[Value.pointer.injEq,Option.some.injEq,Addr.mk.injEq,and_true] at e0
        rw[← e0,e] at hB0
        exact (I7 G hG n hB0 hk).elim
       ·obtain⟨H',KJ,Ll⟩:=hn.any
        exact (YN H' KJ n (e▸Eb) Ll).elim
      ·exact hm) oE
   have Lo:ri w' g st g1 { bz with boxes:=bd bz.boxes b ⟨t,ss⟩ } [.box b] { boxes:=[(b,⟨t,ss⟩)],roots:=u } B:={
    n:=G1.n,ro:=G1.ro,bx:=G1.bx,ay:=by simp only;rw[G1.eq],roots:=by simp only;rw[G1.eq],boxes:=by simp only[cj];rw[heq],mr:=rfl
    live:=G1.live
    own:=G1.own
    box:=AA
    key:=fun _ _ _ hm=>by simp at hm
    map:=vC }
   refine⟨g',aF,_,h2,h3,?_⟩
   have:=Lo.trans h4 (H:=fun n=>Any (B::Bs) n∨I6 (H::Fs) (H::Hs) n) (fun n hn=> .inl ⟨B,by simp,hn⟩) (fun n hn=>hn.imp (fun ⟨G,hG,hk⟩=>⟨G,by simp[hG],hk⟩) .inr)
   have hd:=h4.mr
   cases d
   simp only at hd
   subst hd
   exact this
end Go.Gm
namespace Go.Gm
open Go
variable {R : Type} {P : Program} {E : Env} {w0 w w' : World} {Mf : Nat → Prop} {g : Gh} {st aF : St} {a : Act}
theorem I8(hb:au st.boxes=au aF.boxes)(hr:au st.roots=au aF.roots):mO w g st=mO w g aF:=by
 have h1:cL st=cL aF:=by funext id ver iv;unfold cL;rw[hr]
 have h2:Vx st=Vx aF:=by funext id ver iv p r;unfold Vx;rw[hr]
 funext c u
 cases c<;>simp only[mO,h1,h2,hb]
theorem Inv.congr(I:Inv w0 Mf g st a w)(hs:au st.ay=au aF.ay)(hb:au st.boxes=au aF.boxes)(hr:au st.roots=au aF.roots):Inv w0 Mf g aF a w:=by
 have hm:∀c u,bg w g st c u→bg w g aF c u:=fun c u h=>⟨h.1,by rw[← I8 hb hr];exact h.2⟩
 have hO:aS st=aS aF:=by funext id;unfold aS;rw[hr]
 have hB:bB st=bB aF:=by funext b;unfold bB;rw[hb]
 exact {
  ay:=fun s sv h=>let ⟨u,hu,h1⟩:=I.ay s sv (by rw[hs];exact h);⟨u,hu,h1.map hm⟩
  boxes:=fun b x h=>let ⟨us,el,h1,h2⟩:=I.boxes b x (by rw[hb];exact h);⟨us,el,h1,h2.map hm⟩
  roots:=fun id r h=>I.roots id r (by rw[hr];exact h)
  apart:={
   rr:=by rw[← hO];exact I.apart.rr
   rb:=by rw[← hO,←hB];exact I.apart.rb
   bb:=by rw[← hB];exact I.apart.bb
   eu:=by rw[← hO];exact I.apart.eu
   gD:=by rw[← hB];exact I.apart.gD
   cp:=by rw[← hO];exact I.apart.cp
   dL:=by rw[← hB];exact I.apart.dL
   ew:=by rw[← hO];exact I.apart.ew
   db:=I.apart.db
   bY:=I.apart.bY }
  kept:=I.kept
  defers:=I.defers
  size:=I.size
  base:=⟨I.base.wl,I.base.ap,I.base.ro⟩ }
theorem Inv.zr(I:Inv w0 Mf g st a w){id:Nat}{ro:cC}(h:au st.roots id=some (.live ro))(IP:ro.md.cV=false):
    ∃g':Gh,g'.n=g.n∧g'.bx=g.bx∧(∀ k,g.ro k→g'.ro k)∧(∀ k,g.rf id k→aS st id→g'.ro k)∧(∀ k,g'.ro k→g.ro k∨(aS st id∧g.rf id k))∧(∀ aJ,aJ≠id→g'.rf aJ=g.rf aJ)∧
      Inv w0 Mf g' { st with roots:=bd st.roots id (.live { ro with md:= .B5 }) } a w∧∀c v,bg w g st c v→bg w g' { st with roots:=bd st.roots id (.live { ro with md:= .B5 }) } c v:=by
 let G:Nat→Prop:=fun k=>g.ro k∨(aS st id∧g.rf id k)
 have fX:∀q,(∀ D∈([]:List Nat),q.length≤D)→g.rv id q=g.rv id q∧∀s,aQ ro.t ro.xs q=some s→∃s',aQ ro.t ro.xs q=some s'∧s'.t=s.t∧s'.xs.length=s.xs.length:=
  fun q _=>⟨rfl,fun s hs=>⟨s,hs,rfl,rfl⟩⟩
 refine⟨(({ g with ro:=G }:Gh).b7 id (g.rv id) fun _=>False),rfl,rfl,fun k=> .inl,fun k h1 h2=> .inr ⟨h2,h1⟩,fun k h=>h,fun aJ hn=>by simp[Gh.b7,hn],?_,fun c v hc=> ?_⟩
 ·refine I.kA (ro':={ ro with md:= .B5 }) (G:=G) (.inl h) (bD.refl w) I.kept (fun k h=>h.elim) (fun k=> .inl) (fun aJ k h1 h2 h3 h4=> ?_) (fun b hb h4=> ?_) (fun k h4=> ?_) (fun k h4=> ?_) rfl rfl (l:=[]) (by simp) fX ?_ (fun k h=>h.elim)
  ·rcases h4 with h4 | ⟨h4,h5⟩
   ·exact I.apart.eu aJ k h1 h3 h4
   ·exact h2 (I.apart.rr aJ id k h1 h4 h3 h5)
  ·rcases h4 with h4 | ⟨h4,h5⟩
   ·exact I.apart.gD b hb h4
   ·exact I.apart.rb id b h4 hb h5
  ·rcases h4 with h4 | ⟨h4,h5⟩
   ·exact I.apart.db k h4
   ·exact I.apart.ew id k h4 h5
  ·rcases h4 with h4 | ⟨h4,h5⟩
   ·exact I.apart.bY k h4
   ·exact .inr (I.apart.cp id k h4 h5)
  ·unfold aV
   simp only[Gh.b7,if_true]
   exact I.Xi h (by cases hq:ro.md<;>simp_all [Md.ky,Md.cV]) (fun k=> .inl) (fun h1 k h2=> .inr ⟨h1,h2⟩)
 ·exact⟨hc.1,mO.kA (g:={ g with ro:=G }) (ro':={ ro with md:= .B5 }) (.inl h) rfl rfl (l:=[]) (by simp) fX (hc.2.ro fun k=> .inl)⟩
structure ade (w:World) (g:Gh) (st:St) (g':Gh) (aF:St) (ids:List Nat) (u:List (Nat×Rt)):Prop where
 n:g'.n=g.n
 bx:g'.bx=g.bx
 ro:∀k,g.ro k→g'.ro k
 src:∀k,g'.ro k→g.ro k∨∃id∈ids,aS st id∧g.rf id k
 all:∀id∈ids,aS st id→∀k,g.rf id k→g'.ro k
 eq:aF={ st with roots:=cj st.roots u }
 own:∀id,aS aF id→aS st id∧g'.rf id=g.rf id
 map:∀c v,bg w g st c v→bg w g' aF c v
theorem Inv.freeze:∀{ids:List Nat}{g:Gh}{st:St}{k:St→List (Nat×Rt)→Option R}{r:R},Inv w0 Mf g st a w→freeze st ids k=some r→∃g' aF u,k aF u=some r∧Inv w0 Mf g' aF a w∧ade w g st g' aF ids u
 | [],g,st,k,r,I,h=>⟨g,st,[],h,I,rfl,rfl,fun _ h=>h,fun _=> .inl,fun _ h=>by simp at h,rfl,fun _ h=>⟨h,rfl⟩,fun _ _ h=>h⟩
 |id::ids,g,st,k,r,I,h=>by
  simp only[Gm.freeze] at h
  split at h
  ·rename_i ro dj
   obtain⟨IP,h⟩:ro.md.cV=false∧_:=by
    cases hq:ro.md.cV
    ·rw[hq] at h;exact⟨rfl,h⟩
    ·rw[hq] at h;cases h
   obtain⟨g1,e1,e2,e3,e4,e5,e6,I1,hm⟩:=I.zr dj IP
   obtain⟨g',aF,u,h1,h2,h3⟩:=Inv.freeze I1 h
   have ho:∀aJ,aS { st with roots:=bd st.roots id (.live { ro with md:= .B5 }) } aJ→aJ≠id∧aS st aJ:=fun aJ ⟨r',h4,h5⟩=>by
    simp only[aH] at h4
    by_cases e:aJ=id
    ·simp only[e,if_true,Option.some.injEq,Rt.live.injEq] at h4
     subst h4;cases h5
    ·exact⟨e,r',by simpa [e] using h4,h5⟩
   refine⟨g',aF,_,h1,h2,h3.n.trans e1,h3.bx.trans e2,fun k hk=>h3.ro k (e3 k hk),fun k hk=> ?_,fun aJ cS cQ k hk=> ?_,by rw[h3.eq];rfl,fun aJ hi=> ?_,fun c v hc=>h3.map c v (hm c v hc)⟩
   ·rcases h3.src k hk with h4 | ⟨aJ,h4,h5,h6⟩
    ·rcases e5 k h4 with h5 | h5
     ·exact .inl h5
     ·exact .inr ⟨id,by simp,h5⟩
    ·obtain⟨h7,h8⟩:=ho aJ h5
     rw[e6 aJ h7] at h6
     exact .inr ⟨aJ,by simp[h4],h8,h6⟩
   ·by_cases e:aJ=id
    ·subst e;exact h3.ro k (e4 k hk cQ)
    ·have KS:aJ∈ids:=by simpa [e] using cS
     obtain⟨r',h4,h5⟩:=cQ
     exact h3.all aJ KS ⟨r',by simp only[b6 _ _ e];exact h4,h5⟩ k (by rw[e6 aJ e];exact hk)
   ·obtain⟨h4,h5⟩:=h3.own aJ hi
    obtain⟨h6,h7⟩:=ho aJ h4
    exact⟨h7,h5.trans (e6 aJ h6)⟩
  ·rename_i uV
   obtain⟨g',aF,u,h1,h2,h3⟩:=Inv.freeze I h
   refine⟨g',aF,u,h1,h2,h3.n,h3.bx,h3.ro,fun k hk=>(h3.src k hk).imp (fun h=>h) fun ⟨aJ,h4,h5⟩=>⟨aJ,by simp[h4],h5⟩,fun aJ cS cQ k hk=> ?_,h3.eq,h3.own,h3.map⟩
   by_cases e:aJ=id
   ·subst e
    obtain⟨r',h4,_⟩:=cQ
    exact (uV r' h4).elim
   ·exact h3.all aJ (by simpa [e] using cS) cQ k hk
end Go.Gm
