/- The G-machine, part 2: an evaluator of translated code on typed values, and that it is sound. No conditions. -/
import Derived.Test.YtglijihijmkpaaaDoorGm1
import Derived.Laws.Tables
namespace Go.Gm
open Go
variable {R : Type} {P : Program} {E : Env} {w0 w : World} {Mf : Nat → Prop} {g : Gh} {st : St} {a : Act} {Q : Exit → Act → World → Prop}
  {o:Oper} {k:Dl→Option R} {r:R} {K:Act→World→Prop}
theorem xJ {α:Type} (l:List (Nat×α)) (n:Nat) (x y:α):aX (aX l n x) n y=aX l n y:=by
 induction l with
 | nil=>simp [aX,Nat.beq_refl]
 | cons kv l ih=>
  obtain ⟨k,u⟩:=kv
  simp only [aX]
  cases h1:Nat.beq n k
  ·cases h2:Nat.blt n k
   ·simp only [cond_false,aX,h1,h2,ih]
   ·simp only [cond_false,cond_true,aX,Nat.beq_refl]
  ·simp only [cond_true,aX,Nat.beq_refl]
theorem RowsIn.size {t:Ty} {ys:List (El t)} {cs:Array Value} {o:Nat} {eW:Nat→Nat→Value} (h:RowsIn t ys cs o eW) (hn:ys≠[]):o+ys.length*aD t≤cs.size:=by
 have xc:=gK t
 have hl:0<ys.length:=List.length_pos_iff.2 hn
 have hi:ys.length-1<ys.length:=by omega
 obtain ⟨u,hu,_⟩:=h (ys.length-1) ys[ys.length-1] (aD t-1) _ (List.getElem?_eq_getElem hi) (List.getElem?_eq_getElem (by rw [br];omega))
 have ct:o+(ys.length-1)*aD t+(aD t-1)<cs.size:=by
  rcases Nat.lt_or_ge (o+(ys.length-1)*aD t+(aD t-1)) cs.size with h' | h'
  ·exact h'
  ·simp [Array.getElem?_eq_none h'] at hu
 have:ys.length*aD t=(ys.length-1)*aD t+aD t:=by
  have e:ys.length=(ys.length-1)+1:=by omega
  conv=>lhs;rw [e,Nat.add_mul,Nat.one_mul]
 omega
theorem ep.news {F:Nat→Prop} {t:Ty} {ys:List (El t)} {v:Value} {eW:Nat→Nat→Value} (h:ep w F t ys v eW):
    ∃xa cap news,v = .slice xa ys.length cap∧ys.length≤cap∧news.length=ys.length*aD t∧xd w xa news∧
      ∀i y j c,ys[i]? =some y→(enc t y)[j]? =some c→∃u,news[i*aD t+j]? =some u∧eF c u (eW i j):=by
 obtain ⟨xa,cap,e,hle,hh⟩:=h
 by_cases hn:ys=[]
 ·subst hn
  exact ⟨xa,cap,[],e,hle,by simp,.inl rfl,fun i y j c h=>by simp at h⟩
 ·obtain ⟨b,oo,cs,el,fz,rfl,hF,hb,hr⟩:=hh hn
  have ff:=hr.size hn
  refine ⟨_,cap,(cs.toList.drop oo).take (ys.length*aD t),e,hle,by simp;omega,.inr ⟨b,oo,cs,el,fz,rfl,hb,fun j v hj=> ?_⟩,fun i y j c hy hc=> ?_⟩
  ·rw [List.getElem?_take] at hj
   split at hj
   ·rw [List.getElem?_drop] at hj;simpa using hj
   ·cases hj
  ·obtain ⟨u,hu,kE⟩:=hr i y j c hy hc
   refine ⟨u,?_,kE⟩
   have hi:i<ys.length:=by
    rcases Nat.lt_or_ge i ys.length with h' | h'
    ·exact h'
    ·simp [List.getElem?_eq_none h'] at hy
   have hj:j<aD t:=by
    rw [← br t y]
    rcases Nat.lt_or_ge j (enc t y).length with h' | h'
    ·exact h'
    ·simp [List.getElem?_eq_none h'] at hc
   have:i*aD t+j<ys.length*aD t:=by
    have:(i+1)*aD t≤ys.length*aD t:=Nat.mul_le_mul_right _ hi
    rw [Nat.add_mul] at this;omega
   rw [List.getElem?_take,if_pos this,List.getElem?_drop]
   simpa [Nat.add_assoc] using hu
structure Src (w:World) (ro:Nat→Prop) (d:Bool) (F:Nat→Prop) (e:Ty) (ys:List (El e)) (u:Value) (xa:Option Addr) (cap:Nat) (news:List Value) (G:Nat→Nat→Nat→Prop):Prop where
 eq:u = .slice xa ys.length cap
 len:news.length=ys.length*aD e
 UR:xd w xa news
 rows:∀i y j c,ys[i]? =some y→(enc e y)[j]? =some c→∃z,news[i*aD e+j]? =some z∧pF w (fun k=>F k∨ro k) c z∧(d=true→iO w (G i j) c z)
 Tj:∀i j i' j' k,G i j k→G i' j' k→i=i'∧j=j'
 sub:∀i j k,G i j k→F k
theorem Src.flat {ro:Nat→Prop} {d:Bool} {F:Nat→Prop} {e:Ty} {ys:List (El e)} {u:Value} {xa:Option Addr} {cap:Nat} {news:List Value} {G:Nat→Nat→Nat→Prop}
 (h:Src w ro d F e ys u xa cap news G):∀v∈news,v.oneCell'=true:=by
 intro v hv
 obtain ⟨n,hn⟩:=List.getElem?_of_mem hv
 have xc:=gK e
 have ct:n<news.length:=by
  rcases Nat.lt_or_ge n news.length with h' | h'
  ·exact h'
  ·simp [List.getElem?_eq_none h'] at hn
 rw [h.len] at ct
 have hi:n/aD e<ys.length:=Nat.div_lt_of_lt_mul (by rw [Nat.mul_comm];exact ct)
 have hj:n%aD e<aD e:=Nat.mod_lt _ xc
 obtain ⟨z,hz,hr,_⟩:=h.rows (n/aD e) ys[n/aD e] (n%aD e) _ (List.getElem?_eq_getElem hi) (List.getElem?_eq_getElem (by rw [br];exact hj))
 have:n/aD e*aD e+n%aD e=n:=by rw [Nat.mul_comm];exact Nat.div_add_mod n (aD e)
 rw [this,hn] at hz;cases hz
 exact tO (iB (List.getElem?_eq_getElem (by rw [br];exact hj)) hr)
theorem tQ {e:Ty} (h:(kinds e).all (fun q=>q.isNone)=true) {y:El e} {j:Nat} {c:Cv} (hc:(enc e y)[j]? =some c):∃x,c = .v x:=by
 have h1:=tz e y
 rw [← h1,List.all_map,List.all_eq_true] at h
 have:=h _ (List.mem_of_getElem? hc)
 cases c with
 | v x=>exact ⟨x,rfl⟩
 | l t ys=>simp [Cv.kind] at this
theorem GH {t:Ty} {xs:List (El t)} {i j:Nat} {s:Sl} (h:aR t xs [(i,j)]=some s):∃x,xs[i]? =some x∧(enc t x)[j]? =some (.l s.t s.xs):=by
 simp only [aR] at h
 split at h
 ·rename_i x hx
  split at h
  ·rename_i t' ys hc
   simp only [Option.some.injEq] at h;subst h
   exact ⟨x,hx,hc⟩
  ·cases h
 ·cases h
theorem PN {g:Gh} {st aE:St} {rf:Nat→Nat→Prop} {eX:List (Nat×Rt)} {F:Nat→Prop} {e:Ty} {xs:List (El e)} {d:Bool} {u:Value} (I':Inv w0 Mf (g.sU rf) aE a w) (T':fg w g rf st aE eX [F])
 (hr:pF w (fun k=>F k∨g.ro k) (.l e xs) u) (ho:d=true→iO w F (.l e xs) u):∃xa cap news G,Inv w0 Mf (g.sU rf) aE a w∧fg w g rf st aE eX [F]∧Src w g.ro d F e xs u xa cap news G:=by
 cases d
 ·obtain ⟨av,h0,fw⟩:=hr
  obtain ⟨xa,cap,news,e1,_,h2,h3,h4⟩:=(fw [] _ rfl).news
  refine ⟨xa,cap,news,fun _ _ _=>False,I',T',⟨by rw [← h0];exact e1,h2,h3,fun i y j c hy lR=> ?_,fun _ _ _ _ _ h=>h.elim,fun _ _ _ h=>h.elim⟩⟩
  obtain ⟨z,hz,p4⟩:=h4 i y j c hy lR
  refine ⟨z,hz,?_,fun h=>by cases h⟩
  cases c with
  | v x=>exact p4
  | l t ys=>exact ⟨fun q=>av ([(i,j)]++q),by simpa [eF] using p4.symm,fw.at (kg hy lR)⟩
 ·obtain ⟨av,h0,fw⟩:=ho rfl
  obtain ⟨xa,cap,news,e1,_,h2,h3,h4⟩:=(fw.1 [] _ rfl).rd.news
  refine ⟨xa,cap,news,fun i j=>gF e xs av [(i,j)],I',T',⟨by rw [← h0];exact e1,h2,h3,fun i y j c hy lR=> ?_,fun i j i' j' n ⟨q,s,h1,h2⟩ ⟨q',s',h3,h4⟩=> ?_,
   fun i j n ⟨q,s,h1,h2⟩=>(fw.1 _ s h1).nt h2⟩⟩
  ·obtain ⟨z,hz,p4⟩:=h4 i y j c hy lR
   refine ⟨z,hz,?_,fun _=> ?_⟩
   ·cases c with
    | v x=>exact p4
    | l t ys=>exact ⟨fun q=>av ([(i,j)]++q),by simpa [eF] using p4.symm,(fw.rd.at (kg hy lR)).mono fun n=> .inl⟩
   ·cases c with
    | v x=>exact p4
    | l t ys=>exact ⟨fun q=>av ([(i,j)]++q),by simpa [eF] using p4.symm,fw.at (kg hy lR)⟩
  ·have:=fw.2 _ _ _ _ n h1 h3 h2 h4
   simp only [List.singleton_append,List.cons.injEq,Prod.mk.injEq] at this
   exact this.1
theorem Inv.IE (I:Inv w0 Mf g st a w) {id ver lo hi:Nat} {ro:cB} (hv:ax st.roots id=some (.live ro)) (ht:ro.md.rZ lo 0=true) (h1:lo≤hi) (h2:hi≤ro.xs.length):
    ∃F rf xa cap news G,Inv w0 Mf (g.sU rf) (st.taken id ro hi 0) a w∧fg w g rf st (st.taken id ro hi 0) [(id,.live ⟨ro.t,.part (.cur hi 0),ro.ver,ro.log,ro.xs⟩)] [F]∧
      Src w g.ro true F ro.t ((ro.xs.take hi).drop lo) (lr (aD ro.t) (g.rv id []) lo hi) xa cap news G:=by
 have hp:=I.C0 hv ht
 obtain ⟨rf,I1,T1⟩:=I.take hv ht (gb.2 (show lo<hi∨(lo=hi∧0≤0) by omega)) (fun _=>Iff.rfl)
 have hU:=bB.cut (hp.1 [] ⟨ro.t,ro.xs⟩ rfl rfl) h1 h2
 obtain ⟨xa,cap,news,e1,_,h3,h4,h5⟩:=hU.rd.news
 have hle:∀i j,rY lo 0 (i+lo) j=true:=fun i j=>gb.2 (by omega)
 refine ⟨_,rf,xa,cap,news,fun i j k=>i+lo<hi∧gF ro.t ro.xs (g.rv id) [(i+lo,j)] k,I1,T1,⟨e1,h3,h4,fun i y j c hy hc=> ?_,?_,?_⟩⟩
 ·obtain ⟨z,hz,p4⟩:=h5 i y j c hy hc
  have mZ:i+lo<hi:=by
   rw [iz] at hy
   split at hy
   ·omega
   ·cases hy
  have own:iO w (fun k=>i+lo<hi∧gF ro.t ro.xs (g.rv id) [(i+lo,j)] k) c z:=by
   cases c with
   | v x=>exact p4
   | l t ys=>
    have hs:aR ro.t ro.xs [(i+lo,j)]=some ⟨t,ys⟩:=by
     have:=tJ (kg hy hc);exact this
    exact ⟨fun q=>g.rv id ([(i+lo,j)]++q),by simpa [eF] using p4.symm,(hp.at (hle i j) hs).mono fun k hk=>⟨mZ,hk⟩⟩
  refine ⟨z,hz,?_,fun _=>own⟩
  cases c with
  | v x=>exact p4
  | l t ys=>
   obtain ⟨av,h6,h7⟩:=own
   refine ⟨av,h6,h7.rd.mono fun k hk=> .inl ?_⟩
   obtain ⟨_,q,s,h8,h9⟩:=hk
   refine ⟨[(i+lo,j)]++q,s,hle i j,?_,h8,h9⟩
   show rY hi 0 (i+lo) j=false
   cases hh:rY hi 0 (i+lo) j with
   | false=>rfl
   | true=>rw [gb] at hh;omega
 ·rintro i j i' j' n ⟨_,q,s,h6,h7⟩ ⟨_,q',s',h8,h9⟩
  have:=hp.2.1 ([(i+lo,j)]++q) ([(i'+lo,j')]++q') _ _ n (hle i j) (hle i' j') h6 h8 h7 h9
  simp only [List.singleton_append,List.cons.injEq,Prod.mk.injEq] at this
  exact ⟨by omega,this.1.2⟩
 ·rintro i j k ⟨mZ,q,s,h8,h9⟩
  refine ⟨[(i+lo,j)]++q,s,hle i j,?_,h8,h9⟩
  show rY hi 0 (i+lo) j=false
  cases hh:rY hi 0 (i+lo) j with
  | false=>rfl
  | true=>rw [gb] at hh;omega
theorem Inv.kJ (I:Inv w0 Mf g st a w) {e:Ty} {c:Sc} {k:List (El e)→Bool→St→List (Nat×Rt)→Option R} {r:R} {u:Value} (h:kJ st e c k=some r) (hc:aZ w g st c u):
    ∃ys d aE eX F rf xa cap news G,k ys d aE eX=some r∧Inv w0 Mf (g.sU rf) aE a w∧fg w g rf st aE eX [F]∧Src w g.ro d F e ys u xa cap news G:=by
  have T0:jW w g st st [] [fun _=>False]:=
    ⟨rfl,fun _ h=>h,fun _ _ h=>h,List.pairwise_singleton _ _,fun F hF k hk=>by simp only [List.mem_singleton] at hF;subst hF;exact hk.elim,
      fun F hF k hk=>by simp only [List.mem_singleton] at hF;subst hF;exact hk.elim,fun _ _ h=>h,fun _ _ h=>h⟩
  unfold Gm.kJ at h
  split at h
  · rename_i oV
    replace h:=I.oU h hc;obtain ⟨cv,h,pZ⟩:=h
    replace h:=aQ h;obtain ⟨xs,wy,h⟩:=h
    have:=c6 wy
    simp only [enc,List.cons.injEq,and_true] at this
    subst this
    obtain ⟨av,h0,fw⟩:=pZ
    obtain ⟨xa,cap,news,e1,_,h2,h3,h4⟩:=(fw [] _ rfl).news
    refine ⟨xs,true,st,[],_,g.rf,xa,cap,news,fun _ _ _=>False,h,I,T0.P,⟨by rw [← h0];exact e1,h2,h3,fun i y j c hy lR=> ?_,fun _ _ _ _ _ h=>h.elim,fun _ _ _ h=>h⟩⟩
    obtain ⟨z,hz,p4⟩:=h4 i y j c hy lR
    obtain ⟨x,rfl⟩:=tQ oV lR
    exact ⟨z,hz,p4,fun _=>p4⟩
  · have fin:∀ {rf:Nat→Nat→Prop} {cv:Cv} {d:Bool} {aE:St} {eX:List (Nat×Rt)} {F:Nat→Prop},((dec (.sl e) [cv]).bind fun xs=>k xs d aE eX)=some r→Inv w0 Mf (g.sU rf) aE a w→fg w g rf st aE eX [F]→
        pF w (fun k=>F k∨g.ro k) cv u→(d=true→iO w F cv u)→∃ys d aE eX F rf xa cap news G,k ys d aE eX=some r∧Inv w0 Mf (g.sU rf) aE a w∧fg w g rf st aE eX [F]∧Src w g.ro d F e ys u xa cap news G:=by
      intro rf cv d aE eX F h I' T' hr ho
      replace h:=aQ h;obtain ⟨xs,wy,h⟩:=h
      have:=c6 wy
      simp only [enc,List.cons.injEq,and_true] at this
      subst this
      obtain ⟨xa,cap,news,G,h1,h2,h3⟩:=PN I' T' hr ho
      exact ⟨xs,d,aE,eX,F,rf,xa,cap,news,G,h,h1,h2,h3⟩
    unfold Gm.xD at h
    split at h
    · rename_i id ver lo hi t _
      replace h:=de h;obtain ⟨ro,hv,fM,h⟩:=h
      cases ht:ro.md.rZ lo 0
      · rw [ht] at h
        simp only [cond_false] at h
        replace h:=I.jO h hc;obtain ⟨cv,d,aE,eX,F,h,I',T',hr,ho⟩:=h
        exact fin h I' T'.P hr ho
      · rw [ht] at h
        simp only [cond_true] at h
        obtain ⟨h1,h2,hu⟩:=hc.2.2 ro ⟨.inl hv,fM,gC _ _⟩
        obtain ⟨F,rf,xa,cap,news,G,h3,h4,h5⟩:=I.IE (ver:=ver) hv ht h1 h2
        replace h:=aQ h;obtain ⟨xs,wy,h⟩:=h
        have:=c6 wy
        simp only [enc,List.cons.injEq,and_true,Cv.l.injEq] at this
        obtain ⟨e1,e2⟩:=this
        obtain ⟨t0,XQ,v0,l0,x0⟩:=ro
        simp only at e1 e2
        subst e1
        have e2:=eq_of_heq e2
        subst e2
        exact ⟨_,_,_,_,F,rf,xa,cap,news,G,h,h3,h4,by rw [hu];exact h5⟩
    · replace h:=I.ll h hc;obtain ⟨cv,d,aE,eX,F,rf,h,I',T',hr,ho⟩:=h
      exact fin h I' T' hr ho
structure fx (w0:World) (Mf:Nat→Prop) (g:Gh) (st:St) (n:Nat):Prop where
 r:∀id,aP st id→ ¬g.rf id n
 ro : ¬g.ro n
 b:∀b,bA st b→g.bx b≠n
 gy:w0.heap.size≤n∨Mf n
theorem Inv.Ez (I:Inv w0 Mf g st a w):fx w0 Mf g st w.heap.size:={
 r:=fun id h1 h2=>by have:=I.apart.eb id _ h1 h2;omega
 ro:=fun h=>by have:=I.apart.c7 _ h;omega
 b:=fun b h e=>by
  obtain ⟨x,hx⟩:=Option.isSome_iff_exists.1 h
  obtain ⟨us',p3,h1,_⟩:=I.boxes b x hx
  have:=(Array.getElem?_eq_some_iff.1 h1).1
  omega
 gy:= .inl I.kept.same.1 }
theorem iO.same {w w':World} {X F:Nat→Prop} (hs:bH X w w') (hd:∀k,F k→ ¬X k) {c:Cv} {u:Value} (h:iO w F c u):iO w' F c u:=by
 cases c with
 | v x=>exact h
 | l t xs=>obtain ⟨av,h0,h1⟩:=h;exact ⟨av,h0,h1.same hs hd⟩
theorem dI.same {w w':World} {X ro:Nat→Prop} {d:Bool} {t:Ty} {xs:List (El t)} {cs:Array Value} {o:Nat} {G:Nat→Nat→Nat→Prop} (hs:bH X w w')
 (hG:∀i j k,G i j k→ ¬X k) (cZ:∀k,ro k→ ¬X k) (h:dI w ro d t xs cs o G):dI w' ro d t xs cs o G:=
 ⟨fun i x j c hx hc=>let ⟨u,hu,hr,ho⟩:=h.rows i x j c hx hc
 ⟨u,hu,hr.same hs (fun k hk=>hk.elim (hG i j k) (cZ k)),fun hd=>(ho hd).same hs (hG i j)⟩,h.Tj⟩
theorem Inv.build (I:Inv w0 Mf g st a w) {w':World} {b o cap el:Nat} {cs:Array Value} (hs:bH (fun k=>k=b) w w') (hos:w'.os=w.os) (IF:w'.tape=w.tape) (AS:w'.output=w.output)
 (hb:w'.heap[b]? =some (.cells cs el (0,0))) (cK:fx w0 Mf g st b) {e:Ty} {xs:List (El e)} {G:Nat→Nat→Nat→Prop} {F:Nat→Prop} {d:Bool}
 (hp:dI w (fun k=>g.ro k∨F k) d e xs cs o G) (hG:∀i j k,G i j k→k≠b∧fx w0 Mf g st k∧k<w.heap.size) (hF:∀k,F k→k≠b∧fx w0 Mf g st k∧k<w.heap.size)
 (gx:xs.length≤cap) (ff:o+cap*aD e≤cs.size) {id ver:Nat} {md:Md} (eY:dv st id ⟨e,md,ver,[],xs⟩) (cI:md.cr=false∧md.cW=false) (PO:md.bK=true→d=true):
    ∃g':Gh,g'.n=g.n∧Inv w0 Mf g' { st with roots:=aX st.roots id (.live ⟨e,md,ver,[],xs⟩) } a w'∧g'.rv id [] = .slice (some ⟨b,o,none⟩) xs.length cap:=by
 have PQ:b<w'.heap.size:=(Array.getElem?_eq_some_iff.1 hb).1
 have pH:Kept w0 w' Mf:=I.kept.step hos IF AS hs (fun k hk=>by subst hk;exact cK.gy)
 have I1:Inv w0 Mf g st a w':=I.world hs (fun k h1 h2=>cK.ro (h2▸h1)) (fun id k h1 h2 h3=>cK.r id h1 (h3▸h2)) (fun b' h1 h2=>cK.b b' h1 h2) pH
 have Pp:dI w' (fun k=>g.ro k∨F k) d e xs cs o G:=hp.same hs (fun i j k h=>(hG i j k h).1) (fun k h=>h.elim (fun h1 h2=>cK.ro (h2▸h1)) (fun h1=>(hF k h1).1))
 cases xK:md.bK
 ·-- what it is built of is read alone from now on
  have mD:md = .nq:=by cases md<;>simp_all [Md.bK,Md.cr,Md.cW]
  subst mD
  let PR:Nat→Prop:=fun k=>(g.ro k∨F k)∨∃i j,G i j k
  obtain ⟨av,h0,fw⟩:=Pp.nq hb gx ff (ro':=PR) (fun k=> .inl) (fun i j k h=> .inr ⟨i,j,h⟩)
  have ID:∀k,PR k→k≠b:=fun k h=>h.elim (fun h=>h.elim (fun h1 h2=>cK.ro (h2▸h1)) fun h1=>(hF k h1).1) fun ⟨i,j,h1⟩=>(hG i j k h1).1
  have I2:Inv w0 Mf { g with ro:=PR } st a w':=I1.Iv (G:=PR) (fun k h=> .inl (.inl h))
   (fun id k h1 h2 h3=>h3.elim (fun h=>h.elim (I1.apart.dZ id k h1 h2) (fun h=>(hF k h).2.1.r id h1 h2)) fun ⟨i,j,h⟩=>(hG i j k h).2.1.r id h1 h2)
   (fun b' h1 h3=>h3.elim (fun h=>h.elim (I1.apart.fL b' h1) (fun h=>(hF _ h).2.1.b b' h1 rfl)) fun ⟨i,j,h⟩=>(hG i j _ h).2.1.b b' h1 rfl)
   (fun k h=>h.elim (fun h=>h.elim (I1.apart.c7 k) fun h=>Nat.lt_of_lt_of_le (hF k h).2.2 hs.1) fun ⟨i,j,h⟩=>Nat.lt_of_lt_of_le (hG i j k h).2.2 hs.1)
   (fun k h=>h.elim (fun h=>h.elim (I1.apart.bU k) fun h=> .inr (hF k h).2.1.gy) fun ⟨i,j,h⟩=> .inr (hG i j k h).2.1.gy)
  have I3:=I2.b8 (id:=id) (r:=⟨e,.nq,ver,[],xs⟩) eY (av:=av) (F:=fun k=>k=b)
   (by simp only [aS,Gh.b8,if_true];exact fw)
   (fun k hk=>by subst hk;exact ⟨fun aH h1 _=>cK.r aH h1,fun h=>ID _ h rfl,cK.b,cK.gy,PQ⟩)
  exact ⟨_,by rfl,I3,by simp [Gh.b8,h0]⟩
 ·have hd:=PO xK
  subst hd
  have acg:md = .deep:=by cases md<;>simp_all [Md.bK]
  subst acg
  obtain ⟨av,h0,fw⟩:=Pp.own hb gx ff (fun i j h=>(hG i j b h).1 rfl)
  have I3:=I1.b8 (id:=id) (r:=⟨e,.deep,ver,[],xs⟩) eY (av:=av) (F:=fun k=>k=b∨∃i j,G i j k)
   (by simp only [aS,Gh.b8,if_true];exact fw)
   (fun k hk=>by
    rcases hk with rfl | ⟨i,j,h⟩
    ·exact ⟨fun aH h1 _=>cK.r aH h1,cK.ro,cK.b,cK.gy,PQ⟩
    ·obtain ⟨_,h2,h3⟩:=hG i j k h
     exact ⟨fun aH h1 _=>h2.r aH h1,h2.ro,h2.b,h2.gy,Nat.lt_of_lt_of_le h3 hs.1⟩)
  exact ⟨_,by rfl,I3,by simp [Gh.b8,h0]⟩
theorem Inv.IG (I:Inv w0 Mf g st a w) {e:Ty} {id ver:Nat} {md:Md} (eY:dv st id ⟨e,md,ver,[],[]⟩) (cI:md.cr=false∧md.cW=false):
    ∃g':Gh,g'.n=g.n∧Inv w0 Mf g' { st with roots:=aX st.roots id (.live ⟨e,md,ver,[],[]⟩) } a w∧g'.rv id [] = .slice none 0 0:=by
 have tR:∀p s,aR e [] p=some s→p=[]∧s=⟨e,[]⟩:=by
  intro p s hs
  cases p with
  | nil=>simp only [aR,Option.some.injEq] at hs;exact ⟨rfl,hs.symm⟩
  | cons ij p=>simp [aR] at hs
 have eG:bo w (fun _=>False) e [] (fun _=> .slice none 0 0):=
  ⟨fun p s hs=>by obtain ⟨rfl,rfl⟩:=tR p s hs;exact .inl ⟨rfl,rfl⟩,fun p q s s' b _ _ h _=>by simp [q6] at h⟩
 have I3:=I.b8 (id:=id) (r:=⟨e,md,ver,[],[]⟩) eY (av:=fun _=> .slice none 0 0) (F:=fun _=>False)
  (by
   cases md with
   | deep=>simp only [aS,Gh.b8,if_true];exact eG
   | nq=>
    simp only [aS,Gh.b8,if_true]
    exact ⟨.inl ⟨rfl,rfl⟩,fun p s hp hs=>(hp (tR p s hs).1).elim⟩
   | Er=>simp [Md.cr] at cI
   | part k=>simp [Md.cW] at cI)
  (fun k hk=>hk.elim)
 exact ⟨_,by rfl,I3,by simp [Gh.b8]⟩
structure Old (w0 w:World) (Mf:Nat→Prop) (g:Gh) (st:St) (d:Bool) (e:Ty) (xs:List (El e)) (sa:Option Addr) (cap:Nat) (iW:List Value) (G:Nat→Nat→Nat→Prop):Prop where
 len:iW.length=xs.length*aD e
 UR:xd w sa iW
 fits:xs.length≤cap
 room:∀b o,sa=some ⟨b,o,none⟩→∃cs el,w.heap[b]? =some (.cells cs el (0,0))∧o+cap*aD e≤cs.size
 Ys:sa=none→cap=0
 spot:∀ad,sa=some ad→ad.spot=none
 rows:∀i x j c,xs[i]? =some x→(enc e x)[j]? =some c→∃u,iW[i*aD e+j]? =some u∧pF w (fun k=>G i j k∨g.ro k) c u∧(d=true→iO w (G i j) c u)
 Tj:∀i j i' j' k,G i j k→G i' j' k→i=i'∧j=j'
 free:∀b o,sa=some ⟨b,o,none⟩→fx w0 Mf g st b∧(∀ i j,¬G i j b)
 II:∀i j k,G i j k→fx w0 Mf g st k∧k<w.heap.size
theorem Inv.appendCore (hE:E.Ok P) (I:Inv w0 Mf g st a w) {T T' ty:Nat} {e e':Ty} (hT:E.code T=some (.sl e)) (Ih:E.code T'=some (.sl e')) {d1 d2:Bool} {xs ys:List (El e)} {sa xa:Option Addr} {cap c2:Nat}
    {iW news:List Value} {G1 G2:Nat→Nat→Nat→Prop} {F:Nat→Prop} {x:Value} (hold:Old w0 w Mf g st d1 e xs sa cap iW G1) (kH:Src w g.ro d2 F e ys x xa c2 news G2)
 (hF:∀k,F k→fx w0 Mf g st k∧k<w.heap.size∧(∀ o b,sa=some ⟨b,o,none⟩→k≠b)∧∀i j,¬G1 i j k) (kG:xs.length+ys.length≤bT) {id ver:Nat} {md:Md}
 (eY:dv st id ⟨e,md,ver,[],xs++ys⟩) (cI:md.cr=false∧md.cW=false) (PO:md.bK=true→d1=true∧d2=true):
    ∃v' w' g',(Builtin.append_ #[T,T'] ty #[.slice sa xs.length cap,x]).run P w = .ok v' w'∧g'.n=g.n∧Inv w0 Mf g' { st with roots:=aX st.roots id (.live ⟨e,md,ver,[],xs++ys⟩) } a w'∧g'.rv id []=v':=by
 obtain ⟨v',w',er,hos,IF,AS,yZ⟩:=CZ (P:=P) (ty:=ty) hE hT Ih hold.len hold.UR kH.len kH.UR kH.flat hold.fits hold.room hold.Ys hold.spot kG (c:=c2)
 rw [← kH.eq] at er
 rcases yZ with ⟨rfl,_,hn,hm,rfl⟩ | ⟨b,oo,rh,cs,el,rfl,hb,Yt,AT,nE,cq,US⟩
 ·have hx:xs=[]:=List.eq_nil_of_length_eq_zero hn
  have hy:ys=[]:=List.eq_nil_of_length_eq_zero hm
  subst hx;subst hy
  obtain ⟨g',h1,h2,h3⟩:=I.IG (e:=e) (id:=id) (ver:=ver) (md:=md) (by simpa using eY) cI
  exact ⟨_,_,g',er,h1,by simpa using h2,h3⟩
 ·have xc:=gK e
  have EA:fx w0 Mf g st b∧(∀ i j,¬G1 i j b)∧ ¬F b:=by
   rcases US with ⟨o',yQ⟩ | rfl
   ·obtain ⟨h1,h2⟩:=hold.free b o' yQ
    exact ⟨h1,h2,fun h=>(hF b h).2.2.1 o' b yQ rfl⟩
   ·exact ⟨I.Ez,fun i j h=>by have:=(hold.II i j _ h).2;omega,fun h=>by have:=(hF _ h).2.1;omega⟩
  let G:Nat→Nat→Nat→Prop:=fun i j k=>(i<xs.length∧G1 i j k)∨(xs.length≤i∧G2 (i-xs.length) j k)
  have hp:dI w (fun k=>g.ro k∨F k) (d1&&d2) e (xs++ys) cs oo G:=by
   refine ⟨fun i y j c hy hc=> ?_,fun i j i' j' k h1 h2=> ?_⟩
   ·have hj:j<aD e:=by
     rw [← br e y]
     rcases Nat.lt_or_ge j (enc e y).length with h' | h'
     ·exact h'
     ·simp [List.getElem?_eq_none h'] at hc
    by_cases hi:i<xs.length
    ·rw [List.getElem?_append_left hi] at hy
     obtain ⟨u,hu,hr,ho⟩:=hold.rows i y j c hy hc
     have ct:i*aD e+j<iW.length:=by
      rcases Nat.lt_or_ge (i*aD e+j) iW.length with h' | h'
      ·exact h'
      ·simp [List.getElem?_eq_none h'] at hu
     refine ⟨u,?_,hr.mono fun k hk=>hk.elim (fun h=> .inl (.inl ⟨hi,h⟩)) (fun h=> .inr (.inl h)),fun hd=> ?_⟩
     ·rw [Nat.add_assoc];exact nE _ u (by rw [List.getElem?_append_left ct];exact hu)
     ·simp only [Bool.and_eq_true] at hd
      have:=ho hd.1
      cases c with
      | v q=>exact this
      | l t zs=>obtain ⟨f,h0,h1⟩:=this;exact ⟨f,h0,h1.mono fun k hk=> .inl ⟨hi,hk⟩⟩
    ·rw [List.getElem?_append_right (by omega)] at hy
     obtain ⟨u,hu,hr,ho⟩:=kH.rows (i-xs.length) y j c hy hc
     have ct:(i-xs.length)*aD e+j<news.length:=by
      rcases Nat.lt_or_ge ((i-xs.length)*aD e+j) news.length with h' | h'
      ·exact h'
      ·simp [List.getElem?_eq_none h'] at hu
     refine ⟨u,?_,hr.mono fun k hk=>hk.elim (fun h=> .inr (.inr h)) (fun h=> .inr (.inl h)),fun hd=> ?_⟩
     ·have e1:i*aD e=xs.length*aD e+(i-xs.length)*aD e:=by rw [← Nat.add_mul];congr 1;omega
      rw [Nat.add_assoc]
      refine nE _ u ?_
      rw [List.getElem?_append_right (by rw [hold.len];omega),hold.len]
      rw [show i*aD e+j-xs.length*aD e=(i-xs.length)*aD e+j by omega]
      exact hu
     ·simp only [Bool.and_eq_true] at hd
      have:=ho hd.2
      cases c with
      | v q=>exact this
      | l t zs=>obtain ⟨f,h0,h1⟩:=this;exact ⟨f,h0,h1.mono fun k hk=> .inr ⟨by omega,hk⟩⟩
   ·rcases h1 with ⟨hi,h1⟩ | ⟨hi,h1⟩<;>rcases h2 with ⟨mZ,h2⟩ | ⟨mZ,h2⟩
    ·exact hold.Tj _ _ _ _ k h1 h2
    ·exact ((hF k (kH.sub _ _ _ h2)).2.2.2 i j h1).elim
    ·exact ((hF k (kH.sub _ _ _ h1)).2.2.2 i' j' h2).elim
    ·obtain ⟨h3,h4⟩:=kH.Tj _ _ _ _ k h1 h2
     exact ⟨by omega,h4⟩
  obtain ⟨g',h1,h2,h3⟩:=I.build cq hos IF AS hb EA.1 hp (fun i j k h=>by
    rcases h with ⟨hi,h⟩ | ⟨hi,h⟩
    ·exact ⟨fun e=>EA.2.1 i j (e▸h),(hold.II i j k h).1,(hold.II i j k h).2⟩
    ·have hk:=kH.sub _ _ _ h
     exact ⟨fun e=>EA.2.2 (e▸hk),(hF k hk).1,(hF k hk).2.1⟩)
   (fun k h=>⟨fun e=>EA.2.2 (e▸h),(hF k h).1,(hF k h).2.1⟩) (by simpa using Yt) AT eY cI (fun h=>by simp [PO h])
  exact ⟨_,w',g',er,h1,h2,by simpa using h3⟩
theorem nF {id:Nat} {t:Ty} {md:Md} {xs:List (El t)} {k:cB→Option R} {r:R} (h:jU st id t md xs k=some r):
    ∃ver,dv st id ⟨t,md,ver,[],xs⟩∧k ⟨t,md,ver,[],xs⟩=some r:=by
 unfold jU at h
 split at h
 ·rename_i r' hn;obtain ⟨_,h⟩:=a8 h;exact ⟨r'.ver+1,by unfold dv;rw [hn];simp,h⟩
 unfold mkRoot at h
 split at h
 ·rename_i hn;exact ⟨0,by unfold dv;rw [hn];trivial,h⟩
 ·rename_i v hn;exact ⟨v+1,by unfold dv;rw [hn];simp,h⟩
 ·cases h
theorem C2 {id:Nat} {t:Ty} {md:Md} {xs:List (El t)} {k:cB→Option R} {r:R} (h:mkRoot st id t md xs k=some r):
    ∃ver,dv st id ⟨t,md,ver,[],xs⟩∧k ⟨t,md,ver,[],xs⟩=some r∧∀ro,ax st.roots id≠some (.live ro):=by
 unfold mkRoot at h
 split at h
 ·rename_i hn;exact ⟨0,by unfold dv;rw [hn];trivial,h,fun ro=>by rw [hn];simp⟩
 ·rename_i v hn;exact ⟨v+1,by unfold dv;rw [hn];simp,h,fun ro=>by rw [hn];simp⟩
 ·cases h
theorem Inv.td {g':Gh} {w':World} {id:Nat} {r:cB} (I:Inv w0 Mf g' { st with roots:=aX st.roots id (.live r) } a w') (hl:r.log=[]) {dst:Option Nat} (hd:∀d,dst=some d→d<g'.n.sz) (hf:cR (g'.rv id [])=true):
    Inv w0 Mf g' (({ st with roots:=aX st.roots id (.live r) }:St).apply { slot:=dst.map fun d=>(d,.c (.one (.h id r.ver 0 []))) }) (a.put dst (g'.rv id [])) w':=
  I.CR hd ⟨hf,by unfold cJ;simp only [bd];exact .inr ⟨trivial,Nat.zero_le _⟩,fun r' kF=>by
    have:=kF.1
    simp only [bd,Option.some.injEq,Rt.live.injEq,reduceCtorEq,or_false] at this
    subst this
    exact ⟨rfl,by simp [aR]⟩⟩
theorem oC {m:Md} {d:Bool} (h:(m.meet d).bK=true):m.bK=true∧d=true:=by
 cases m<;>cases d<;>simp_all [Md.meet,Md.bK]
theorem qi {m:Md} {d:Bool} (h:m.cr=false):(m.meet d).cr=false:=by
 cases m<;>cases d<;>simp_all [Md.meet,Md.cr]
theorem oD {m:Md} {d:Bool} (h:m.cW=false):(m.meet d).cW=false:=by
 cases m<;>cases d<;>simp_all [Md.meet,Md.cW]
theorem jW.free (I:Inv w0 Mf g st a w) {aE:St} {eX:List (Nat×Rt)} {Fs:List (Nat→Prop)} (T:jW w g st aE eX Fs) {F:Nat→Prop} (hF:F∈Fs) {k:Nat} (hk:F k):fx w0 Mf g aE k∧k<w.heap.size:=by
 obtain ⟨id,h1,h2⟩:=T.src F hF k hk
 exact ⟨⟨fun aH h=>T.off F hF k hk aH h,I.apart.dZ id k h1 h2,fun b hb e=>I.apart.rb id b h1 (by rw [T.eq] at hb;exact hb) (e▸h2),I.apart.ck id k h1 h2⟩,I.apart.eb id k h1 h2⟩
theorem fg.free (I:Inv w0 Mf g st a w) {rf:Nat→Nat→Prop} {aE:St} {eX:List (Nat×Rt)} {Fs:List (Nat→Prop)} (T:fg w g rf st aE eX Fs) {F:Nat→Prop} (hF:F∈Fs) {k:Nat} (hk:F k):fx w0 Mf (g.sU rf) aE k∧k<w.heap.size:=by
 obtain ⟨id,h1,h2⟩:=T.src F hF k hk
 exact ⟨⟨fun aH h=>T.off F hF k hk aH h,I.apart.dZ id k h1 h2,fun b hb e=>I.apart.rb id b h1 (by rw [T.eq] at hb;exact hb) (e▸h2),I.apart.ck id k h1 h2⟩,I.apart.eb id k h1 h2⟩
theorem fx.drop {id:Nat} {v:Nat} {n:Nat} (h:∀aH,aP st aH→aH≠id→ ¬g.rf aH n) (cZ : ¬g.ro n) (hb:∀b,bA st b→g.bx b≠n) (hm:w0.heap.size≤n∨Mf n):
    fx w0 Mf g { st with roots:=aX st.roots id (.gone v) } n:=
 ⟨fun aH ⟨r',h1,h2⟩=>by
    simp only [aF] at h1
    by_cases e:aH=id
    · simp [e] at h1
    · exact h aH ⟨r',by simpa [e] using h1,h2⟩ e,cZ,hb,hm⟩
theorem Inv.Tn (I:Inv w0 Mf g st a w) {id:Nat} {e:Ty} {xs:List (El e)} {md:Md} {ver:Nat} {log:List Nat} (h:ax st.roots id=some (.live ⟨e,md,ver,log,xs⟩)) (hm:md.cr=false) (hmp:md.cW=false):
    ∃sa cap iW G,g.rv id [] = .slice sa xs.length cap∧Old w0 w Mf g { st with roots:=aX st.roots id (.gone ver) } md.bK e xs sa cap iW G∧(∀ i j n,G i j n→g.rf id n)∧(∀ b o,sa=some ⟨b,o,none⟩→g.rf id b):=by
 have cU:aP st id:=⟨_,h,hm⟩
 have cK:∀n,g.rf id n→fx w0 Mf g { st with roots:=aX st.roots id (.gone ver) } n:=fun n hn=>
  fx.drop (fun aH h1 h2 h3=>h2 (I.apart.rr aH id n h1 cU h3 hn)) (I.apart.dZ id n cU hn) (fun b hb e=>I.apart.rb id b cU hb (e▸hn)) (I.apart.ck id n cU hn)
 have hr:=I.roots id _ h
 -- the node itself
 have hU:bB w (g.rf id) e xs (g.rv id []) fun i j=>g.rv id [(i,j)]:=by
  unfold aS at hr
  split at hr
  ·exact hr.1 [] _ rfl
  ·exact hr.1
  ·rename_i cI;simp only at cI;simp [cI,Md.cr] at hm
  ·rename_i cI;simp only at cI;simp [cI,Md.cW] at hmp
 let G:Nat→Nat→Nat→Prop:=fun i j n=>md.bK=true∧gF e xs (g.rv id) [(i,j)] n
 have dy:∀i j n,G i j n→g.rf id n:=by
  intro i j n ⟨hd,q,s,h1,h2⟩
  unfold aS at hr
  split at hr
  ·exact (hr.1 _ s h1).nt h2
  ·rename_i cI;simp only at cI;simp [cI,Md.bK] at hd
  ·rename_i cI;simp only at cI;simp [cI,Md.bK] at hd
  ·rename_i cI;simp only at cI;simp [cI,Md.bK] at hd
 have IJ:∀i j i' j' n,G i j n→G i' j' n→i=i'∧j=j':=by
  intro i j i' j' n ⟨hd,q,s,h1,h2⟩ ⟨_,q',s',h3,h4⟩
  unfold aS at hr
  split at hr
  ·have:=hr.2 _ _ _ _ n h1 h3 h2 h4
   simp only [List.singleton_append,List.cons.injEq,Prod.mk.injEq] at this
   exact this.1
  ·rename_i cI;simp only at cI;simp [cI,Md.bK] at hd
  ·rename_i cI;simp only at cI;simp [cI,Md.bK] at hd
  ·rename_i cI;simp only at cI;simp [cI,Md.bK] at hd
 have UT:∀ {us:Array Value} {oo:Nat},RowsIn e xs us oo (fun i j=>g.rv id [(i,j)])→∀i x j c,xs[i]? =some x→(enc e x)[j]? =some c→
   ∃u,us[oo+i*aD e+j]? =some u∧pF w (fun k=>G i j k∨g.ro k) c u∧(md.bK=true→iO w (G i j) c u):=by
  intro us oo eP i x j c hx hc
  unfold aS at hr
  split at hr
  ·rename_i cI
   simp only at cI
   obtain ⟨u,h1,h2,h3⟩:=(hr.pieces (ro:=g.ro) eP).rows i x j c hx hc
   have hG:∀n,gF e xs (g.rv id) [(i,j)] n→G i j n:=fun n hn=>⟨by simp [cI,Md.bK],hn⟩
   refine ⟨u,h1,h2.mono fun k hk=>hk.imp (hG k) (fun h=>h),fun _=> ?_⟩
   cases c with
   | v q=>exact h3 rfl
   | l t zs=>obtain ⟨f,h0,h4⟩:=h3 rfl;exact ⟨f,h0,h4.mono hG⟩
  ·rename_i cI
   simp only at cI
   obtain ⟨u,h1,h2,h3⟩:=(hr.pieces eP).rows i x j c hx hc
   exact ⟨u,h1,h2.mono fun k hk=>hk.elim (fun h=>h.elim) .inr,fun h=>by simp [cI,Md.bK] at h⟩
  ·rename_i cI;simp only at cI;simp [cI,Md.cr] at hm
  ·rename_i cI;simp only at cI;simp [cI,Md.cW] at hmp
 rcases hU with ⟨rfl,hv⟩ | ⟨b,oo,cap,us,el,hv,Pq,hb,hle,ff,eP⟩
 ·exact ⟨none,0,[],G,hv,⟨by simp,.inl rfl,Nat.le_refl _,fun b o h=>by simp at h,fun _=>rfl,fun ad h=>by simp at h,fun i x j c h=>by simp at h,IJ,fun b o h=>by simp at h,
   fun i j n h=>⟨cK n (dy i j n h),I.apart.eb id n cU (dy i j n h)⟩⟩,dy,fun b o h=>by simp at h⟩
 ·have hll:oo+xs.length*aD e≤us.size:=Nat.le_trans (Nat.add_le_add_left (Nat.mul_le_mul_right _ hle) _) ff
  refine ⟨some ⟨b,oo,none⟩,cap,(us.toList.drop oo).take (xs.length*aD e),G,hv,⟨by simp;omega,.inr ⟨b,oo,us,el,(0,0),rfl,hb,fun j v hj=> ?_⟩,hle,fun b' o' h=> ?_,fun h=>by simp at h,fun ad h=> ?_,
   fun i x j c hx hc=> ?_,IJ,fun b' o' h=> ?_,fun i j n h=>⟨cK n (dy i j n h),I.apart.eb id n cU (dy i j n h)⟩⟩,dy,fun b' o' h=> ?_⟩
  ·rw [List.getElem?_take] at hj
   split at hj
   ·rw [List.getElem?_drop] at hj;simpa using hj
   ·cases hj
  ·simp only [Option.some.injEq,Addr.mk.injEq,and_true] at h;obtain ⟨rfl,rfl⟩:=h
   exact ⟨us,el,hb,ff⟩
  ·simp only [Option.some.injEq] at h;subst h;rfl
  ·obtain ⟨u,h1,h2,h3⟩:=UT eP i x j c hx hc
   refine ⟨u,?_,h2,h3⟩
   have hi:i<xs.length:=by
    rcases Nat.lt_or_ge i xs.length with h' | h'
    ·exact h'
    ·simp [List.getElem?_eq_none h'] at hx
   have hj:j<aD e:=by
    rw [← br e x]
    rcases Nat.lt_or_ge j (enc e x).length with h' | h'
    ·exact h'
    ·simp [List.getElem?_eq_none h'] at hc
   have:i*aD e+j<xs.length*aD e:=by
    have:(i+1)*aD e≤xs.length*aD e:=Nat.mul_le_mul_right _ hi
    rw [Nat.add_mul] at this;omega
   rw [List.getElem?_take,if_pos this,List.getElem?_drop]
   simpa [Nat.add_assoc] using h1
  ·simp only [Option.some.injEq,Addr.mk.injEq,and_true] at h;obtain ⟨rfl,rfl⟩:=h
   refine ⟨cK b Pq,fun i j hG=> ?_⟩
   obtain ⟨hd,q,s,h1,h2⟩:=hG
   unfold aS at hr
   split at hr
   ·have:=hr.2 _ [] s ⟨e,xs⟩ b h1 rfl h2 (by rw [hv];rfl)
    simp at this
   ·rename_i cI;simp only at cI;simp [cI,Md.bK] at hd
   ·rename_i cI;simp only at cI;simp [cI,Md.bK] at hd
   ·rename_i cI;simp only at cI;simp [cI,Md.bK] at hd
  ·simp only [Option.some.injEq,Addr.mk.injEq,and_true] at h;obtain ⟨rfl,rfl⟩:=h
   exact Pq
theorem Inv.C3 (I:Inv w0 Mf g st a w) {id:Nat} {r:cB} (h:ax st.roots id=some (.live r)):cR (g.rv id [])=true:=by
 exact I.AH h (p:=[]) (s:=⟨r.t,r.xs⟩) rfl
theorem IK (hE:E.Ok P) (I:Inv w0 Mf g st a w) (hd:∀d,o.dst=some d→d<g.n.sz) (hK:Then w0 Mf g st k r K) {c:Call} (cc:o.op = .call c) (IL:c.callee = .builtin .append)
 (h:eE E o st k=some r):o.wp P a w K Q:=by
 simp only [eE,cc,IL,eD] at h
 split at h
 case h_2=>cases h
 rename_i s x T T' gD IA
 have iV:c.args = #[s,x]:=by apply Array.ext';simpa using gD
 have AP:c.argTypes = #[T,T']:=by apply Array.ext';simpa using IA
 have key:∀v w',(Builtin.append_ #[T,T'] o.type #[a.eval s,a.eval x]).run P w = .ok v w'→(execOp a.eval o).run P w = .ok (.value v) w':=by
  intro v w' hv
  simp [execOp,cc,resolve,IL,invoke,builtin,iV,AP,hv]
 replace h:=aQ h;obtain ⟨e',Yu,h⟩:=h
 have Ih:=fN Yu
 replace h:=I.fr h;obtain ⟨cs,h,fe⟩:=h
 replace h:=I.fr h;obtain ⟨cx,h,hcx⟩:=h
 unfold lS at h
 split at h
 case h_2=>cases h
 rename_i e hT
 split at h
 ·-- onto nil
  replace h:=I.kJ h hcx;obtain ⟨ys,d,aE,eX,F,rf,xa,cap,news,G,h,I',TK,kH⟩:=h
  replace h:=a8 h;obtain ⟨kG,h⟩:=h
  replace h:=nF h;obtain ⟨ver,eY,h⟩:=h
  have hs:=fe.2;simp only [lQ] at hs
  have hold:Old w0 w Mf (g.sU rf) aE true e ([]:List (El e)) none 0 [] (fun _ _ _=>False):=
   ⟨by simp,.inl rfl,Nat.le_refl _,fun b o h=>by simp at h,fun _=>rfl,fun ad h=>by simp at h,fun i x j c h=>by simp at h,fun _ _ _ _ _ h=>h.elim,fun b o h=>by simp at h,fun _ _ _ h=>h.elim⟩
  obtain ⟨v',w',g',er,hn,I2,hv⟩:=I'.appendCore (ty:=o.type) hE hT Ih hold kH
   (fun k hk=>⟨(TK.free I (by simp) hk).1,(TK.free I (by simp) hk).2,fun o b h=>by simp at h,fun _ _ h=>h⟩) (by have:=gw kG;simpa using this) (id:=64*o.dst.getD 0) (ver:=ver) (md:=Md.deep.meet d)
   (by simpa using eY) ⟨qi rfl,oD rfl⟩ (fun h=>⟨rfl,(oC h).2⟩)
  refine nD (key v' w' (by rw [hs];exact er)) (hK _ g' _ _ h hn ?_)
  have oV:=I2.C3 (id:=64*o.dst.getD 0) (bd _ _ _)
  have:=I2.td rfl (dst:=o.dst) (fun d h=>by rw [hn];exact hd d h) oV
  rw [hv] at this
  have lW:=TK.eq
  subst lW
  simpa [St.apply,bc,cg] using this
 ·-- onto an own list
  rename_i id ver iv
  replace h:=I.kJ h hcx;obtain ⟨ys,d,aE,eX,F,rf,xa,cap,news,G,h,I',TK,kH⟩:=h
  replace h:=de h;obtain ⟨ro,dJ,fM,h⟩:=h
  obtain ⟨w3,xe,h⟩:ro.md.cr=false∧ro.md.cW=false∧_:=by
   cases w3:ro.md.cr
   case true=>simp [w3] at h
   cases xe:ro.md.cW
   case true=>simp [w3,xe] at h
   simp only [w3,xe,Bool.or_self,cond_false] at h
   exact ⟨rfl,rfl,h⟩
  replace h:=aQ h;obtain ⟨xs,wy,h⟩:=h
  replace h:=a8 h;obtain ⟨kG,h⟩:=h
  obtain ⟨t,md,IM,log,xs0⟩:=ro
  have:=c6 wy
  simp only [enc,List.cons.injEq,and_true,Cv.l.injEq] at this
  obtain ⟨rfl,hxx⟩:=this
  have hxx:=eq_of_heq hxx
  subst hxx
  simp only at fM w3 xe
  subst fM
  have UU:=(TK.map _ _ fe).rf rf
  obtain ⟨hu,_⟩:=UU.2.2 _ ⟨.inl dJ,rfl,gC _ _⟩
  obtain ⟨sa,acj,iW,G1,To,hold,Yv,UW⟩:=I'.Tn dJ w3 xe
  have I'':=I'.drop dJ
  have C4:∀n,F n→fx w0 Mf (g.sU rf) { aE with roots:=aX aE.roots id (.gone IM) } n∧n<w.heap.size∧(∀ o b,sa=some ⟨b,o,none⟩→n≠b)∧∀i j,¬G1 i j n:=by
   intro n hn
   obtain ⟨hf,ct⟩:=TK.free I (by simp) hn
   have kI:=TK.off F (by simp) n hn id ⟨_,dJ,w3⟩
   exact ⟨fx.drop (fun aH h1 _=>hf.r aH h1) hf.ro hf.b hf.gy,ct,fun o b h e=>kI (e▸UW b o h),fun i j h=>kI (Yv i j n h)⟩
  obtain ⟨v',w',g',er,hn,I2,hv⟩:=I''.appendCore (ty:=o.type) hE hT Ih hold kH C4 (gw kG) (id:=id) (ver:=IM+1) (md:=md.meet d)
   (by unfold dv;simp [bd]) ⟨qi w3,oD xe⟩ oC
  refine nD (key v' w' (by rw [hu,To];exact er)) (hK _ g' _ _ h hn ?_)
  have oV:=I2.C3 (id:=id) (bd _ _ _)
  have:=I2.td rfl (dst:=o.dst) (fun d h=>by rw [hn];exact hd d h) oV
  rw [hv] at this
  have lW:=TK.eq
  subst lW
  simp only [xJ] at this
  simpa [St.apply,bc,cg] using this
 ·-- onto a list within an own one
  rename_i id ver iv p hnp
  have Tm:p≠[]:=hnp
  replace h:=I.kJ h hcx;obtain ⟨ys,d,aE,eX,F,rf,xa,cap,news,G,h,I',TK,kH⟩:=h
  replace h:=da h;obtain ⟨ro,cZ,h⟩:=h
  replace h:=a8 h;obtain ⟨xK,h⟩:=h
  have cI:ro.md = .deep:=by cases hq:ro.md<;>simp_all [Md.bK]
  replace h:=aQ h;obtain ⟨s1,o8,h⟩:=h
  replace h:=aQ h;obtain ⟨xs,wy,h⟩:=h
  replace h:=a8 h;obtain ⟨kG,h⟩:=h
  replace h:=C2 h;obtain ⟨za,eY,h,Yw⟩:=h
  have dP:64*o.dst.getD 0≠id:=fun e=>Yw ro (by rw [e];exact cZ.1)
  obtain ⟨t1,xs1⟩:=s1
  have:=c6 wy
  simp only [enc,List.cons.injEq,and_true,Cv.l.injEq] at this
  obtain ⟨e1,e2⟩:=this
  subst e1
  have e2:=eq_of_heq e2
  subst e2
  have UU:=(TK.map _ _ fe).rf rf
  obtain ⟨hu,ke⟩:=UU.2.2 ro cZ.x
  obtain ⟨s',fv⟩:=Option.isSome_iff_exists.1 ke
  have:=cX fv
  rw [o8] at this;cases this
  obtain ⟨g2,n1,n2,_,n4,I2,eG⟩:=I'.UQ cZ.1 cI Tm fv dP eY
  obtain ⟨sa,acj,iW,G1,To,hold,Yv,UW⟩:=I2.Tn (bd _ _ _) rfl rfl
  have I3:=I2.drop (bd _ _ _)
  have kI:∀n,F n→∀i,aP { aE with roots:=aX (aX aE.roots id (.live ⟨ro.t,.part (.hole p),ro.ver,ro.log,ro.xs⟩)) (64*o.dst.getD 0) (.live ⟨t1,.deep,za,[],xs1⟩) } i→ ¬g2.rf i n:=fun n hn i hi hr=>by
   obtain ⟨i0,h1,h2⟩:=eG i n hi hr
   exact (TK.free I (by simp) hn).1.r i0 h1 h2
  have Yx:aP { aE with roots:=aX (aX aE.roots id (.live ⟨ro.t,.part (.hole p),ro.ver,ro.log,ro.xs⟩)) (64*o.dst.getD 0) (.live ⟨t1,.deep,za,[],xs1⟩) } (64*o.dst.getD 0):=⟨_,bd _ _ _,rfl⟩
  have C4:∀n,F n→fx w0 Mf g2 { aE with roots:=aX (aX (aX aE.roots id (.live ⟨ro.t,.part (.hole p),ro.ver,ro.log,ro.xs⟩)) (64*o.dst.getD 0) (.live ⟨t1,.deep,za,[],xs1⟩)) (64*o.dst.getD 0) (.gone za) } n∧n<w.heap.size∧(∀ o b,sa=some ⟨b,o,none⟩→n≠b)∧∀i j,¬G1 i j n:=by
   intro n hn
   obtain ⟨hf,ct⟩:=TK.free I (by simp) hn
   refine ⟨fx.drop (st:={ aE with roots:=aX (aX aE.roots id (.live ⟨ro.t,.part (.hole p),ro.ver,ro.log,ro.xs⟩)) (64*o.dst.getD 0) (.live ⟨t1,.deep,za,[],xs1⟩) }) (fun i h1 _=>kI n hn i h1) ?_ (fun b hb=> ?_) hf.gy,ct,fun o b h e=>kI n hn _ Yx (e▸UW b o h),fun i j h=>kI n hn _ Yx (Yv i j n h)⟩
   ·rw [n2];exact hf.ro
   ·rw [‹∀ b,g2.bx b=_› b];exact hf.b b hb
  rw [n4] at To
  obtain ⟨v',w',g',er,hn,I4,hv⟩:=I3.appendCore (ty:=o.type) hE hT Ih hold (by rw [n2];exact kH) C4 (gw kG) (id:=64*o.dst.getD 0) (ver:=za+1) (md:=Md.deep.meet d)
   (by unfold dv;simp [bd]) ⟨qi rfl,oD rfl⟩ oC
  have hgn:g'.n=g.n:=hn.trans n1
  refine nD (key v' w' (by rw [hu,To];exact er)) (hK _ g' _ _ h hgn ?_)
  have oV:=I4.C3 (id:=64*o.dst.getD 0) (bd _ _ _)
  have:=I4.td rfl (dst:=o.dst) (fun d h=>by rw [hgn];exact hd d h) oV
  rw [hv] at this
  have lW:=TK.eq
  subst lW
  simp only [xJ] at this
  simpa [St.apply,bc,cg] using this
 ·cases h
theorem zb (off:Nat):∀(l:List Value) (n:Nat) (cells:Array Value),off+n+l.length≤cells.size→
 ((l.zipIdx n).foldl (fun cs (p:Value×Nat)=>cs.setIfInBounds (off+p.2) p.1) cells).size=cells.size∧
    ∀m,((l.zipIdx n).foldl (fun cs (p:Value×Nat)=>cs.setIfInBounds (off+p.2) p.1) cells)[m]? =if off+n≤m∧m<off+n+l.length then l[m-(off+n)]? else cells[m]?
 | [],n,cells,h=>⟨rfl,fun m=>by rw [if_neg (by simp)];rfl⟩
 | v::l,n,cells,h=>by
  simp only [List.length_cons] at h
  obtain ⟨h1,h2⟩:=zb off l (n+1) (cells.setIfInBounds (off+n) v) (by simp;omega)
  simp only [List.zipIdx_cons,List.foldl_cons]
  refine ⟨by rw [h1];simp,fun m=> ?_⟩
  rw [h2 m]
  by_cases hm:m=off+n
  ·subst hm
   rw [if_neg (by omega),if_pos (by simp),Array.getElem?_setIfInBounds_self_of_lt (by omega)]
   simp
  ·by_cases hr:off+n≤m∧m<off+n+(v::l).length
   ·simp only [List.length_cons] at hr
    rw [if_pos (by omega),if_pos (by simp;omega)]
    rw [show m-(off+n)=(m-(off+(n+1)))+1 by omega,List.getElem?_cons_succ]
   ·simp only [List.length_cons] at hr
    rw [if_neg (by omega),if_neg (by simp;omega),Array.getElem?_setIfInBounds_ne (by omega)]
def putAt (cells:Array Value) (off:Nat) (vs:Array Value):Array Value:=vs.zipIdx.foldl (fun cs (p:Value×Nat)=>cs.setIfInBounds (off+p.2) p.1) cells
theorem eZ {cells:Array Value} {off:Nat} {vs:Array Value} (h:off+vs.size≤cells.size):(putAt cells off vs).size=cells.size:=by
 have:=(zb off vs.toList 0 cells (by simpa using h)).1
 unfold putAt
 rw [← Array.foldl_toList,Array.toList_zipIdx]
 exact this
theorem iX {cells:Array Value} {off:Nat} {vs:Array Value} (h:off+vs.size≤cells.size) (m:Nat):(putAt cells off vs)[m]? =if off≤m∧m<off+vs.size then vs[m-off]? else cells[m]? :=by
 have:=(zb off vs.toList 0 cells (by simpa using h)).2 m
 unfold putAt
 rw [← Array.foldl_toList,Array.toList_zipIdx]
 simpa using this
theorem xL {place:Nat→Option (Nat×Nat)} {cells:Array Value} {i off:Nat} {v:Value} {rest:List (Nat×Value)} (hp:place i=some (off,v.cells.size)) (h:off+v.cells.size≤cells.size):
    Instr.fill place cells ((i,v)::rest)=Instr.fill place (putAt cells off v.cells) rest:=by
 simp only [Instr.fill,hp]
 rw [if_neg (by simp;omega)]
 rfl
theorem IN {t:Ty} {j:Nat} {t':Ty} {ys:List (El t')} (h:(enc t (zero t))[j]? =some (.l t' ys)):ys=[]:=by
 have key:(enc t (zero t)).all (fun c=>match c with | .v _=>true | .l _ ys=>ys.isEmpty)=true:=by cases t<;>rfl
 have:=List.all_eq_true.1 key _ (List.mem_of_getElem? h)
 simpa using this
theorem zc (w:World) (F:Nat→Prop) (t:Ty):kb w F t [] (.slice none 0 0):=
 ⟨fun _=> .slice none 0 0,rfl,fun p s hs=>by
      cases p with
      | nil=>simp only [aR,Option.some.injEq] at hs;subst hs;exact .inl ⟨rfl,rfl⟩
      | cons ij p=>simp [aR] at hs,
    fun p q s s' b _ _ h _=>by simp [q6] at h⟩
theorem iO.rd {F:Nat→Prop} {c:Cv} {u:Value} (h:iO w F c u):pF w F c u:=by
 cases c with
 | v x=>exact h
 | l t ys=>obtain ⟨av,h0,h1⟩:=h;exact ⟨av,h0,h1.rd⟩
theorem iO.mono {F G:Nat→Prop} (hFG:∀k,F k→G k) {c:Cv} {u:Value} (h:iO w F c u):iO w G c u:=by
 cases c with
 | v x=>exact h
 | l t ys=>obtain ⟨av,h0,h1⟩:=h;exact ⟨av,h0,h1.mono hFG⟩
def sV (t:Ty) (n:Nat):Array Value:=(Array.range (n*aD t)).map fun i=>(ef t).getD (i%aD t) (.bool false)
theorem rj (t:Ty) (n:Nat):(sV t n).size=n*aD t:=by simp [sV]
theorem sb (w:World) (ro:Nat→Prop) (t:Ty) (n:Nat):dI w ro true t (List.replicate n (zero t)) (sV t n) 0 (fun _ _ _=>False):=by
 refine ⟨fun i x j c hx hc=> ?_,fun _ _ _ _ _ h=>h.elim⟩
 have hi:i<n:=by
  rcases Nat.lt_or_ge i n with h' | h'
  ·exact h'
  ·rw [List.getElem?_eq_none (by simpa using h')] at hx;cases hx
 simp only [List.getElem?_replicate,hi,if_true,Option.some.injEq] at hx
 subst hx
 have hj:j<aD t:=by
  rw [← br t (zero t)]
  rcases Nat.lt_or_ge j (enc t (zero t)).length with h' | h'
  ·exact h'
  ·simp [List.getElem?_eq_none h'] at hc
 have ct:i*aD t+j<n*aD t:=by
  have:(i+1)*aD t≤n*aD t:=Nat.mul_le_mul_right _ hi
  rw [Nat.add_mul] at this;omega
 have UX:(i*aD t+j)%aD t=j:=by rw [Nat.mul_comm,Nat.mul_add_mod,Nat.mod_eq_of_lt hj]
 have hz:(sV t n)[0+i*aD t+j]? =some ((ef t).getD j (.bool false)):=by
  rw [Nat.zero_add]
  simp only [sV,Array.getElem?_map]
  rw [Array.getElem?_eq_getElem (by simpa using ct)]
  simp [UX]
 refine ⟨_,hz,?_⟩
 cases c with
 | v x=>
  have hzv:(ef t).getD j (.bool false)=x:=by simp only [ef,List.getD,List.getElem?_map,hc,Option.map_some,Option.getD_some]
  exact ⟨hzv,fun _=>hzv⟩
 | l t' ys=>
  have:=IN hc
  subst this
  have hzv:(ef t).getD j (.bool false) = .slice none 0 0:=by simp only [ef,List.getD,List.getElem?_map,hc,Option.map_some,Option.getD_some]
  rw [hzv]
  have eG:iO w (fun _=>False) (.l t' []) (.slice none 0 0):=zc w _ t'
  exact ⟨eG.rd.mono fun _ h=>h.elim,fun _=>eG⟩
theorem PS {k:Nat} : ¬Any [] k:=fun ⟨_,h,_⟩=>by simp at h
theorem mE {Fs Gs:List (Nat→Prop)} {k:Nat}:Any (Fs++Gs) k↔Any Fs k∨Any Gs k:=by
 simp only [Any,List.mem_append]
 constructor
 ·rintro ⟨F,h | h,hk⟩
  ·exact .inl ⟨F,h,hk⟩
  ·exact .inr ⟨F,h,hk⟩
 ·rintro (⟨F,h,hk⟩ | ⟨F,h,hk⟩)
  ·exact ⟨F,.inl h,hk⟩
  ·exact ⟨F,.inr h,hk⟩
theorem Inv.xB (I:Inv w0 Mf g st a w) {t:Ty} {s:Sv} {k:El t→Bool→St→List (Nat×Rt)→Option R} {r:R} {u:Value} (h:xB st t s k=some r) (hs:dD w g st s u):
    ∃x us d aE eX Fs,k x d aE eX=some r∧Form t u us∧Inv w0 Mf g aE a w∧jW w g st aE eX Fs∧mB w g.ro (enc t x) us.toList Fs d:=by
 obtain ⟨cs,fe,h⟩:=aQ h
 obtain ⟨us,hf,hc⟩:=dm fe hs
 obtain ⟨cv,d,aE,eX,Fs,h1,I',T,hA⟩:=I.pE h hc.l
 obtain ⟨x,hx,h3⟩:=aQ h1
 have pZ:=c6 hx
 subst pZ
 exact ⟨x,us,d,aE,eX,Fs,h3,hf,I',T,hA⟩
theorem Inv.re (I:Inv w0 Mf g st a w) {t:Ty} {s:Sv} {k:El t→Bool→St→List (Nat×Rt)→Option R} {r:R} {u:Value} (h:re st t s k=some r) (hs:dD w g st s u):
    ∃x us d aE eX Fs rf,k x d aE eX=some r∧Form t u us∧Inv w0 Mf (g.sU rf) aE a w∧fg w g rf st aE eX Fs∧mB w g.ro (enc t x) us.toList Fs d:=by
 obtain ⟨cs,fe,h⟩:=aQ h
 obtain ⟨us,hf,hc⟩:=dm fe hs
 obtain ⟨cv,d,aE,eX,Fs,rf,h1,I',T,hA⟩:=I.r3 h hc.l
 obtain ⟨x,hx,h3⟩:=aQ h1
 have pZ:=c6 hx
 subst pZ
 exact ⟨x,us,d,aE,eX,Fs,rf,h3,hf,I',T,hA⟩
theorem lv {t:Ty} {x:El t} {j:Nat} {c:Cv} (h:(enc t x)[j]? =some c):j<aD t:=by
 rw [← br t x]
 rcases Nat.lt_or_ge j (enc t x).length with h' | h'
 ·exact h'
 ·simp [List.getElem?_eq_none h'] at h
theorem nG {α:Type} {xs:List α} {i:Nat} {x:α} (h:xs[i]? =some x):i<xs.length:=by
 rcases Nat.lt_or_ge i xs.length with h' | h'
 ·exact h'
 ·simp [List.getElem?_eq_none h'] at h
theorem dI.put {ro gr:Nat→Prop} {dd d:Bool} {e:Ty} {xs:List (El e)} {cs:Array Value} {o:Nat} {G:Nat→Nat→Nat→Prop} {Fs Gs:List (Nat→Prop)} (hp:dI w (fun k=>ro k∨Any Fs k) dd e xs cs o G)
 (hG:∀i j k,G i j k→Any Fs k) {y:El e} {vs:List Value} (hA:mB w gr (enc e y) vs Gs d) (cZ:∀k,gr k→ro k) (tS:bR (Fs++Gs)) {i:Nat} (hi:i<xs.length) (ff:o+xs.length*aD e≤cs.size):
    ∃G',dI w (fun k=>ro k∨Any (Fs++Gs) k) (dd&&d) e (xs.set i y) (putAt cs (o+i*aD e) vs.toArray) o G'∧∀i j k,G' i j k→Any (Fs++Gs) k:=by
 have hlen:vs.length=aD e:=by rw [hA.len.1,br]
 have hmul:i*aD e+aD e≤xs.length*aD e:=by
  have:(i+1)*aD e≤xs.length*aD e:=Nat.mul_le_mul_right _ hi
  rw [Nat.add_mul] at this;omega
 have tT:=fun m=>iX (cells:=cs) (off:=o+i*aD e) (vs:=vs.toArray) (by simp [hlen];omega) m
 have fy:=hA.rd
 let G':Nat→Nat→Nat→Prop:=fun i' j k=>(i'=i∧∃F,Gs[j]? =some F∧F k)∨(i'≠i∧G i' j k)
 have p5:∀i j k,G' i j k→Any (Fs++Gs) k:=by
  rintro i' j k (⟨rfl,F,h1,h2⟩ | ⟨_,h⟩)
  ·exact mE.2 (.inr ⟨F,List.mem_of_getElem? h1,h2⟩)
  ·exact mE.2 (.inl (hG _ _ _ h))
 refine ⟨G',⟨fun i' x j c hx hc=> ?_,?_⟩,p5⟩
 ·have hj:=lv hc
  by_cases qc:i'=i
  ·subst qc
   rw [List.getElem?_set_self hi] at hx
   cases hx
   obtain ⟨z,hz,hr⟩:=fy.get j c hc
   refine ⟨z,?_,hr.mono fun k hk=> ?_,fun hd=> ?_⟩
   ·rw [tT,if_pos (by simp [hlen];omega),show o+i'*aD e+j-(o+i'*aD e)=j by omega]
    simpa using hz
   ·rcases hk with hk | hk
    ·exact .inr (.inr (mE.2 (.inr hk)))
    ·exact .inr (.inl (cZ k hk))
   ·simp only [Bool.and_eq_true] at hd
    obtain ⟨z',F,h1,h2,h3⟩:=hA.own hd.2 j c hc
    rw [hz] at h1;cases h1
    exact h3.mono fun k hk=> .inl ⟨rfl,F,h2,hk⟩
  ·rw [List.getElem?_set_ne (Ne.symm qc)] at hx
   obtain ⟨z,hz,hr,ho⟩:=hp.rows i' x j c hx hc
   refine ⟨z,?_,hr.mono fun k hk=> ?_,fun hd=> ?_⟩
   ·rw [tT,if_neg ?_]
    ·exact hz
    ·simp only [List.size_toArray,hlen]
     rcases Nat.lt_or_gt_of_ne qc with ct | ct
     ·have:(i'+1)*aD e≤i*aD e:=Nat.mul_le_mul_right _ ct
      rw [Nat.add_mul] at this;omega
     ·have:(i+1)*aD e≤i'*aD e:=Nat.mul_le_mul_right _ ct
      rw [Nat.add_mul] at this;omega
   ·rcases hk with hk | hk | hk
    ·exact .inl (.inr ⟨qc,hk⟩)
    ·exact .inr (.inl hk)
    ·exact .inr (.inr (mE.2 (.inl hk)))
   ·simp only [Bool.and_eq_true] at hd
    exact (ho hd.1).mono fun k hk=> .inr ⟨qc,hk⟩
 ·have hx:∀k,Any Fs k→Any Gs k→False:=fun k ⟨F,hF,h1⟩ ⟨F',UP,h2⟩=>(List.pairwise_append.1 tS).2.2 F hF F' UP k h1 h2
  rintro i1 j1 i2 j2 k (⟨rfl,F,h1,h2⟩ | ⟨hn,h⟩) (⟨rfl,F',Au,Ie⟩ | ⟨Pn,h'⟩)
  ·refine ⟨rfl,?_⟩
   have Yy:=List.pairwise_iff_getElem.1 (List.pairwise_append.1 tS).2.1
   obtain ⟨hj,rfl⟩:=List.getElem?_eq_some_iff.1 h1
   obtain ⟨CQ,rfl⟩:=List.getElem?_eq_some_iff.1 Au
   rcases Nat.lt_trichotomy j1 j2 with ct | heq | ct
   ·exact (Yy j1 j2 hj CQ ct k h2 Ie).elim
   ·exact heq
   ·exact (Yy j2 j1 CQ hj ct k Ie h2).elim
  ·exact (hx k (hG _ _ _ h') ⟨F,List.mem_of_getElem? h1,h2⟩).elim
  ·exact (hx k (hG _ _ _ h) ⟨F',List.mem_of_getElem? Au,Ie⟩).elim
  ·exact hp.Tj _ _ _ _ k h h'
theorem Inv.jj {g:Gh} {st0:St} {e:Ty}:∀ {ps:List (Nat×Operand)} {rf:Nat→Nat→Prop} {st:St} {eX:List (Nat×Rt)} {Fs:List (Nat→Prop)} {xs:List (El e)} {cs:Array Value} {G:Nat→Nat→Nat→Prop} {dd:Bool}
    {k:List (El e)→Bool→St→List (Nat×Rt)→Option R} {r:R},Inv w0 Mf (g.sU rf) st a w→fg w g rf st0 st eX Fs→dI w (fun k=>g.ro k∨Any Fs k) dd e xs cs 0 G→(∀ i j k,G i j k→Any Fs k)→
    cs.size=xs.length*aD e→jj e st ps xs k=some r→
    ∃ys d aE Yz XR Gz G' XP,k ys d aE Yz=some r∧Inv w0 Mf (g.sU XP) aE a w∧fg w g XP st0 aE (eX++Yz) XR∧dI w (fun k=>g.ro k∨Any XR k) (dd&&d) e ys Gz 0 G'∧(∀ i j k,G' i j k→Any XR k)∧
      Gz.size=cs.size∧ys.length=xs.length∧Instr.fill (fun i=>some (i*aD e,aD e)) cs (ps.map fun p=>(p.1,a.eval p.2))=some Gz
  | [],rf,st,eX,Fs,xs,cs,G,dd,k,r,I,T,hp,hG,ff,h=>⟨xs,true,st,[],Fs,cs,G,rf,h,I,by simpa using T,by simpa using hp,hG,rfl,rfl,rfl⟩
  | (i,x)::ps,rf,st,eX,Fs,xs,cs,G,dd,k,r,I,T,hp,hG,ff,h=>by
    simp only [Gm.jj] at h
    obtain ⟨s,h,hs⟩:=I.dk h
    obtain ⟨y,us,d,s1,u1,Gs,rf1,h,hf,I1,T1,hA⟩:=I.re h hs
    obtain ⟨hi,h⟩:=a8 h
    have hi:i<xs.length:=Nat.lt_of_succ_le (gw hi)
    have T2:=T.trans T1
    obtain ⟨G1,AU,Yv⟩:=hp.put hG hA (fun _ h=>h) T2.apart hi (by omega)
    have r8:us.size=aD e:=by
      have:=hA.len.1
      rw [br] at this;simpa using this
    have hmul:i*aD e+aD e≤xs.length*aD e:=by
      have:(i+1)*aD e≤xs.length*aD e:=Nat.mul_le_mul_right _ hi
      rw [Nat.add_mul] at this;omega
    have lX:=hf.cells
    obtain ⟨ys,d',aE,u',XR,Gz,G',XP,h1,h2,h3,h4,h5,h6,h7,h8⟩:=Inv.jj (g:=g) (rf:=rf1) I1 T2 AU Yv (by rw [eZ (by simp [r8];omega)];simpa using ff) h
    refine ⟨ys,d&&d',aE,u1++u',XR,Gz,G',XP,h1,h2,by rw [← List.append_assoc];exact h3,by rw [← Bool.and_assoc];exact h4,h5,?_,by simpa using h7,?_⟩
    · rw [h6,eZ (by simp [r8];omega)]
    · simp only [List.map_cons]
      rw [xL (off:=i*aD e) (by rw [lX,r8]) (by rw [lX,r8];omega)]
      simpa [lX] using h8
theorem mF {T:Nat} {cs:Array Value} (w:World):(newRow T cs).run P w = .ok ⟨w.heap.size,0,none⟩ (gE w (.cells cs T)):=by
 simp [newRow,gE]
theorem Inv.EB {rf:Nat→Nat→Prop} {st0:St} (I0:Inv w0 Mf g st0 a w) (I:Inv w0 Mf (g.sU rf) st a w) {eX:List (Nat×Rt)} {Fs:List (Nat→Prop)} (T:fg w g rf st0 st eX Fs) {e:Ty} {xs:List (El e)} {cs:Array Value} {G:Nat→Nat→Nat→Prop} {d:Bool}
 (hp:dI w (fun k=>g.ro k∨Any Fs k) d e xs cs 0 G) (hG:∀i j k,G i j k→Any Fs k) (ff:cs.size=xs.length*aD e) {el id ver:Nat} {md:Md} (eY:dv st id ⟨e,md,ver,[],xs⟩) (cI:md.cr=false∧md.cW=false)
 (PO:md.bK=true→d=true) {dst:Option Nat} (hd:∀d,dst=some d→d<g.n.sz):
    ∃g':Gh,g'.n=g.n∧Inv w0 Mf g' (({ st with roots:=aX st.roots id (.live ⟨e,md,ver,[],xs⟩) }:St).apply { slot:=dst.map fun d=>(d,.c (.one (.h id ver 0 []))) })
 (a.put dst (.slice (some ⟨w.heap.size,0,none⟩) xs.length xs.length)) (gE w (.cells cs el)):=by
 have hs:bH (fun k=>k=w.heap.size) w (gE w (.cells cs el)):=⟨(lY w _).1,fun b h _=>(lY w (.cells cs el)).2 b h (fun h=>h)⟩
 have EC:∀k,Any Fs k→k≠w.heap.size∧fx w0 Mf (g.sU rf) st k∧k<w.heap.size:=fun k ⟨F,hF,hk⟩=>by
  obtain ⟨h1,h2⟩:=T.free I0 hF hk
  exact ⟨by omega,h1,h2⟩
 obtain ⟨g',h1,h2,h3⟩:=I.build (w':=gE w (.cells cs el)) (b:=w.heap.size) (o:=0) (cap:=xs.length) (el:=el) (cs:=cs) hs rfl rfl rfl (AQ _ _) I.Ez hp (fun i j k h=>EC k (hG i j k h)) EC (Nat.le_refl _)
  (by omega) eY cI PO
 refine ⟨g',h1,?_⟩
 have:=h2.td rfl (dst:=dst) (fun d h=>by rw [h1];exact hd d h) (by rw [h3];rfl)
 rw [h3] at this
 exact this
theorem ED {zv:Array Value} {t:Ty} (h:zv=(ef t).toArray) (n:Nat):(Array.range (n*aD t)).map (fun i=>(if n*aD t=0 then #[] else zv)[i%(if n*aD t=0 then (#[]:Array Value) else zv).size]!)=sV t n:=by
 subst h
 by_cases hn:n*aD t=0
 ·simp [sV,hn]
 ·simp only [hn,if_false,sV]
  apply Array.ext
  ·simp
  ·intro i h1 h2
   simp only [Array.getElem_map,Array.getElem_range]
   have hl:(ef t).length=aD t:=by simp [ef,br]
   have ct:i%aD t<(ef t).length:=by rw [hl];exact Nat.mod_lt _ (gK t)
   simp [hl,List.getD,List.getElem?_eq_getElem ct]
theorem tU {T n el:Nat} {e:Ty} {zv:Value} {cs:Array Value} {parts:Array (Nat×Value)} (hu:P.underlying T=some (.slice el)) (hs:(sizeOf el).run P w = .ok (aD e) w)
 (hz:(zeroValue el).run P w = .ok zv w) (AR:zv.cells=(ef e).toArray) (kG:n*aD e≤16777216)
 (sd:Instr.fill (fun i=>some (i*aD e,aD e)) (sV e n) parts.toList=some cs):(Instr.buildSlice T n parts).run P w = .ok (.slice (some ⟨w.heap.size,0,none⟩) n n) (gE w (.cells cs el)):=by
 have YA : ¬(2^24<n*aD e):=by omega
 have PT:=ED AR n
 by_cases IC:n*aD e=0
 ·simp only [IC,if_true] at PT
  rw [← PT] at sd
  simp only [Instr.buildSlice,Sem.run_bind,run_underlying hu,Result.andThen_ok,hs,gt_iff_lt,IC,if_true,Sem.run_pure]
  simp only [Nat.not_lt_zero,if_false,Sem.run_bind,Sem.run_pure,Result.andThen_ok,sd,mF]
 ·simp only [IC,if_false] at PT
  rw [← PT] at sd
  simp only [Instr.buildSlice,Sem.run_bind,run_underlying hu,Result.andThen_ok,hs,gt_iff_lt,YA,IC,if_false,Sem.run_pure,hz,sd,mF]
theorem zd (hE:E.Ok P) (I:Inv w0 Mf g st a w) (hd:∀d,o.dst=some d→d<g.n.sz) (hK:Then w0 Mf g st k r K) {T n:Nat} {ps:Array (Nat×Operand)} (cc:o.op = .buildSlice T n ps)
 (h:eE E o st k=some r):o.wp P a w K Q:=by
 simp only [eE,cc] at h
 split at h
 case h_2=>cases h
 rename_i e hT
 obtain ⟨kG,h⟩:=a8 h
 have kG:=gw kG
 obtain ⟨ys,d,aE,eX,Fs,cs,G,rf,h,I',TK,hp,hG,ff,hlen,sd⟩:=Inv.jj (rf:=g.rf) (G:=fun _ _ _=>False) (dd:=true) I (fg.refl _ _ _) (sb w _ e n) (fun _ _ _ h=>h.elim) (by simp [rj]) h
 obtain ⟨ver,eY,h⟩:=nF h
 obtain ⟨el,hu,q7⟩:=hE.slice hT
 obtain ⟨zv,hz,AR⟩:=hE.zero q7 w
 have IP:ys.length=n:=by simpa using hlen
 obtain ⟨g',hn,I2⟩:=Inv.EB (el:=el) I I' (by simpa using TK) hp hG (by rw [ff,rj,IP]) eY ⟨qi rfl,oD rfl⟩ (fun h=>by simpa using (oC h).2) hd
 refine nD (v:= .slice (some ⟨w.heap.size,0,none⟩) ys.length ys.length) (w':=gE w (.cells cs el)) ?_ (hK _ g' _ _ h hn ?_)
 ·have UY:Instr.fill (fun i=>some (i*aD e,aD e)) (sV e n) (ps.map fun p=>(p.1,a.eval p.2)).toList=some cs:=by simpa using sd
  have:=tU (n:=n) hu (hE.size q7 w) hz AR kG UY
  rw [IP]
  simp only [execOp,cc,Sem.run_bind,this,Result.andThen_ok,Sem.run_pure]
 ·have lW:=TK.eq
  subst lW
  simpa [St.apply,bc,cg] using I2
theorem run_makeSlice (hE:E.Ok P) {T el:Nat} {e:Ty} {zv:Value} {n:Int} (hu:P.underlying T=some (.slice el)) (q7:E.code el=some e) (hz:(zeroValue el).run P w = .ok zv w) (AR:zv.cells=(ef e).toArray)
 (h0:0≤n) (h1:n≤(bT:Int)):(Instr.makeSlice T (.int .i64 n) (.int .i64 n)).run P w = .ok (.slice (some ⟨w.heap.size,0,none⟩) n.toNat n.toNat) (gE w (.cells (sV e n.toNat) el)):=by
 obtain ⟨i,zv',hi,ff,hby,_,_⟩:=hE.info el e q7
 have hw:IntKind.i64.wrap n=n:=by
  unfold bT at h1
  simp only [IntKind.wrap,IntKind.signed,IntKind.bits]
  simp
  omega
 have yX : ¬(281474976710656<(i.bytes:Int)*n):=by
  have h3:(i.bytes:Int)*n≤1024*n:=Int.mul_le_mul_of_nonneg_right (by omega) h0
  unfold bT at h1;omega
 have PT:=ED AR n.toNat
 have hs:=hE.size q7 w
 have hn : ¬n<0:=by omega
 by_cases IC:n.toNat*aD e=0
 ·simp only [IC,if_true] at PT
  simp [Instr.makeSlice,run_underlying hu,asInt,asIntOf,typeInfo,hi,hw,hn,yX,hs,IC,mF,←PT]
 ·simp only [IC,if_false] at PT
  simp [Instr.makeSlice,run_underlying hu,asInt,asIntOf,typeInfo,hi,hw,hn,yX,hs,IC,mF,←PT,hz]
theorem AV (hE:E.Ok P) (I:Inv w0 Mf g st a w) (hd:∀d,o.dst=some d→d<g.n.sz) (hK:Then w0 Mf g st k r K) {T:Nat} {n m:Operand} (cc:o.op = .makeSlice T n m)
 (h:eE E o st k=some r):o.wp P a w K Q:=by
 simp only [eE,cc] at h
 split at h
 case h_2=>cases h
 rename_i e hT
 replace h:=I.getInt h;obtain ⟨n',h,Pn⟩:=h
 replace h:=I.getInt h;obtain ⟨m',h,Ig⟩:=h
 replace h:=a8 h;obtain ⟨hc,h⟩:=h
 simp only [Bool.and_eq_true,decide_eq_true_eq] at hc
 obtain ⟨rfl,h0,h1⟩:=hc
 replace h:=nF h;obtain ⟨ver,eY,h⟩:=h
 obtain ⟨el,hu,q7⟩:=hE.slice hT
 obtain ⟨zv,hz,AR⟩:=hE.zero q7 w
 obtain ⟨g',hn,I2⟩:=Inv.EB (el:=el) (G:=fun _ _ _=>False) (rf:=g.rf) I I (fg.refl _ _ _) ((sb w (fun k=>g.ro k∨Any [] k) e n'.toNat)) (fun _ _ _ h=>h.elim) (by simp [rj]) eY ⟨rfl,rfl⟩ (fun _=>rfl) hd
 refine nD (v:= .slice (some ⟨w.heap.size,0,none⟩) n'.toNat n'.toNat) (w':=gE w (.cells (sV e n'.toNat) el)) ?_ (hK _ g' _ _ h hn ?_)
 ·simp only [execOp,cc,Sem.run_bind,Pn,Ig,run_makeSlice hE hu q7 hz AR h0 h1,Result.andThen_ok,Sem.run_pure]
 ·simpa [St.apply,cg] using I2
theorem Inv.ji (hE:E.Ok P) (I:Inv w0 Mf g st a w) {T:Nat} {fs:Array Field} (hu:P.underlying T=some (.struct fs)) {pl:List (Nat×Nat)}
 (YB:fs.toList.mapM (fun f=>(P.info? f.type).map fun i=>(f.offset,i.size))=some pl):∀ {ps:List (Nat×Operand)} {row:List Sc} {us:Array Value} {k:List Sc→Option R} {r:R},cH w g st row us→
    ji E T st ps row k=some r→∃IQ us',k IQ=some r∧cH w g st IQ us'∧Instr.fill (pl.toArray[·]?) us (ps.map fun p=>(p.1,a.eval p.2))=some us'
  | [],row,us,k,r,hr,h=>⟨row,us,h,hr,rfl⟩
  | (i,x)::ps,row,us,k,r,hr,h=>by
    simp only [Gm.ji] at h
    obtain ⟨⟨off,ft⟩,Iy,h⟩:=aQ h
    obtain ⟨t,ht,h⟩:=aQ h
    obtain ⟨s,h,hs⟩:=I.dk h
    obtain ⟨cs,fe,h⟩:=aQ h
    obtain ⟨hb,h⟩:=a8 h
    simp only [Bool.and_eq_true] at hb
    have hlen:=gX hb.1
    have hle:=gw hb.2
    obtain ⟨vs,hf,hc⟩:=dm fe hs
    obtain ⟨fs',fd,t',wz,UK,rfl,rfl,tM⟩:=hE.wx T i _ _ Iy
    rw [hu] at wz;cases wz
    rw [ht] at tM;cases tM
    obtain ⟨inf,zv,hi,ff,_⟩:=hE.info _ _ ht
    have Ps:vs.size=cs.length:=hc.1
    have r8:us.size=row.length:=hr.1
    have UZ:pl.toArray[i]? =some (fd.offset,aD t):=by
      have:∀(l:List Field) (pl:List (Nat×Nat)),l.mapM (fun f=>(P.info? f.type).map fun i=>(f.offset,i.size))=some pl→∀(n:Nat) f,l[n]? =some f→∃inf,P.info? f.type=some inf∧pl[n]? =some (f.offset,inf.size):=by
        intro l
        induction l with
        | nil=>intro pl _ n f hn;simp at hn
        | cons f0 l ih=>
          intro pl hm n f hn
          simp only [List.mapM_cons,Option.bind_eq_bind,Option.pure_def] at hm
          obtain ⟨b,hb,hm⟩:=aQ hm
          obtain ⟨bs,Tg,hm⟩:=aQ hm
          simp only [Option.some.injEq] at hm;subst hm
          cases n with
          | zero=>
            simp only [List.getElem?_cons_zero,Option.some.injEq] at hn;subst hn
            simp only [Option.map_eq_some_iff] at hb
            obtain ⟨inf,h1,rfl⟩:=hb
            exact ⟨inf,h1,rfl⟩
          | succ n=>simpa using ih bs Tg n f (by simpa using hn)
      obtain ⟨af6,h1,h2⟩:=this fs.toList pl YB i fd (by simpa using UK)
      rw [hi] at h1;cases h1
      simpa [ff] using h2
    have sW:=hr.set hc fd.offset (by omega)
    obtain ⟨IQ,us',h1,h2,h3⟩:=Inv.ji hE I hu YB sW h
    refine ⟨IQ,us',h1,h2,?_⟩
    have lX:=hf.cells
    simp only [List.map_cons]
    rw [xL (off:=fd.offset) (by rw [lX,Ps,hlen];exact UZ) (by rw [lX,Ps,r8];omega),lX]
    rw [← h3]
    congr 1
    apply Array.ext
    · rw [eZ (by omega)];simp;omega
    · intro n h1 h2
      apply Option.some.inj
      rw [← Array.getElem?_eq_getElem,←Array.getElem?_eq_getElem,iX (by omega)]
      simp only [List.getElem?_toArray]
      by_cases CC:n<fd.offset
      · rw [if_neg (by omega),List.append_assoc,List.getElem?_append_left (by simp;omega),List.getElem?_take,if_pos CC];simp
      · by_cases EE:n<fd.offset+vs.size
        · rw [if_pos (by omega),List.getElem?_append_left (by simp;omega),List.getElem?_append_right (by simp;omega)]
          have:min fd.offset us.size=fd.offset:=by omega
          simp [this]
        · rw [if_neg (by omega),List.getElem?_append_right (by simp;omega)]
          have:min fd.offset us.size=fd.offset:=by omega
          simp only [List.length_append,List.length_take,Array.length_toList,this,List.getElem?_drop]
          rw [show fd.offset+vs.size+(n-(fd.offset+vs.size))=n by omega]
          simp
theorem PU (hE:E.Ok P) (I:Inv w0 Mf g st a w) (hd:∀d,o.dst=some d→d<g.n.sz) (hK:Then w0 Mf g st k r K) {T:Nat} {ps:Array (Nat×Operand)} (cc:o.op = .build T ps)
 (h:eE E o st k=some r):o.wp P a w K Q:=by
 simp only [eE,cc] at h
 replace h:=aQ h;obtain ⟨t,hT,h⟩:=h
 replace h:=a8 h;obtain ⟨lW,h⟩:=h
 have hu:=hE.tK T t hT
 have wz:∃fs,P.underlying T=some (.struct fs):=by
  unfold dg at hu
  cases t<;>first | exact hu | (simp only [ik,Bool.false_eq_true] at lW)
 obtain ⟨fs,YC⟩:=wz
 obtain ⟨pl,YB⟩:=hE.Yi T fs YC (by simp [hT])
 obtain ⟨IQ,us',h,hr,sd⟩:=I.ji hE YC YB (Ev t) h
 obtain ⟨i,zv,hi,_,_,hz,AR⟩:=hE.info T t hT
 have hb:P.built T (ps.map fun (i,x)=>(i,a.eval x)).toList=some us':=by
  unfold Program.built
  simp only [hi,YC,hz,YB,AR]
  rw [show (ps.map fun (i,x)=>(i,a.eval x)).toList=ps.toList.map (fun p=>(p.1,a.eval p.2)) from by simp]
  exact sd
 refine I.val hd hK (v:= .agg us') ?_ h ⟨us',rfl,hr⟩
 simp only [execOp,cc,Sem.run_bind,run_build w T _ _ hb,Result.andThen_ok,Sem.run_pure]
theorem kh {id ver iv:Nat} {ro:cB} (h:ax st.roots id=some (.live ro)∨ax st.roots id=some (.dj ro)):cJ st id ver iv↔(ver<ro.ver∨(ver=ro.ver∧iv≤ro.log.length)):=by
 unfold cJ
 rcases h with h | h<;>simp only [h]
structure Tp (g:Gh) (st:St) (id k:Nat):Prop where
 r:∀aH,aP st aH→aH≠id→ ¬g.rf aH k
 ro : ¬g.ro k
 b:∀b,bA st b→g.bx b≠k
theorem lQ.jI {id:Nat} {ro ro':cB} (h:ax st.roots id=some (.live ro)∨ax st.roots id=some (.dj ro)) (ht:ro'.t=ro.t) (fM:ro'.ver=ro.ver) {l:List Nat} (PV:ro'.log=ro.log++l)
    {av:Path→Value} {F:Nat→Prop}
 (fw:∀q,(∀ D∈l,q.length≤D)→av q=g.rv id q∧∀s,aR ro.t ro.xs q=some s→∃s',aR ro'.t ro'.xs q=some s'∧s'.t=s.t∧s'.xs.length=s.xs.length)
    {c:Sc} {u:Value} (hc:lQ w g st c u):lQ w (g.b8 id av F) { st with roots:=aX st.roots id (.live ro') } c u:=by
 have cU:ax ({ st with roots:=aX st.roots id (.live ro') }:St).roots id=some (.live ro'):=bd _ _ _
 have hv:∀aH ver iv,cJ st aH ver iv→cJ { st with roots:=aX st.roots id (.live ro') } aH ver iv:=by
  intro aH ver iv hv
  by_cases hid:aH=id
  ·subst hid
   rw [kh (.inl cU),fM,PV]
   rw [kh h] at hv
   rcases hv with hv | ⟨hv,hi⟩
   ·exact .inl hv
   ·exact .inr ⟨hv,by simp;omega⟩
  ·unfold cJ at hv ⊢
   simp only [bX _ _ hid];exact hv
 have hx:∀aH ver iv p r',cJ st aH ver iv→Vx { st with roots:=aX st.roots id (.live ro') } aH ver iv p r'→
   (aH≠id∧Vx st aH ver iv p r')∨(aH=id∧r'=ro'∧Vx st id ver iv p ro∧∀D∈l,p.length≤D):=by
  intro aH ver iv p r' Yg w4
  by_cases hid:aH=id
  ·subst hid
   have e:=w4.is cU
   subst e
   refine .inr ⟨rfl,rfl,?_⟩
   obtain ⟨_,h2,h3⟩:=w4
   rw [kh h] at Yg
   have hiv:iv≤ro.log.length:=by omega
   unfold iu at h3
   rw [PV,List.drop_append_of_le_length hiv,List.all_append,Bool.and_eq_true] at h3
   exact ⟨⟨h,by omega,h3.1⟩,fun D hD=>gw (List.all_eq_true.1 h3.2 D hD)⟩
  ·refine .inl ⟨hid,?_⟩
   obtain ⟨h1,h2,h3⟩:=w4
   simp only [bX _ _ hid] at h1
   exact ⟨h1,h2,h3⟩
 cases c with
 | h aH ver iv p=>
  refine ⟨hv _ _ _ hc.1,fun r' kF=> ?_⟩
  rcases hx _ _ _ _ _ hc.1 kF with ⟨hid,w4⟩ | ⟨rfl,rfl,w4,hl⟩
  ·simpa [Gh.b8,hid] using hc.2 r' w4
  ·obtain ⟨h1,h2⟩:=hc.2 ro w4
   obtain ⟨h3,h4⟩:=fw p hl
   obtain ⟨s,hs⟩:=Option.isSome_iff_exists.1 h2
   obtain ⟨s',fv,_⟩:=h4 s hs
   simp only [Gh.b8,if_true]
   exact ⟨by rw [h3,h1],by rw [fv];rfl⟩
 | vw aH ver lo hi=>
  refine ⟨hv _ _ _ hc.1,fun r' kF=> ?_⟩
  rcases hx _ _ _ _ _ hc.1 kF with ⟨hid,w4⟩ | ⟨rfl,rfl,w4,hl⟩
  ·simpa [Gh.b8,hid] using hc.2 r' w4
  ·obtain ⟨h1,h2,h5⟩:=hc.2 ro w4
   obtain ⟨h3,h4⟩:=fw [] hl
   obtain ⟨s',fv,e1,e2⟩:=h4 _ rfl
   simp only [aR,Option.some.injEq] at fv
   subst fv
   simp only at e1 e2
   simp only [Gh.b8,if_true]
   exact ⟨h1,by rw [e2];exact h2,by rw [h3,ht];exact h5⟩
 | pe aH ver iv p i off=>
  refine ⟨hv _ _ _ hc.1,fun r' kF=> ?_⟩
  rcases hx _ _ _ _ _ hc.1 kF with ⟨hid,w4⟩ | ⟨rfl,rfl,w4,hl⟩
  ·simpa [Gh.b8,hid] using hc.2 r' w4
  ·obtain ⟨s,b,oo,n,cap,h1,h2,h5,h6⟩:=hc.2 ro w4
   obtain ⟨h3,h4⟩:=fw p hl
   obtain ⟨s',fv,e1,e2⟩:=h4 s h1
   simp only [Gh.b8,if_true]
   exact ⟨s',b,oo,n,cap,fv,by rw [e2];exact h2,by rw [h3];exact h5,by rw [e1];exact h6⟩
 | _=>exact hc
theorem Inv.jI (I:Inv w0 Mf g st a w) {id:Nat} {ro ro':cB} (h:ax st.roots id=some (.live ro)∨ax st.roots id=some (.dj ro)) {w':World} {X:Nat→Prop} (hs:bH X w w') (hk:Kept w0 w' Mf)
 (hX:∀k,X k→Tp g st id k) {G:Nat→Prop} (hG:∀k,g.ro k→G k) (hGr:∀aH k,aP st aH→aH≠id→g.rf aH k→ ¬G k) (U0:∀b,bA st b→ ¬G (g.bx b)) (PW:∀k,G k→k<w'.heap.size) (hGm:∀k,G k→g.n.r0 k∨w0.heap.size≤k∨Mf k)
 (ht:ro'.t=ro.t) (fM:ro'.ver=ro.ver) {l:List Nat} (PV:ro'.log=ro.log++l) {av:Path→Value} {F:Nat→Prop}
 (fw:∀q,(∀ D∈l,q.length≤D)→av q=g.rv id q∧∀s,aR ro.t ro.xs q=some s→∃s',aR ro'.t ro'.xs q=some s'∧s'.t=s.t∧s'.xs.length=s.xs.length)
    (hr:aS w' (({ g with ro:=G }:Gh).b8 id av F) id ro')
 (hF:∀k,F k→(∀ aH,aP st aH→aH≠id→ ¬g.rf aH k)∧ ¬G k∧(∀ b,bA st b→g.bx b≠k)∧(w0.heap.size≤k∨Mf k)∧k<w'.heap.size):
    Inv w0 Mf (({ g with ro:=G }:Gh).b8 id av F) { st with roots:=aX st.roots id (.live ro') } a w':=by
 have cZ:∀k,g.ro k→ ¬X k:=fun k h1 h2=>(hX k h2).ro h1
 have hm:∀c u,aZ w g st c u→aZ w' (({ g with ro:=G }:Gh).b8 id av F) { st with roots:=aX st.roots id (.live ro') } c u:=fun c u hc=>
  ⟨hc.1,lQ.jI (g:={ g with ro:=G }) h ht fM PV fw ((hc.2.world hs cZ).ro hG)⟩
 have ho:∀aH,aP { st with roots:=aX st.roots id (.live ro') } aH→aH≠id→aP st aH:=fun aH ⟨r',h1,h2⟩ hid=>
  ⟨r',by simpa [aF,hid] using h1,h2⟩
 exact {
  aA:=fun s sv h=>let ⟨u,hu,hr⟩:=I.aA s sv h;⟨u,hu,hr.map hm⟩
  boxes:=fun b x h=>let ⟨us,el,h1,h2⟩:=I.boxes b x h;⟨us,el,hs.get h1 (fun hx=>(hX _ hx).b b (by simp [bA,h]) rfl),h2.map hm⟩
  roots:=fun aH r' h=>by
   simp only [aF] at h
   by_cases hid:aH=id
   ·subst hid;simp only [if_true,Option.some.injEq,Rt.live.injEq] at h;subst h;exact hr
   ·simp only [hid,if_false] at h
    have:=I.roots aH r' h
    have kI:r'.md.cr=false→∀k,g.rf aH k→ ¬X k:=fun hm k h1 h2=>(hX k h2).r aH ⟨r',h,hm⟩ hid h1
    unfold aS at this ⊢
    simp only [Gh.b8,hid,if_false]
    split at this
    ·rename_i cI;exact this.same hs (kI (by rw [cI];rfl))
    ·rename_i cI
     have:=this.same hs (kI (by rw [cI];rfl)) cZ
     exact ⟨this.1,fun p s hp hs=>(this.2 p s hp hs).mono hG⟩
    ·exact (this.same hs cZ).mono hG
    ·rename_i cI;exact this.same hs (kI (by rw [cI];rfl))
  apart:={
   rr:=fun i i' k h1 h2 h3 h4=>by
    by_cases hi:i=id<;>by_cases mZ:i'=id
    ·rw [hi,mZ]
    ·simp only [Gh.b8,hi,mZ,if_true,if_false] at h3 h4
     exact ((hF k h3).1 i' (ho _ h2 mZ) mZ h4).elim
    ·simp only [Gh.b8,hi,mZ,if_true,if_false] at h3 h4
     exact ((hF k h4).1 i (ho _ h1 hi) hi h3).elim
    ·simp only [Gh.b8,hi,mZ,if_false] at h3 h4
     exact I.apart.rr i i' k (ho _ h1 hi) (ho _ h2 mZ) h3 h4
   rb:=fun i b h1 h2 h3=>by
    by_cases hi:i=id
    ·simp only [Gh.b8,hi,if_true] at h3
     exact (hF _ h3).2.2.1 b h2 rfl
    ·simp only [Gh.b8,hi,if_false] at h3
     exact I.apart.rb i b (ho _ h1 hi) h2 h3
   bb:=I.apart.bb
   dZ:=fun i k h1 h3=>by
    by_cases hi:i=id
    ·simp only [Gh.b8,hi,if_true] at h3;exact (hF _ h3).2.1
    ·simp only [Gh.b8,hi,if_false] at h3;exact hGr i k (ho _ h1 hi) hi h3
   fL:=U0
   ck:=fun i k h1 h3=>by
    by_cases hi:i=id
    ·simp only [Gh.b8,hi,if_true] at h3;exact (hF _ h3).2.2.2.1
    ·simp only [Gh.b8,hi,if_false] at h3;exact I.apart.ck i k (ho _ h1 hi) h3
   dA:=I.apart.dA
   eb:=fun i k h1 h3=>by
    by_cases hi:i=id
    ·simp only [Gh.b8,hi,if_true] at h3;exact (hF _ h3).2.2.2.2
    ·simp only [Gh.b8,hi,if_false] at h3;exact Nat.lt_of_lt_of_le (I.apart.eb i k (ho _ h1 hi) h3) hs.1
   c7:=PW
   bU:=hGm }
  kept:=hk
  defers:=I.defers
  size:=I.size
  base:=⟨I.base.wl,I.base.ap,fun k h=>hG k (I.base.ro k h)⟩ }
theorem Inv.acn (I:Inv w0 Mf g st a w) {id:Nat} {ro:cB} (h:ax st.roots id=some (.live ro)):Inv w0 Mf g { st with roots:=aX st.roots id (.dj ro) } a w:=by
 have hv:∀aH ver iv,cJ st aH ver iv→cJ { st with roots:=aX st.roots id (.dj ro) } aH ver iv:=by
  intro aH ver iv hv
  by_cases hid:aH=id
  ·subst hid
   rw [kh (.inr (bd _ _ _))]
   exact (kh (.inl h)).1 hv
  ·unfold cJ at hv ⊢
   simp only [bX _ _ hid];exact hv
 have hx:∀aH ver iv p r',Vx { st with roots:=aX st.roots id (.dj ro) } aH ver iv p r'→Vx st aH ver iv p r':=by
  intro aH ver iv p r' ⟨h1,h2,h3⟩
  simp only [aF] at h1
  by_cases hid:aH=id
  ·subst hid
   simp only [if_true,Option.some.injEq,reduceCtorEq,Rt.dj.injEq,false_or] at h1
   subst h1;exact ⟨.inl h,h2,h3⟩
  ·simp only [hid,if_false] at h1;exact ⟨h1,h2,h3⟩
 have hm:∀c u,aZ w g st c u→aZ w g { st with roots:=aX st.roots id (.dj ro) } c u:=fun c u hc=>
  ⟨hc.1,lQ.roots (st:=st) (fun b hb=>hb) hv (fun _ _ _ _ _ _ h=>hx _ _ _ _ _ h) hc.2⟩
 have ho:∀aH,aP { st with roots:=aX st.roots id (.dj ro) } aH→aP st aH:=fun aH ⟨r',h1,h2⟩=>by
  simp only [aF] at h1
  by_cases hid:aH=id
  ·simp [hid] at h1
  ·exact ⟨r',by simpa [hid] using h1,h2⟩
 exact {
  aA:=fun s sv hs=>let ⟨u,hu,hr⟩:=I.aA s sv hs;⟨u,hu,hr.map hm⟩
  boxes:=fun b x hb=>let ⟨us,el,h1,h2⟩:=I.boxes b x hb;⟨us,el,h1,h2.map hm⟩
  roots:=fun aH r' hr=>I.roots aH r' (by
   simp only [aF] at hr
   by_cases hid:aH=id
   ·simp [hid] at hr
   ·simpa [hid] using hr)
  apart:={
   rr:=fun i i' k h1 h2=>I.apart.rr i i' k (ho _ h1) (ho _ h2)
   rb:=fun i b h1 h2=>I.apart.rb i b (ho _ h1) h2
   bb:=I.apart.bb
   dZ:=fun i k h1=>I.apart.dZ i k (ho _ h1)
   fL:=I.apart.fL
   ck:=fun i k h1=>I.apart.ck i k (ho _ h1)
   dA:=I.apart.dA
   eb:=fun i k h1=>I.apart.eb i k (ho _ h1)
   c7:=I.apart.c7
   bU:=I.apart.bU }
  kept:=I.kept
  defers:=I.defers
  size:=I.size
  base:=⟨I.base.wl,I.base.ap,I.base.ro⟩ }
end Go.Gm
namespace Go.Gm
open Go
variable {w : World}
theorem se:∀ {p:Path} {t:Ty} {xs zs:List (El t)} {s s':Sl},aR t xs p=some s→dp t xs p s'=some zs→s'.t=s.t
  | [],t,xs,zs,s,s',h,hz=>by
    simp only [dp] at hz
    have:=c6 hz
    simp only [enc,List.cons.injEq,and_true] at this
    simp only [aR,Option.some.injEq] at h
    cases s' with | mk t' Yc=>cases this;subst h;rfl
  | (i,j)::p,t,xs,zs,s,s',h,hz=>by
    simp only [aR] at h
    split at h
    case h_2=>cases h
    rename_i x hx
    split at h
    case h_2=>cases h
    rename_i t1 ys hc
    simp only [dp,bz hx,hc,Option.bind_eq_some_iff,Option.some.injEq] at hz
    obtain ⟨z1,Gx,y,hy,rfl⟩:=hz
    exact se h Gx
theorem oE:∀ {p:Path} {t:Ty} {xs zs:List (El t)} {s s':Sl},aR t xs p=some s→dp t xs p s'=some zs→s'.xs.length=s.xs.length→
    ∀q sq,(p <+: q→q=p)→aR t xs q=some sq→∃U1,aR t zs q=some U1∧U1.t=sq.t∧U1.xs.length=sq.xs.length
  | [],t,xs,zs,s,s',h,hz,hl,q,sq,hq,jX=>by
    have e:=hq (List.nil_prefix)
    subst e
    have ht:=se h hz
    simp only [dp] at hz
    have:=c6 hz
    simp only [enc,List.cons.injEq,and_true] at this
    simp only [aR,Option.some.injEq] at h jX
    subst h;subst jX
    cases s' with | mk t' Yc=>cases this;exact ⟨_,rfl,rfl,hl⟩
  | (i,j)::p,t,xs,zs,s,s',h,hz,hl,q,sq,hq,jX=>by
    simp only [aR] at h
    split at h
    case h_2=>cases h
    rename_i x hx
    split at h
    case h_2=>cases h
    rename_i t1 ys hc
    simp only [dp,bz hx,hc,Option.bind_eq_some_iff,Option.some.injEq] at hz
    obtain ⟨z1,Gx,y,hy,rfl⟩:=hz
    have Gy:=c6 hy
    have ct:=nG hx
    have hj:j<(enc t x).length:=by rw [br];exact lv hc
    cases q with
    | nil=>
      simp only [aR,Option.some.injEq] at jX
      subst jX
      exact ⟨⟨t,xs.set i y⟩,rfl,rfl,by simp⟩
    | cons ij q=>
      obtain ⟨i',j'⟩:=ij
      simp only [aR] at jX ⊢
      by_cases qc:i=i'
      · subst qc
        simp only [List.getElem?_set_self ct,←Gy]
        rw [hx] at jX
        simp only at jX
        by_cases Ib:j=j'
        · subst Ib
          simp only [hc,List.getElem?_set_self hj] at jX ⊢
          exact oE h Gx hl q sq (fun hp=>by simpa using hq (by simpa using hp)) jX
        · rw [List.getElem?_set_ne Ib]
          exact ⟨sq,jX,rfl,rfl⟩
      · simp only [List.getElem?_set_ne qc]
        exact ⟨sq,jX,rfl,rfl⟩
def jJ (t:Ty) (xs:List (El t)) (av:Path→Value) (p:Path) (k:Nat):Prop:=∃q s,¬p <+: q∧aR t xs q=some s∧q6 (av q)=some k
theorem bo.IS {F:Nat→Prop} {t:Ty} {xs zs:List (El t)} {av:Path→Value} (h:bo w F t xs av) {p:Path} {s s':Sl} (hs:aR t xs p=some s) (hz:dp t xs p s'=some zs)
    {w':World} {X:Nat→Prop} (cq:bH X w w') (hX:∀k,X k→ ¬jJ t xs av p k) {B:Nat→Prop} {CD:Path→Value} (iP:bo w' B s'.t s'.xs CD) (h0:CD []=av p) (hB:∀k,B k→ ¬jJ t xs av p k):
    ∃p6:Path→Value,(∀ q,(p <+: q→q=p)→p6 q=av q)∧(∀ q,p6 (p++q)=CD q)∧bo w' (fun k=>B k∨jJ t xs av p k) t zs p6:=by
 let p6:Path→Value:=fun q=>if p <+: q then CD (q.drop p.length) else av q
 have hu:∀q,p6 (p++q)=CD q:=fun q=>by simp [p6]
 have ho:∀q,¬p <+: q→p6 q=av q:=fun q hq=>by simp [p6,hq]
 have hk:∀q,(p <+: q→q=p)→p6 q=av q:=fun q hq=>by
  by_cases hp:p <+: q
  ·have:=hq hp;subst this
   have:=hu [];rw [List.append_nil] at this;rw [this,h0]
  ·exact ho q hp
 refine ⟨p6,hk,hu,?_,?_⟩
 ·intro q CB sR
  rcases kc hs hz q CB sR with ⟨q',rfl,Ii⟩ | ⟨hn,s2,Ii,sS⟩
  ·rw [hu]
   have:=(iP.1 q' CB Ii).mono (Q:=fun k=>B k∨jJ t xs av p k) fun k=> .inl
   refine this.eW fun i y j t' ys _ _=> ?_
   rw [List.append_assoc,hu]
  ·rw [ho q hn]
   have h1:=(h.1 q s2 Ii).XN (G:=fun k=>B k∨jJ t xs av p k) fun k hk=> .inr ⟨q,s2,hn,Ii,hk⟩
   have h2:=h1.here cq fun k hk hx=>hX k hx ⟨q,s2,hn,Ii,hk⟩
   refine (sS.own h2).eW fun i y j t' ys _ _=> ?_
   refine hk _ fun hp=> ?_
   rw [List.prefix_concat_iff] at hp
   exact hp.elim (fun h=>h.symm) (fun h=>(hn h).elim)
 ·intro q1 q2 s1 s2 b h1 h2 h3 h4
  rcases kc hs hz q1 s1 h1 with ⟨q1',rfl,o8⟩ | ⟨CC,s1',o8,_⟩<;>rcases kc hs hz q2 s2 h2 with ⟨q2',rfl,sR⟩ | ⟨EE,CB,sR,_⟩
  ·rw [hu] at h3 h4
   rw [iP.2 _ _ _ _ b o8 sR h3 h4]
  ·rw [hu] at h3;rw [ho _ EE] at h4
   exact (hB b ((iP.1 _ _ o8).nt h3) ⟨_,_,EE,sR,h4⟩).elim
  ·rw [hu] at h4;rw [ho _ CC] at h3
   exact (hB b ((iP.1 _ _ sR).nt h4) ⟨_,_,CC,o8,h3⟩).elim
  ·rw [ho _ CC] at h3;rw [ho _ EE] at h4
   exact h.2 _ _ _ _ b o8 sR h3 h4
theorem bo.eg {F:Nat→Prop} {t:Ty} {xs:List (El t)} {av:Path→Value} (h:bo w F t xs av) {p:Path} {k:Nat} (hu:gF t xs av p k) : ¬jJ t xs av p k:=by
 rintro ⟨q,s,hn,hs,hb⟩
 obtain ⟨q',s',fv,gB⟩:=hu
 have:=h.2 _ _ _ _ k hs fv hb gB
 subst this
 exact hn (List.prefix_append _ _)
theorem bo.jq {F:Nat→Prop} {t:Ty} {xs:List (El t)} {av:Path→Value} (h:bo w F t xs av) {p:Path} {k:Nat} (hu:jJ t xs av p k):F k:=by
 obtain ⟨q,s,hn,hs,hb⟩:=hu
 exact (h.1 q s hs).nt hb
theorem bo.tf {F:Nat→Prop} {t:Ty} {xs:List (El t)} {av:Path→Value} (h:bo w F t xs av) {p:Path} {k:Nat} (hu:gF t xs av p k):F k:=by
 obtain ⟨q,s,hs,hb⟩:=hu
 exact (h.1 _ s hs).nt hb
theorem rl {t:Ty} {xs:List (El t)} {i:Nat} {x y:El t} (hx:xs[i]? =some x) (hy:∀(j:Nat) t' (ys:List (El t')),(enc t y)[j]? =some (.l t' ys)↔(enc t x)[j]? =some (.l t' ys)):
    ∀q,q≠[]→aR t (xs.set i y) q=aR t xs q:=by
 intro q hq
 cases q with
 | nil=>exact (hq rfl).elim
 | cons ij q=>
  obtain ⟨i',j⟩:=ij
  have ct:=nG hx
  simp only [aR]
  by_cases qc:i=i'
  ·subst qc
   simp only [List.getElem?_set_self ct,hx]
   cases hc:(enc t x)[j]? with
   | none=>
    cases r6:(enc t y)[j]? with
    | none=>rfl
    | some c=>
     cases c with
     | v z=>rfl
     | l t' ys=>rw [(hy j t' ys).1 r6] at hc;cases hc
   | some c=>
    cases c with
    | v z=>
     cases r6:(enc t y)[j]? with
     | none=>rfl
     | some c'=>
      cases c' with
      | v z'=>rfl
      | l t' ys=>rw [(hy j t' ys).1 r6] at hc;cases hc
    | l t' ys=>rw [(hy j t' ys).2 hc]
  ·simp only [List.getElem?_set_ne qc]
end Go.Gm
namespace Go.Gm
open Go
variable {R : Type} {P : Program} {E : Env} {w0 w : World} {Mf : Nat → Prop} {g : Gh} {st : St} {a : Act} {Q : Exit → Act → World → Prop}
  {o:Oper} {k:Dl→Option R} {r:R} {K:Act→World→Prop}
theorem oF {us vs:Array Value} {at_:Nat} (h:at_+vs.size≤us.size):(us.toList.take at_++vs.toList++us.toList.drop (at_+vs.toList.length)).toArray=putAt us at_ vs:=by
 apply Array.ext
 ·rw [eZ h];simp;omega
 ·intro n h1 h2
  apply Option.some.inj
  rw [← Array.getElem?_eq_getElem,←Array.getElem?_eq_getElem,iX h]
  simp only [List.getElem?_toArray]
  by_cases CC:n<at_
  ·rw [if_neg (by omega),List.append_assoc,List.getElem?_append_left (by simp;omega),List.getElem?_take,if_pos CC];simp
  ·by_cases EE:n<at_+vs.size
   ·rw [if_pos (by omega),List.getElem?_append_left (by simp;omega),List.getElem?_append_right (by simp;omega)]
    have:min at_ us.size=at_:=by omega
    simp [this]
   ·rw [if_neg (by omega),List.getElem?_append_right (by simp;omega)]
    have:min at_ us.size=at_:=by omega
    simp only [List.length_append,List.length_take,Array.length_toList,this,List.getElem?_drop]
    rw [show at_+vs.size+(n-(at_+vs.size))=n by omega]
    simp
theorem jY {α:Type} {l ys:List α} {off:Nat} (h:off+ys.length≤l.length) (n:Nat):(dY l off ys)[n]? =if off≤n∧n<off+ys.length then ys[n-off]? else l[n]? :=by
 simp only [dY]
 by_cases CC:n<off
 ·rw [if_neg (by omega),List.append_assoc,List.getElem?_append_left (by simp;omega),List.getElem?_take,if_pos CC]
 ·by_cases EE:n<off+ys.length
  ·rw [if_pos (by omega),List.getElem?_append_left (by simp;omega),List.getElem?_append_right (by simp;omega)]
   have:min off l.length=off:=by omega
   simp [this]
  ·rw [if_neg (by omega),List.getElem?_append_right (by simp;omega)]
   have:min off l.length=off:=by omega
   simp only [List.length_append,List.length_take,this,List.getElem?_drop]
   rw [show off+ys.length+(n-(off+ys.length))=n by omega]
theorem dI.YD {ro gr:Nat→Prop} {dd d:Bool} {e:Ty} {xs:List (El e)} {us:Array Value} {oo:Nat} {G:Nat→Nat→Nat→Prop} {Gs:List (Nat→Prop)} (hp:dI w ro dd e xs us oo G)
    {i:Nat} {x y:El e} (hx:xs[i]? =some x) {cv:List Cv} {vs:Array Value} {off:Nat} (hA:mB w gr cv vs.toList Gs d) (hy:enc e y=dY (enc e x) off cv) (hle:off+cv.length≤aD e) (cZ:∀k,gr k→ro k)
 (tS:bR Gs) (IJ:∀i j k,G i j k→Any Gs k→False) (ff:oo+xs.length*aD e≤us.size):
    ∃G',dI w (fun k=>ro k∨Any Gs k) (dd&&d) e (xs.set i y) (putAt us (oo+i*aD e+off) vs) oo G'∧∀i j k,G' i j k→Any Gs k∨G i j k:=by
 have hi:=nG hx
 have hlen:vs.size=cv.length:=by have:=hA.len.1;simpa using this
 have hmul:i*aD e+aD e≤xs.length*aD e:=by
  have:(i+1)*aD e≤xs.length*aD e:=Nat.mul_le_mul_right _ hi
  rw [Nat.add_mul] at this;omega
 have tT:=fun m=>iX (cells:=us) (off:=oo+i*aD e+off) (vs:=vs) (by omega) m
 have fy:=hA.rd
 let In:Nat→Nat→Prop:=fun i' j=>i'=i∧off≤j∧j<off+cv.length
 let G':Nat→Nat→Nat→Prop:=fun i' j k=>(In i' j∧∃F,Gs[j-off]? =some F∧F k)∨(¬ In i' j∧G i' j k)
 have p5:∀i j k,G' i j k→Any Gs k∨G i j k:=by
  rintro i' j k (⟨_,F,h1,h2⟩ | ⟨_,h⟩)
  ·exact .inl ⟨F,List.mem_of_getElem? h1,h2⟩
  ·exact .inr h
 -- a cell that stays
 have stays:∀i' x' j c,xs[i']? =some x'→(enc e x')[j]? =some c→ ¬In i' j→∃u,(putAt us (oo+i*aD e+off) vs)[oo+i'*aD e+j]? =some u∧pF w (fun k=>G' i' j k∨ro k∨Any Gs k) c u∧((dd&&d)=true→iO w (G' i' j) c u):=by
  intro i' x' j c o6 hc hn
  have hj:=lv hc
  obtain ⟨z,hz,hr,ho⟩:=hp.rows i' x' j c o6 hc
  refine ⟨z,?_,hr.mono fun k hk=> ?_,fun hd=> ?_⟩
  ·rw [tT,if_neg ?_]
   ·exact hz
   ·intro ⟨h1,h2⟩
    rw [hlen] at h2
    rcases Nat.lt_trichotomy i' i with ct | heq | ct
    ·have:(i'+1)*aD e≤i*aD e:=Nat.mul_le_mul_right _ ct
     rw [Nat.add_mul] at this;omega
    ·subst heq;exact hn ⟨rfl,by omega,by omega⟩
    ·have:(i+1)*aD e≤i'*aD e:=Nat.mul_le_mul_right _ ct
     rw [Nat.add_mul] at this;omega
  ·rcases hk with hk | hk
   ·exact .inl (.inr ⟨hn,hk⟩)
   ·exact .inr (.inl hk)
  ·simp only [Bool.and_eq_true] at hd
   exact (ho hd.1).mono fun k hk=> .inr ⟨hn,hk⟩
 refine ⟨G',⟨fun i' x' j c o6 hc=> ?_,?_⟩,p5⟩
 ·by_cases qc:i'=i
  ·subst qc
   rw [List.getElem?_set_self hi] at o6
   cases o6
   rw [hy,jY (by rw [br];exact hle)] at hc
   by_cases na:off≤j∧j<off+cv.length
   ·rw [if_pos na] at hc
    obtain ⟨z,hz,hr⟩:=fy.get (j-off) c hc
    refine ⟨z,?_,hr.mono fun k hk=> ?_,fun hd=> ?_⟩
    ·rw [tT,if_pos (by omega),show oo+i'*aD e+j-(oo+i'*aD e+off)=j-off by omega]
     simpa using hz
    ·rcases hk with hk | hk
     ·exact .inr (.inr hk)
     ·exact .inr (.inl (cZ k hk))
    ·simp only [Bool.and_eq_true] at hd
     obtain ⟨z',F,h1,h2,h3⟩:=hA.own hd.2 (j-off) c hc
     rw [hz] at h1;cases h1
     exact h3.mono fun k hk=> .inl ⟨⟨rfl,na.1,na.2⟩,F,h2,hk⟩
   ·rw [if_neg na] at hc
    exact stays i' x j c hx hc fun h=>na h.2
  ·rw [List.getElem?_set_ne (Ne.symm qc)] at o6
   exact stays i' x' j c o6 hc fun h=>qc h.1
 ·rintro i1 j1 i2 j2 k (⟨⟨rfl,ha,hb⟩,F,h1,h2⟩ | ⟨hn,h⟩) (⟨⟨rfl,ha',gB⟩,F',Au,Ie⟩ | ⟨Pn,h'⟩)
  ·refine ⟨rfl,?_⟩
   have Yy:=List.pairwise_iff_getElem.1 tS
   obtain ⟨hj,rfl⟩:=List.getElem?_eq_some_iff.1 h1
   obtain ⟨CQ,rfl⟩:=List.getElem?_eq_some_iff.1 Au
   rcases Nat.lt_trichotomy (j1-off) (j2-off) with ct | heq | ct
   ·exact (Yy _ _ hj CQ ct k h2 Ie).elim
   ·omega
   ·exact (Yy _ _ CQ hj ct k Ie h2).elim
  ·exact (IJ _ _ k h' ⟨F,List.mem_of_getElem? h1,h2⟩).elim
  ·exact (IJ _ _ k h ⟨F',List.mem_of_getElem? Au,Ie⟩).elim
  ·exact hp.Tj _ _ _ _ k h h'
theorem EF:∀ {p:Path} {t:Ty} {xs zs:List (El t)} {s s':Sl},aR t xs p=some s→dp t xs p s'=some zs→aR t zs p=some s'
  | [],t,xs,zs,s,s',h,hz=>by
    simp only [dp] at hz
    have:=c6 hz
    simp only [enc,List.cons.injEq,and_true] at this
    cases s' with | mk t' Yc=>cases this;rfl
  | (i,j)::p,t,xs,zs,s,s',h,hz=>by
    simp only [aR] at h
    split at h
    case h_2=>cases h
    rename_i x hx
    split at h
    case h_2=>cases h
    rename_i t1 ys hc
    simp only [dp,bz hx,hc,Option.bind_eq_some_iff,Option.some.injEq] at hz
    obtain ⟨z1,Gx,y,hy,rfl⟩:=hz
    have Gy:=c6 hy
    have ct:=nG hx
    have hj:j<(enc t x).length:=by rw [br];exact lv hc
    simp only [aR,List.getElem?_set_self ct,←Gy,List.getElem?_set_self hj]
    exact EF h Gx
theorem aS.node {id:Nat} {ro:cB} (h:aS w g id ro) {p:Path} {s:Sl} (hs:aR ro.t ro.xs p=some s) (hm:ro.md.bK=true∨(ro.md.j8=true∧p=[])):
    bB w (g.rf id) s.t s.xs (g.rv id p) fun i j=>g.rv id (p++[(i,j)]):=by
 unfold aS at h
 split at h
 ·exact h.1 p s hs
 ·rename_i cI
  rcases hm with hm | ⟨_,rfl⟩
  ·simp [cI,Md.bK] at hm
  ·simp only [aR,Option.some.injEq] at hs;subst hs;exact h.1
 ·rename_i cI;simp [cI,Md.bK,Md.j8] at hm
 ·rename_i cI;simp [cI,Md.bK,Md.j8] at hm
theorem AW {t:Ty} {xs:List (El t)} {us:Array Value} {oo:Nat} {eW:Nat→Nat→Value} (h:RowsIn t xs us oo eW) {i:Nat} {x y:El t} (hx:xs[i]? =some x) {cv:List Cv} {vs:Array Value} {off:Nat}
 (hc:∀(j:Nat) c,cv[j]? =some c→∃z,vs[j]? =some z∧c = .v z) (hv:vs.size=cv.length) (hy:enc t y=dY (enc t x) off cv) (hle:off+cv.length≤aD t) (ff:oo+xs.length*aD t≤us.size):
    RowsIn t (xs.set i y) (putAt us (oo+i*aD t+off) vs) oo eW:=by
 have hi:=nG hx
 have hmul:i*aD t+aD t≤xs.length*aD t:=by
  have:(i+1)*aD t≤xs.length*aD t:=Nat.mul_le_mul_right _ hi
  rw [Nat.add_mul] at this;omega
 have tT:=fun m=>iX (cells:=us) (off:=oo+i*aD t+off) (vs:=vs) (by omega) m
 have stays:∀i' x' j c,xs[i']? =some x'→(enc t x')[j]? =some c→ ¬(i'=i∧off≤j∧j<off+cv.length)→∃u,(putAt us (oo+i*aD t+off) vs)[oo+i'*aD t+j]? =some u∧eF c u (eW i' j):=by
  intro i' x' j c o6 lR hn
  have hj:=lv lR
  obtain ⟨z,hz,hr⟩:=h i' x' j c o6 lR
  refine ⟨z,?_,hr⟩
  rw [tT,if_neg ?_]
  ·exact hz
  ·intro ⟨h1,h2⟩
   rw [hv] at h2
   rcases Nat.lt_trichotomy i' i with ct | heq | ct
   ·have:(i'+1)*aD t≤i*aD t:=Nat.mul_le_mul_right _ ct
    rw [Nat.add_mul] at this;omega
   ·subst heq;exact hn ⟨rfl,by omega,by omega⟩
   ·have:(i+1)*aD t≤i'*aD t:=Nat.mul_le_mul_right _ ct
    rw [Nat.add_mul] at this;omega
 intro i' x' j c o6 lR
 by_cases qc:i'=i
 ·subst qc
  rw [List.getElem?_set_self hi] at o6
  cases o6
  rw [hy,jY (by rw [br];exact hle)] at lR
  by_cases na:off≤j∧j<off+cv.length
  ·rw [if_pos na] at lR
   obtain ⟨z,hz,rfl⟩:=hc (j-off) c lR
   refine ⟨z,?_,rfl⟩
   rw [tT,if_pos (by omega),show oo+i'*aD t+j-(oo+i'*aD t+off)=j-off by omega]
   exact hz
  ·rw [if_neg na] at lR
   exact stays i' x j c hx lR fun h=>na h.2
 ·rw [List.getElem?_set_ne (Ne.symm qc)] at o6
  exact stays i' x' j c o6 lR fun h=>qc h.1
theorem IT {t:Ty} {x y:El t} {cv:List Cv} {off:Nat} (hc:∀(j:Nat) c,cv[j]? =some c→∃z,c = .v z) (hk:∀(j:Nat) c,off≤j→j<off+cv.length→(enc t x)[j]? =some c→∃z,c = .v z)
 (hy:enc t y=dY (enc t x) off cv) (hle:off+cv.length≤aD t):∀(j:Nat) t' (ys:List (El t')),(enc t y)[j]? =some (.l t' ys)↔(enc t x)[j]? =some (.l t' ys):=by
 intro j t' ys
 rw [hy,jY (by rw [br];exact hle)]
 by_cases na:off≤j∧j<off+cv.length
 ·rw [if_pos na]
  constructor
  ·intro h;obtain ⟨z,hz⟩:=hc _ _ h;cases hz
  ·intro h;obtain ⟨z,hz⟩:=hk _ _ na.1 na.2 h;cases hz
 ·rw [if_neg na]
theorem bo.aco {F:Nat→Prop} {t:Ty} {xs:List (El t)} {av:Path→Value} (h:bo w F t xs av) {i:Nat} {x y:El t} (hx:xs[i]? =some x) (hy:∀(j:Nat) t' (ys:List (El t')),(enc t y)[j]? =some (.l t' ys)↔(enc t x)[j]? =some (.l t' ys))
    {w':World} {b oo cap el:Nat} {us':Array Value} (cq:bH (fun k=>k=b) w w') (fw:av [] = .slice (some ⟨b,oo,none⟩) xs.length cap) (hb:w'.heap[b]? =some (.cells us' el (0,0))) (gx:xs.length≤cap)
 (ff:oo+cap*aD t≤us'.size) (hr:RowsIn t (xs.set i y) us' oo fun i j=>av [(i,j)]):bo w' F t (xs.set i y) av:=by
 have dy:=rl hx hy
 have hbF:F b:=(h.1 [] _ rfl).nt (by rw [fw];rfl)
 refine ⟨fun p s hs=> ?_,fun p q s s' k h1 h2 h3 h4=> ?_⟩
 ·by_cases hp:p=[]
  ·subst hp
   simp only [aR,Option.some.injEq] at hs
   subst hs
   exact .inr ⟨b,oo,cap,us',el,by simpa using fw,hbF,hb,by simpa using gx,ff,hr⟩
  ·rw [dy p hp] at hs
   refine (h.1 p s hs).here cq fun k hk e=> ?_
   subst e
   exact hp (h.2 p [] s ⟨t,xs⟩ k hs rfl hk (by rw [fw];rfl))
 ·have fix:∀p s,aR t (xs.set i y) p=some s→∃s0,aR t xs p=some s0:=fun p s hs=>by
   by_cases hp:p=[]
   ·subst hp;exact ⟨_,rfl⟩
   ·rw [dy p hp] at hs;exact ⟨s,hs⟩
  obtain ⟨s1,o8⟩:=fix p s h1
  obtain ⟨s2,sR⟩:=fix q s' h2
  exact h.2 _ _ _ _ k o8 sR h3 h4
theorem Inv.alone (I:Inv w0 Mf g st a w) {id:Nat} (h:aP st id) {k:Nat} (hk:g.rf id k):Tp g st id k:=
 ⟨fun aH h1 h2 h3=>h2 (I.apart.rr aH id k h1 h h3 hk),I.apart.dZ id k h hk,fun b hb e=>I.apart.rb id b h hb (e▸hk)⟩
theorem tV {t:Ty} {xs zs ys:List (El t)} (h:dp t xs [] ⟨t,ys⟩=some zs):zs=ys:=by
 simp only [dp] at h
 have:=c6 h
 simp only [enc,List.cons.injEq,and_true,Cv.l.injEq,heq_eq_eq,true_and] at this
 exact this.symm
theorem Inv.GI (I:Inv w0 Mf g st a w) {id:Nat} {ro:cB} (dJ:ax st.roots id=some (.live ro)) {p:Path} {s:Sl} (hs:aR ro.t ro.xs p=some s) (hm:ro.md.bK=true∨(ro.md.j8=true∧p=[]))
    {i:Nat} {x y:El s.t} (hx:s.xs[i]? =some x) {cv:List Cv} {vs:Array Value} {off:Nat} (pZ:∀(j:Nat) c,cv[j]? =some c→∃z,vs[j]? =some z∧c = .v z) (hv:vs.size=cv.length)
 (hk:∀(j:Nat) c,off≤j→j<off+cv.length→(enc s.t x)[j]? =some c→∃z,c = .v z) (hy:enc s.t y=dY (enc s.t x) off cv) (hle:off+cv.length≤aD s.t)
    {zs:List (El ro.t)} (hz:dp ro.t ro.xs p ⟨s.t,s.xs.set i y⟩=some zs) {b oo n cap:Nat} (fw:g.rv id p = .slice (some ⟨b,oo,none⟩) n cap):
    ∃us el,w.heap[b]? =some (.cells us el (0,0))∧oo+i*aD s.t+aD s.t≤us.size∧∃g':Gh,g'.n=g.n∧
      Inv w0 Mf g' { st with roots:=aX st.roots id (.live ⟨ro.t,ro.md,ro.ver,ro.log,zs⟩) } a (w.setRow b (putAt us (oo+i*aD s.t+off) vs)):=by
  have hi:=nG hx
  have w3:ro.md.cr=false:=by
    rcases hm with hm | hm
    · cases h:ro.md<;>simp_all [Md.bK,Md.cr]
    · cases h:ro.md<;>simp_all [Md.j8,Md.cr]
  have cU:aP st id:=⟨ro,dJ,w3⟩
  have hr:=I.roots id ro dJ
  have hU:=hr.node hs hm
  rcases hU with ⟨h0,_⟩ | ⟨b',UL,rh,us,el,e1,hF,hb,gx,gq,eP⟩
  · rw [h0] at hi;simp at hi
  rw [fw] at e1
  simp only [Value.slice.injEq,Option.some.injEq,Addr.mk.injEq,and_true] at e1
  obtain ⟨⟨rfl,rfl⟩,rfl,rfl⟩:=e1
  have hmul:i*aD s.t+aD s.t≤s.xs.length*aD s.t:=by
    have:(i+1)*aD s.t≤s.xs.length*aD s.t:=Nat.mul_le_mul_right _ hi
    rw [Nat.add_mul] at this;omega
  have EG:s.xs.length*aD s.t≤cap*aD s.t:=Nat.mul_le_mul_right _ gx
  refine ⟨us,el,hb,by omega,?_⟩
  have cq:=eQ w b (putAt us (oo+i*aD s.t+off) vs)
  have gB:=setRow_heap w b us (putAt us (oo+i*aD s.t+off) vs) el (0,0) hb
  have IU:=AW eP hx pZ hv hy hle (by omega)
  have U2:=IT (fun j c h=>let ⟨z,_,e⟩:=pZ j c h;⟨z,e⟩) hk hy hle
  have AT:oo+cap*aD s.t≤(putAt us (oo+i*aD s.t+off) vs).size:=by rw [eZ (by omega)];exact gq
  have iR:Kept w0 (w.setRow b (putAt us (oo+i*aD s.t+off) vs)) Mf:=I.kept.step rfl rfl rfl cq (fun k e=>by subst e;exact I.apart.ck id _ cU hF)
  have nc:aS (w.setRow b (putAt us (oo+i*aD s.t+off) vs)) (({ g with ro:=g.ro }:Gh).b8 id (g.rv id) (g.rf id)) id ⟨ro.t,ro.md,ro.ver,ro.log,zs⟩:=by
    unfold aS at hr ⊢
    simp only [Gh.b8,if_true]
    split at hr
    · rename_i cI
      try simp only [cI]
      have pI:=(hr.at hs).aco hx U2 cq (b:=b) (oo:=oo) (cap:=cap) (el:=el) (us':=putAt us (oo+i*aD s.t+off) vs) (by simpa using fw) gB gx AT IU
      have ze:gF ro.t ro.xs (g.rv id) p b:=⟨[],s,by rw [List.append_nil];exact hs,by rw [List.append_nil,fw];rfl⟩
      obtain ⟨p6,h1,h2,h3⟩:=hr.IS hs hz cq (fun k e=>by subst e;exact hr.eg ze) pI (by simp) (fun k hk=>hr.eg hk)
      have:p6=g.rv id:=by
        funext q
        by_cases hp:p <+: q
        · obtain ⟨q',rfl⟩:=hp;exact h2 q'
        · exact h1 q fun h=>(hp h).elim
      subst this
      exact h3.mono fun k hk=>hk.elim hr.tf hr.jq
    · rename_i cI
      have hp:p=[]:=by rcases hm with hm | hm;simp [cI,Md.bK] at hm;exact hm.2
      subst hp
      simp only [aR,Option.some.injEq] at hs
      subst hs
      have:=tV hz
      subst this
      try simp only [cI]
      refine ⟨.inr ⟨b,oo,cap,_,el,by simpa using fw,hF,gB,by simpa using gx,AT,IU⟩,fun q s' hq fv=> ?_⟩
      rw [rl hx U2 q hq] at fv
      exact (hr.2 q s' hq fv).same cq fun k hk e=>I.apart.dZ id k cU (e▸hF) hk
    · rename_i cI;simp [cI,Md.cr] at w3
    · rename_i cI;simp [cI,Md.bK,Md.j8] at hm
  refine ⟨_,by rfl,I.jI (ro':=⟨ro.t,ro.md,ro.ver,ro.log,zs⟩) (.inl dJ) cq iR (fun k e=>by subst e;exact I.alone cU hF) (fun _ h=>h) (fun aH k h1 _ h3=>I.apart.dZ aH k h1 h3)
    I.apart.fL (fun k h=>Nat.lt_of_lt_of_le (I.apart.c7 k h) cq.1) I.apart.bU rfl rfl (l:=[]) (by simp) (fun q _=>⟨rfl,fun sq jX=> ?_⟩) nc
    (fun k hk=>⟨(I.alone cU hk).r,(I.alone cU hk).ro,(I.alone cU hk).b,I.apart.ck id k cU hk,Nat.lt_of_lt_of_le (I.apart.eb id k cU hk) cq.1⟩)⟩
  by_cases hq:p <+: q→q=p
  · exact oE hs hz (by simp) q sq hq jX
  · have hp:p <+: q:=by
      by_cases h:p <+: q
      · exact h
      · exact (hq fun h'=>(h h').elim).elim
    obtain ⟨q',rfl⟩:=hp
    have YE:q'≠[]:=fun e=>hq fun _=>by rw [e,List.append_nil]
    rw [ch q' hs] at jX
    refine ⟨sq,?_,rfl,rfl⟩
    simp only
    rw [ch q' (EF hs hz),rl hx U2 q' YE]
    exact jX
end Go.Gm
namespace Go.Gm
open Go
variable {R : Type} {P : Program} {E : Env} {w0 w : World} {Mf : Nat → Prop} {g : Gh} {st0 st : St} {a : Act} {Q : Exit → Act → World → Prop}
  {o:Oper} {k:Dl→Option R} {r:R} {K:Act→World→Prop}
theorem Inv.GJ (I0:Inv w0 Mf g st0 a w) (I:Inv w0 Mf g st a w) {eX:List (Nat×Rt)} {Gs:List (Nat→Prop)} (T:jW w g st0 st eX Gs) {id:Nat} {ro:cB} (dJ:ax st.roots id=some (.live ro))
    {p:Path} {s:Sl} (hs:aR ro.t ro.xs p=some s) (hm:ro.md = .deep)
    {i:Nat} {x y:El s.t} (hx:s.xs[i]? =some x) {cv:List Cv} {vs:Array Value} {off:Nat} (hA:mB w g.ro cv vs.toList Gs true) (hy:enc s.t y=dY (enc s.t x) off cv) (hle:off+cv.length≤aD s.t)
    {zs:List (El ro.t)} (hz:dp ro.t ro.xs p ⟨s.t,s.xs.set i y⟩=some zs) {b oo n cap:Nat} (fw:g.rv id p = .slice (some ⟨b,oo,none⟩) n cap):
    ∃us el,w.heap[b]? =some (.cells us el (0,0))∧oo+i*aD s.t+aD s.t≤us.size∧∃g':Gh,g'.n=g.n∧
      Inv w0 Mf g' { st with roots:=aX st.roots id (.live ⟨ro.t,.deep,ro.ver,ro.log++[p.length],zs⟩) } a (w.setRow b (putAt us (oo+i*aD s.t+off) vs)):=by
 have hi:=nG hx
 have cU:aP st id:=⟨ro,dJ,by rw [hm];rfl⟩
 have hr:=I.roots id ro dJ
 have hU:=hr.node hs (.inl (by rw [hm];rfl))
 have hv:vs.size=cv.length:=by have:=hA.len.1;simpa using this
 rcases hU with ⟨h0,_⟩ | ⟨b',UL,rh,us,el,e1,hF,hb,gx,gq,eP⟩
 ·rw [h0] at hi;simp at hi
 rw [fw] at e1
 simp only [Value.slice.injEq,Option.some.injEq,Addr.mk.injEq,and_true] at e1
 obtain ⟨⟨rfl,rfl⟩,rfl,rfl⟩:=e1
 have hmul:i*aD s.t+aD s.t≤s.xs.length*aD s.t:=by
  have:(i+1)*aD s.t≤s.xs.length*aD s.t:=Nat.mul_le_mul_right _ hi
  rw [Nat.add_mul] at this;omega
 have EG:s.xs.length*aD s.t≤cap*aD s.t:=Nat.mul_le_mul_right _ gx
 refine ⟨us,el,hb,by omega,?_⟩
 have cq:=eQ w b (putAt us (oo+i*aD s.t+off) vs)
 have gB:=setRow_heap w b us (putAt us (oo+i*aD s.t+off) vs) el (0,0) hb
 have AT:oo+cap*aD s.t≤(putAt us (oo+i*aD s.t+off) vs).size:=by rw [eZ (by omega)];exact gq
 have iR:Kept w0 (w.setRow b (putAt us (oo+i*aD s.t+off) vs)) Mf:=I.kept.step rfl rfl rfl cq (fun k e=>by subst e;exact I.apart.ck id _ cU hF)
 have pI:bo w (g.rf id) ro.t ro.xs (g.rv id):=by unfold aS at hr;rw [hm] at hr;exact hr
 have dy:=pI.at hs
 have cK:∀k,Any Gs k→fx w0 Mf g st k∧k<w.heap.size:=fun k ⟨F,hF,hk⟩=>T.free I0 hF hk
 have kI:∀k,Any Gs k→ ¬g.rf id k:=fun k ⟨F,hF,hk⟩=>T.off F hF k hk id cU
 have ze:gF ro.t ro.xs (g.rv id) p b:=⟨[],s,by rw [List.append_nil];exact hs,by rw [List.append_nil,fw];rfl⟩
 have zf:∀i j k,gF s.t s.xs (fun q=>g.rv id (p++q)) [(i,j)] k→gF ro.t ro.xs (g.rv id) p k∧k≠b:=by
  rintro i j k ⟨q,s2,h1,h2⟩
  have h3:aR ro.t ro.xs (p++([(i,j)]++q))=some s2:=by rw [ch _ hs];exact h1
  refine ⟨⟨[(i,j)]++q,s2,h3,h2⟩,fun e=> ?_⟩
  subst e
  have:=pI.2 _ p s2 s k h3 hs h2 (by rw [fw];rfl)
  simp at this
 obtain ⟨G',Pp,p5⟩:=(dy.pieces (ro:=g.ro) (by simpa using eP)).YD hx hA hy hle (fun _ h=>h) T.apart (fun i j k h1 h2=>kI k h2 (pI.tf (zf i j k h1).1)) (by omega)
 have hnb:∀i j k,G' i j k→k≠b:=fun i j k h=>(p5 i j k h).elim (fun h e=>kI k h (e▸hF)) fun h=>(zf i j k h).2
 have w5:=Pp.same cq hnb (fun k h e=>by
  subst e
  exact h.elim (fun h=>I.apart.dZ id _ cU hF h) (fun h=>kI _ h hF))
 simp only [Bool.and_self] at w5
 obtain ⟨CD,h0,iP⟩:=w5.own gB (by simpa using gx) AT (fun i j h=>hnb i j b h rfl)
 have acp:∀k,(k=b∨∃i j,G' i j k)→ ¬jJ ro.t ro.xs (g.rv id) p k:=by
  rintro k (rfl | ⟨i,j,h⟩)
  ·exact pI.eg ze
  ·rcases p5 i j k h with h | h
   ·exact fun h'=>kI k h (pI.jq h')
   ·exact pI.eg (zf i j k h).1
 obtain ⟨p6,h1,h2,h3⟩:=pI.IS hs hz cq (fun k e=>by subst e;exact pI.eg ze) iP (by rw [h0,fw];simp) acp
 refine ⟨_,by rfl,I.jI (ro':=⟨ro.t,.deep,ro.ver,ro.log++[p.length],zs⟩) (.inl dJ) cq iR (fun k e=>by subst e;exact I.alone cU hF) (fun _ h=>h) (fun aH k h1 _ h3=>I.apart.dZ aH k h1 h3)
  I.apart.fL (fun k h=>Nat.lt_of_lt_of_le (I.apart.c7 k h) cq.1) I.apart.bU rfl rfl (l:=[p.length]) rfl (av:=p6) (F:=fun k=>(k=b∨∃i j,G' i j k)∨jJ ro.t ro.xs (g.rv id) p k) (fun q hq=> ?_) ?_ (fun k hk=> ?_)⟩
 ·have hql:q.length≤p.length:=hq _ (by simp)
  have EH:p <+: q→q=p:=fun h=>(h.eq_of_length_le hql).symm
  exact ⟨h1 q EH,fun sq jX=>oE hs hz (by simp) q sq EH jX⟩
 ·unfold aS
  simp only [Gh.b8,if_true]
  exact h3
 ·have hold:g.rf id k→(∀ aH,aP st aH→aH≠id→ ¬g.rf aH k)∧ ¬g.ro k∧(∀ b,bA st b→g.bx b≠k)∧(w0.heap.size≤k∨Mf k)∧k<(w.setRow b (putAt us (oo+i*aD s.t+off) vs)).heap.size:=fun hk=>
   ⟨(I.alone cU hk).r,(I.alone cU hk).ro,(I.alone cU hk).b,I.apart.ck id k cU hk,Nat.lt_of_lt_of_le (I.apart.eb id k cU hk) cq.1⟩
  rcases hk with (rfl | ⟨i',j',h⟩) | h
  ·exact hold hF
  ·rcases p5 i' j' k h with h | h
   ·obtain ⟨hf,ct⟩:=cK k h
    exact ⟨fun aH h1 _=>hf.r aH h1,hf.ro,hf.b,hf.gy,Nat.lt_of_lt_of_le ct cq.1⟩
   ·exact hold (pI.tf (zf i' j' k h).1)
  ·exact hold (pI.jq h)
theorem Inv.GK (I0:Inv w0 Mf g st0 a w) (I:Inv w0 Mf g st a w) {eX:List (Nat×Rt)} {Gs:List (Nat→Prop)} (T:jW w g st0 st eX Gs) {id:Nat} {ro:cB} (dJ:ax st.roots id=some (.live ro))
 (hm:ro.md.cr=false) (hmp:ro.md.cW=false) {i:Nat} {x y:El ro.t} (hx:ro.xs[i]? =some x) {cv:List Cv} {vs:Array Value} {off:Nat} {d:Bool} (hA:mB w g.ro cv vs.toList Gs d) (hy:enc ro.t y=dY (enc ro.t x) off cv) (hle:off+cv.length≤aD ro.t)
    {b oo n cap:Nat} (fw:g.rv id [] = .slice (some ⟨b,oo,none⟩) n cap):
    ∃us el,w.heap[b]? =some (.cells us el (0,0))∧oo+i*aD ro.t+aD ro.t≤us.size∧∃g':Gh,g'.n=g.n∧
      Inv w0 Mf g' { st with roots:=aX st.roots id (.live ⟨ro.t,.nq,ro.ver,ro.log++[0],ro.xs.set i y⟩) } a (w.setRow b (putAt us (oo+i*aD ro.t+off) vs)):=by
 have hi:=nG hx
 have cU:aP st id:=⟨ro,dJ,hm⟩
 have hr:=I.roots id ro dJ
 have hU:=hr.node (p:=[]) (s:=⟨ro.t,ro.xs⟩) rfl (by cases h:ro.md<;>simp_all [Md.bK,Md.j8,Md.cr,Md.cW])
 have hv:vs.size=cv.length:=by have:=hA.len.1;simpa using this
 rcases hU with ⟨h0,_⟩ | ⟨b',UL,rh,us,el,e1,hF,hb,gx,gq,eP⟩
 ·simp only at h0;rw [h0] at hi;simp at hi
 rw [fw] at e1
 simp only [Value.slice.injEq,Option.some.injEq,Addr.mk.injEq,and_true] at e1
 obtain ⟨⟨rfl,rfl⟩,rfl,rfl⟩:=e1
 simp only at gx gq eP
 have hmul:i*aD ro.t+aD ro.t≤ro.xs.length*aD ro.t:=by
  have:(i+1)*aD ro.t≤ro.xs.length*aD ro.t:=Nat.mul_le_mul_right _ hi
  rw [Nat.add_mul] at this;omega
 have EG:ro.xs.length*aD ro.t≤cap*aD ro.t:=Nat.mul_le_mul_right _ gx
 refine ⟨us,el,hb,by omega,?_⟩
 have cq:=eQ w b (putAt us (oo+i*aD ro.t+off) vs)
 have gB:=setRow_heap w b us (putAt us (oo+i*aD ro.t+off) vs) el (0,0) hb
 have AT:oo+cap*aD ro.t≤(putAt us (oo+i*aD ro.t+off) vs).size:=by rw [eZ (by omega)];exact gq
 have iR:Kept w0 (w.setRow b (putAt us (oo+i*aD ro.t+off) vs)) Mf:=I.kept.step rfl rfl rfl cq (fun k e=>by subst e;exact I.apart.ck id _ cU hF)
 have cK:∀k,Any Gs k→fx w0 Mf g st k∧k<w.heap.size:=fun k ⟨F,hF,hk⟩=>T.free I0 hF hk
 have kI:∀k,Any Gs k→ ¬g.rf id k:=fun k ⟨F,hF,hk⟩=>T.off F hF k hk id cU
 -- what was there, in pieces
 have hpc:∃dd G,dI w g.ro dd ro.t ro.xs us oo G∧∀i j k,G i j k→g.rf id k∧k≠b:=by
  unfold aS at hr
  split at hr
  ·refine ⟨true,_,hr.pieces (ro:=g.ro) (by simpa using eP),?_⟩
   rintro i j k ⟨q,s2,h1,h2⟩
   refine ⟨(hr.1 _ s2 h1).nt h2,fun e=> ?_⟩
   subst e
   have:=hr.2 _ [] s2 ⟨ro.t,ro.xs⟩ k h1 rfl h2 (by rw [fw];rfl)
   simp at this
  ·exact ⟨false,_,hr.pieces (by simpa using eP),fun _ _ _ h=>h.elim⟩
  ·rename_i cI;simp [cI,Md.cr] at hm
  ·rename_i cI;simp [cI,Md.cW] at hmp
 obtain ⟨dd,G,hpc,hG⟩:=hpc
 obtain ⟨G',Pp,p5⟩:=hpc.YD hx hA hy hle (fun _ h=>h) T.apart (fun i j k h1 h2=>kI k h2 (hG i j k h1).1) (by omega)
 have hnb:∀i j k,G' i j k→k≠b:=fun i j k h=>(p5 i j k h).elim (fun h e=>kI k h (e▸hF)) fun h=>(hG i j k h).2
 let PR:Nat→Prop:=fun k=>(g.ro k∨Any Gs k)∨∃i j,G' i j k
 have w5:=Pp.same cq hnb (fun k h e=>by
  subst e
  exact h.elim (fun h=>I.apart.dZ id _ cU hF h) (fun h=>kI _ h hF))
 obtain ⟨CD,h0,iP⟩:=w5.nq gB (by simpa using gx) AT (ro':=PR) (fun k=> .inl) (fun i j k h=> .inr ⟨i,j,h⟩)
 -- who holds what is read from now on
 have hRO:∀k,PR k→(∀ aH,aP st aH→aH≠id→ ¬g.rf aH k)∧(∀ b,bA st b→g.bx b≠k)∧k<w.heap.size∧k≠b:=by
  have EI:∀k,Any Gs k→(∀ aH,aP st aH→aH≠id→ ¬g.rf aH k)∧(∀ b,bA st b→g.bx b≠k)∧k<w.heap.size∧k≠b:=fun k h=>by
   obtain ⟨hf,ct⟩:=cK k h
   exact ⟨fun aH h1 _=>hf.r aH h1,hf.b,ct,fun e=>kI k h (e▸hF)⟩
  rintro k ((h | h) | ⟨i',j',h⟩)
  ·exact ⟨fun aH h1 _ h3=>I.apart.dZ aH k h1 h3 h,fun b' gB e=>I.apart.fL b' gB (e▸h),I.apart.c7 k h,fun e=>I.apart.dZ id b cU hF (e▸h)⟩
  ·exact EI k h
  ·rcases p5 i' j' k h with h | h
   ·exact EI k h
   ·have hk:=(hG i' j' k h).1
    exact ⟨(I.alone cU hk).r,(I.alone cU hk).b,I.apart.eb id k cU hk,(hG i' j' k h).2⟩
 have acs:∀k,PR k→g.n.r0 k∨w0.heap.size≤k∨Mf k:=by
  rintro k ((h | h) | ⟨i',j',h⟩)
  ·exact I.apart.bU k h
  ·exact .inr (cK k h).1.gy
  ·rcases p5 i' j' k h with h | h
   ·exact .inr (cK k h).1.gy
   ·exact .inr (I.apart.ck id k cU (hG i' j' k h).1)
 refine ⟨_,by rfl,I.jI (ro':=⟨ro.t,.nq,ro.ver,ro.log++[0],ro.xs.set i y⟩) (G:=PR) (.inl dJ) cq iR (fun k e=>by subst e;exact I.alone cU hF) (fun _ h=> .inl (.inl h)) (fun aH k h1 h2 h3 h4=>(hRO k h4).1 aH h1 h2 h3)
  (fun b' gB h=>(hRO _ h).2.1 b' gB rfl) (fun k h=>Nat.lt_of_lt_of_le (hRO k h).2.2.1 cq.1) acs rfl rfl (l:=[0]) rfl (av:=CD) (F:=fun k=>k=b) (fun q hq=> ?_) ?_ (fun k hk=> ?_)⟩
 ·have PX:q=[]:=List.eq_nil_of_length_eq_zero (Nat.le_zero.1 (hq 0 (by simp)))
  subst PX
  refine ⟨by rw [h0,fw];simp,fun sq jX=> ?_⟩
  simp only [aR,Option.some.injEq] at jX
  subst jX
  exact ⟨_,rfl,rfl,by simp⟩
 ·unfold aS
  simp only [Gh.b8,if_true]
  exact iP
 ·subst hk
  exact ⟨(I.alone cU hF).r,fun h=>(hRO _ h).2.2.2 rfl,(I.alone cU hF).b,I.apart.ck id _ cU hF,Nat.lt_of_lt_of_le (I.apart.eb id _ cU hF) cq.1⟩
theorem tW:∀ {p:Path} {t:Ty} {xs zs:List (El t)} {s s':Sl},aR t xs p=some s→dp t xs p s'=some zs→
    ∀q sq,¬p <+: q→aR t xs q=some sq→∃U1,aR t zs q=some U1∧U1.t=sq.t∧U1.xs.length=sq.xs.length
  | [],t,xs,zs,s,s',h,hz,q,sq,hq,jX=>absurd List.nil_prefix hq
  | (i,j)::p,t,xs,zs,s,s',h,hz,q,sq,hq,jX=>by
    simp only [aR] at h
    split at h
    case h_2=>cases h
    rename_i x hx
    split at h
    case h_2=>cases h
    rename_i t1 ys hc
    simp only [dp,bz hx,hc,Option.bind_eq_some_iff,Option.some.injEq] at hz
    obtain ⟨z1,Gx,y,hy,rfl⟩:=hz
    have Gy:=c6 hy
    have ct:=nG hx
    have hj:j<(enc t x).length:=by rw [br];exact lv hc
    cases q with
    | nil=>
      simp only [aR,Option.some.injEq] at jX
      subst jX
      exact ⟨⟨t,xs.set i y⟩,rfl,rfl,by simp⟩
    | cons ij q=>
      obtain ⟨i',j'⟩:=ij
      simp only [aR] at jX ⊢
      by_cases qc:i=i'
      · subst qc
        simp only [List.getElem?_set_self ct,←Gy]
        rw [hx] at jX
        simp only at jX
        by_cases Ib:j=j'
        · subst Ib
          simp only [hc,List.getElem?_set_self hj] at jX ⊢
          exact tW h Gx q sq (fun hp=>hq (by simpa using hp)) jX
        · rw [List.getElem?_set_ne Ib]
          exact ⟨sq,jX,rfl,rfl⟩
      · simp only [List.getElem?_set_ne qc]
        exact ⟨sq,jX,rfl,rfl⟩
theorem lx:∀ {q:Path} {t:Ty} {xs:List (El t)} {s:Sl},aR t xs q=some s→∀p,sub t xs (q++p)=sub s.t s.xs p
  | [],t,xs,s,h,p=>by simp only [aR,Option.some.injEq] at h;subst h;rfl
  | (i,j)::q,t,xs,s,h,p=>by
    simp only [aR] at h
    split at h
    · rename_i x hx
      split at h
      · rename_i t' ys hc
        simp only [List.cons_append,sub,bz hx,hc]
        exact lx h p
      · cases h
    · cases h
theorem GL {us:Array Value} {off:Nat} {u:Value} (h:off<us.size) (m:Nat):(putAt us off #[u])[m]? =if m=off then some u else us[m]? :=by
 rw [iX (by simp;omega)]
 by_cases e:m=off
 ·subst e;rw [if_pos ⟨Nat.le_refl _,by simp⟩,if_pos rfl,Nat.sub_self];rfl
 ·rw [if_neg (by simp;omega),if_neg e]
theorem cY.fill {F F2:Nat→Prop} {t:Ty} {xs zs:List (El t)} {av:Path→Value} {q:Path} {i j:Nat} (h:cY w F (.hole (q++[(i,j)])) t xs av) {s s':Sl} (hs:aR t xs (q++[(i,j)])=some s)
 (hz:dp t xs (q++[(i,j)]) s'=some zs) {b oo n cap:Nat} (fw:av q = .slice (some ⟨b,oo,none⟩) n cap) {sq:Sl} (jX:aR t xs q=some sq) {us:Array Value} {el:TypeId} {fz:Nat×Nat} (hb:w.heap[b]? =some (.cells us el fz))
    {u:Value} (hu:cR u=true) {CD:Path→Value} (iP:bo w F2 s'.t s'.xs CD) (h0:CD []=u) (YF:∀k,F2 k→ ¬F k):
    ∃p6:Path→Value,(∀ r,¬(q++[(i,j)]) <+: r→p6 r=av r)∧bo (w.setRow b (putAt us (oo+i*aD sq.t+j) #[u])) (fun k=>F k∨F2 k) t zs p6:=by
 have hqa:(Pt.hole (q++[(i,j)])).nodeAt q=true:=(iy (by simp)).2 fun hp=>by
  have:=hp.length_le
  simp at this
  omega
 obtain ⟨xq,hxq,hcq⟩:∃xq,sq.xs[i]? =some xq∧(enc sq.t xq)[j]? =some (.l s.t s.xs):=by
  rw [ch _ jX] at hs
  exact GH hs
 have hi:=nG hxq
 have hj:=lv hcq
 rcases h.1 q sq hqa jX with ⟨e0,_⟩ | ⟨b',UL,rh,us',p3,e1,Pq,gB,gx,gq,eP⟩
 ·rw [e0] at hi;simp at hi
 rw [fw] at e1
 simp only [Value.slice.injEq,Option.some.injEq,Addr.mk.injEq,and_true] at e1
 obtain ⟨⟨rfl,rfl⟩,rfl,rfl⟩:=e1
 rw [hb] at gB
 simp only [Option.some.injEq,Obj.cells.injEq] at gB
 obtain ⟨rfl,rfl,rfl⟩:=gB
 have hmul:i*aD sq.t+aD sq.t≤sq.xs.length*aD sq.t:=by
  have:(i+1)*aD sq.t≤sq.xs.length*aD sq.t:=Nat.mul_le_mul_right _ hi
  rw [Nat.add_mul] at this;omega
 have EG:sq.xs.length*aD sq.t≤cap*aD sq.t:=Nat.mul_le_mul_right _ gx
 have kI:oo+i*aD sq.t+j<us.size:=by omega
 have cq:=eQ w b (putAt us (oo+i*aD sq.t+j) #[u])
 have hbn:=setRow_heap w b us (putAt us (oo+i*aD sq.t+j) #[u]) el (0,0) hb
 have acu:(putAt us (oo+i*aD sq.t+j) #[u]).size=us.size:=eZ (by simp;omega)
 let p6:Path→Value:=fun r=>if (q++[(i,j)]) <+: r then CD (r.drop (q++[(i,j)]).length) else av r
 have XS:∀r,p6 ((q++[(i,j)])++r)=CD r:=fun r=>by simp only [p6];rw [if_pos (List.prefix_append _ _),List.drop_left]
 have AX:∀r,¬(q++[(i,j)]) <+: r→p6 r=av r:=fun r hr=>by simp only [p6];rw [if_neg hr]
 have EJ:bo (w.setRow b (putAt us (oo+i*aD sq.t+j) #[u])) F2 s'.t s'.xs CD:=iP.same cq fun k hk e=>by subst e;exact YF _ hk Pq
 refine ⟨p6,AX,fun r CB sR=> ?_,fun r1 r2 s1 s2 n h1 h2 h3 h4=> ?_⟩
 ·rcases kc hs hz r CB sR with ⟨r',rfl,Ii⟩ | ⟨hn,s2,Ii,sS⟩
  ·rw [XS]
   have:=(EJ.1 r' CB Ii).mono (Q:=fun k=>F k∨F2 k) fun k=> .inr
   refine this.eW fun i y j t' ys _ _=> ?_
   rw [List.append_assoc,XS]
  ·rw [AX r hn]
   have ha:=(iy (by simp)).2 hn
   have h1:=h.1 r s2 ha Ii
   by_cases hrq:r=q
   ·subst hrq
    rw [jX] at Ii;cases Ii
    refine .inr ⟨b,oo,cap,_,el,by rw [fw,sS.2.1],.inl Pq,hbn,by rw [sS.2.1];exact gx,by rw [acu,sS.1];exact gq,?_⟩
    have YG:=sS.rows eP
    intro i2 y j2 c hy hc
    obtain ⟨z,hz2,p4⟩:=YG i2 y j2 c hy hc
    rw [sS.1] at hz2 ⊢
    rw [GL kI]
    have hj2:j2<aD sq.t:=by rw [← sS.1];exact lv hc
    by_cases e:oo+i2*aD sq.t+j2=oo+i*aD sq.t+j
    ·rw [if_pos e]
     have:i2=i∧j2=j:=by
      rcases Nat.lt_trichotomy i2 i with ct | heq | ct
      ·have:(i2+1)*aD sq.t≤i*aD sq.t:=Nat.mul_le_mul_right _ ct
       rw [Nat.add_mul] at this;omega
      ·subst heq;exact ⟨rfl,by omega⟩
      ·have:(i+1)*aD sq.t≤i2*aD sq.t:=Nat.mul_le_mul_right _ ct
       rw [Nat.add_mul] at this;omega
     obtain ⟨rfl,rfl⟩:=this
     refine ⟨u,rfl,?_⟩
     have Ij:c.kind.isSome=true:=by
      obtain ⟨y0,c0,h5,h6,h7⟩:=sS.2.2 i2 y j2 c hy hc
      rw [hxq] at h5;cases h5
      rw [hcq] at h6;cases h6
      cases c with
      | v x=>exact h7.elim
      | l t' ys=>rfl
     cases c with
     | v x=>cases Ij
     | l t' ys=>
      show u=p6 (r++[(i2,j2)])
      have:=XS []
      rw [List.append_nil] at this
      rw [this,h0]
    ·rw [if_neg e]
     refine ⟨z,hz2,?_⟩
     cases c with
     | v x=>exact p4
     | l t' ys=>
      have p4:z=av (r++[(i2,j2)]):=p4
      show z=p6 (r++[(i2,j2)])
      rw [p4,AX]
      intro hp
      have hl:=hp.eq_of_length (by simp)
      have:=List.append_cancel_left hl
      simp only [List.cons.injEq,Prod.mk.injEq,and_true] at this
      exact e (by rw [this.1,this.2])
   ·have yW:∀k,q6 (av r)=some k→k≠b:=fun k hk e=>by
     subst e
     exact hrq (h.2.1 r q s2 sq k ha hqa Ii jX hk (by rw [fw];rfl))
    have h2:=(h1.XN (G:=fun k=>F k∧k≠b) fun k hk=>⟨h1.nt hk,yW k hk⟩).same cq fun k hk e=>hk.2 e
    refine ((sS.own h2).mono fun k hk=>Or.inl hk.1).eW fun i2 y j2 t' ys _ _=> ?_
    refine AX _ fun hp=> ?_
    rw [List.prefix_concat_iff] at hp
    rcases hp with hp | hp
    ·have:=List.append_inj_left' hp rfl
     exact hrq this.symm
    ·exact hn hp
 ·rcases kc hs hz r1 s1 h1 with ⟨r1',rfl,o8⟩ | ⟨CC,s1',o8,_⟩<;>rcases kc hs hz r2 s2 h2 with ⟨r2',rfl,sR⟩ | ⟨EE,CB,sR,_⟩
  ·rw [XS] at h3 h4
   rw [EJ.2 _ _ _ _ n o8 sR h3 h4]
  ·rw [XS] at h3;rw [AX _ EE] at h4
   exact (YF n ((EJ.1 _ _ o8).nt h3) ((h.1 _ _ ((iy (by simp)).2 EE) sR).nt h4)).elim
  ·rw [XS] at h4;rw [AX _ CC] at h3
   exact (YF n ((EJ.1 _ _ sR).nt h4) ((h.1 _ _ ((iy (by simp)).2 CC) o8).nt h3)).elim
  ·rw [AX _ CC] at h3;rw [AX _ EE] at h4
   exact h.2.1 _ _ _ _ n ((iy (by simp)).2 CC) ((iy (by simp)).2 EE) o8 sR h3 h4
theorem Inv.GM (I0:Inv w0 Mf g st0 a w) (I:Inv w0 Mf g st a w) {eX:List (Nat×Rt)} {F2:Nat→Prop} (T:jW w g st0 st eX [F2]) {id:Nat} {ro:cB} (dJ:ax st.roots id=some (.live ro))
    {q:Path} {i j:Nat} (hm:ro.md = .part (.hole (q++[(i,j)]))) {sq:Sl} (jX:aR ro.t ro.xs q=some sq) (hi:i<sq.xs.length) {s:Sl} (hs:sub ro.t ro.xs (q++[(i,j)])=some s) {ys:List (El s.t)} {u:Value} (hu:cR u=true)
 (iP:kb w F2 s.t ys u) {zs:List (El ro.t)} (hz:dp ro.t ro.xs (q++[(i,j)]) ⟨s.t,ys⟩=some zs) {b oo n cap:Nat} (fw:g.rv id q = .slice (some ⟨b,oo,none⟩) n cap) (hj:j<aD sq.t):
    ∃us el,w.heap[b]? =some (.cells us el (0,0))∧oo+i*aD sq.t+aD sq.t≤us.size∧∃g':Gh,g'.n=g.n∧
      Inv w0 Mf g' { st with roots:=aX st.roots id (.live ⟨ro.t,.deep,ro.ver,ro.log++[q.length],zs⟩) } a (w.setRow b (putAt us (oo+i*aD sq.t+j) #[u])):=by
 have hr:=I.roots id ro dJ
 unfold aS at hr
 rw [hm] at hr
 have hr:cY w (g.rf id) (.hole (q++[(i,j)])) ro.t ro.xs (g.rv id):=hr
 have cU:aP st id:=⟨ro,dJ,by rw [hm];rfl⟩
 have hqa:(Pt.hole (q++[(i,j)])).nodeAt q=true:=(iy (by simp)).2 fun hp=>by
  have:=hp.length_le
  simp at this
  omega
 rcases hr.1 q sq hqa jX with ⟨e0,_⟩ | ⟨b',UL,rh,us,el,e1,Pq,hb,gx,gq,eP⟩
 ·rw [e0] at hi;simp at hi
 rw [fw] at e1
 simp only [Value.slice.injEq,Option.some.injEq,Addr.mk.injEq,and_true] at e1
 obtain ⟨⟨rfl,rfl⟩,rfl,rfl⟩:=e1
 have hmul:i*aD sq.t+aD sq.t≤sq.xs.length*aD sq.t:=by
  have:(i+1)*aD sq.t≤sq.xs.length*aD sq.t:=Nat.mul_le_mul_right _ hi
  rw [Nat.add_mul] at this;omega
 have EG:sq.xs.length*aD sq.t≤cap*aD sq.t:=Nat.mul_le_mul_right _ gx
 have hsR:∃s1,aR ro.t ro.xs (q++[(i,j)])=some s1:=by
  have hx:=c9 hi
  rw [lx jX] at hs
  rw [ch _ jX]
  simp only [sub,aR,hx] at hs ⊢
  split at hs
  ·rename_i t' ys' hc;first | exact ⟨_,rfl⟩ | (simp only [hc];exact ⟨_,rfl⟩)
  ·cases hs
 obtain ⟨s1,o8⟩:=hsR
 have:=cX o8
 rw [hs] at this;cases this
 have cK:∀k,F2 k→fx w0 Mf g st k∧k<w.heap.size:=fun k hk=>T.free I0 (by simp) hk
 obtain ⟨CD,h0,EE⟩:=iP
 obtain ⟨p6,h1,h2⟩:=hr.fill o8 hz fw jX hb hu EE h0 fun k hk kF=>(cK k hk).1.r id cU kF
 have cq:=eQ w b (putAt us (oo+i*aD sq.t+j) #[u])
 have iR:Kept w0 (w.setRow b (putAt us (oo+i*aD sq.t+j) #[u])) Mf:=I.kept.step rfl rfl rfl cq (fun k e=>by subst e;exact I.apart.ck id _ cU Pq)
 refine ⟨us,el,hb,by omega,_,by rfl,I.jI (ro':=⟨ro.t,.deep,ro.ver,ro.log++[q.length],zs⟩) (.inl dJ) cq iR (fun k e=>by subst e;exact I.alone cU Pq) (fun _ h=>h) (fun aH k h1 _ h3=>I.apart.dZ aH k h1 h3)
  I.apart.fL (fun k h=>Nat.lt_of_lt_of_le (I.apart.c7 k h) cq.1) I.apart.bU rfl rfl (l:=[q.length]) rfl (av:=p6) (F:=fun k=>g.rf id k∨F2 k) (fun r kF=> ?_) ?_ (fun k hk=> ?_)⟩
 ·have Tq:r.length≤q.length:=kF _ (by simp)
  have hnp : ¬(q++[(i,j)]) <+: r:=fun hp=>by
   have:=hp.length_le
   simp at this
   omega
  exact ⟨h1 r hnp,fun sr hsr=>tW o8 hz r sr hnp hsr⟩
 ·unfold aS
  simp only [Gh.b8,if_true]
  exact h2
 ·rcases hk with hk | hk
  ·exact ⟨(I.alone cU hk).r,(I.alone cU hk).ro,(I.alone cU hk).b,I.apart.ck id k cU hk,Nat.lt_of_lt_of_le (I.apart.eb id k cU hk) cq.1⟩
  ·obtain ⟨hf,ct⟩:=cK k hk
   exact ⟨fun aH h1 _=>hf.r aH h1,hf.ro,hf.b,hf.gy,Nat.lt_of_lt_of_le ct cq.1⟩
end Go.Gm
namespace Go.Gm
open Go
variable {R : Type} {P : Program} {E : Env} {w0 w : World} {Mf : Nat → Prop} {g : Gh} {st : St} {a : Act} {Q : Exit → Act → World → Prop}
  {o:Oper} {k:Dl→Option R} {r:R} {K:Act→World→Prop}
theorem mG {w':World} (hd:o.dst=none) (h:(execOp a.eval o).run P w = .ok .skip w') (hK:K a w'):o.wp P a w K Q:=by
 unfold Oper.wp;rw [h,Oper.upon_skip,hd];exact hK
theorem EK (t:Ty) (x:El t) (j:Nat):((enc t x)[j]?).map Cv.kind=(kinds t)[j]? :=by
 rw [← tz t x,List.getElem?_map]
theorem PY (hE:E.Ok P) (I:Inv w0 Mf g st a w) (hK:Then w0 Mf g st k r K) {T:Nat} {x y:Operand} (cc:o.op = .store T x y)
 (h:eE E o st k=some r):o.wp P a w K Q:=by
 simp only [eE,cc] at h
 replace h:=a8 h;obtain ⟨kf,h⟩:=h
 have kf:=Option.isNone_iff_eq_none.1 kf
 replace h:=aQ h;obtain ⟨t,hT,h⟩:=h
 replace h:=I.fr h;obtain ⟨c,h,hc⟩:=h
 replace h:=I.dk h;obtain ⟨s,h,hs⟩:=h
 replace h:=aQ h;obtain ⟨cs,fe,h⟩:=h
 replace h:=a8 h;obtain ⟨hlen,h⟩:=h
 have hlen:=gX hlen
 obtain ⟨vs,eA,sT⟩:=dm fe hs
 have Ps:vs.size=cs.length:=sT.1
 have er:∀(b off:Nat) (us:Array Value) (el:Nat),a.eval x = .pointer (some ⟨b,off,none⟩)→w.heap[b]? =some (.cells us el (0,0))→off+aD t≤us.size→
   (execOp a.eval o).run P w = .ok .skip (w.setRow b (putAt us off vs)):=by
  intro b off us el hx hb hl
  have:=qh hE hT (off:=off) hb eA (by omega) hl sT.flat
  rw [oF (by omega)] at this
  simp [execOp,cc,Instr.storeAt,hx,Instr.sureAddr,this]
 split at h
 ·-- into a variable in memory
  rename_i b off
  replace h:=aQ h;obtain ⟨bx,yS,h⟩:=h
  replace h:=a8 h;obtain ⟨hl,h⟩:=h
  have hl:=gw hl
  obtain ⟨us,el,hb,nE⟩:=I.boxes b bx yS
  have r8:=nE.1
  have cU:bA st b:=by simp [bA,yS]
  refine mG kf (er _ _ us el hc.2.1 hb (by omega)) (hK _ g _ _ h rfl ?_)
  have cq:=eQ w (g.bx b) (putAt us off vs)
  have sW:=nE.set sT off (by omega)
  rw [oF (by omega)] at sW
  have:=I.qf (t:=bx.t) cU cq (I.kept.step rfl rfl rfl cq (fun k e=>by subst e;exact I.apart.dA b cU)) (setRow_heap w _ us _ el (0,0) hb) sW
  simpa [St.apply,cg] using this
 ·-- into an own list
  rename_i id ver iv p i off
  replace h:=da h;obtain ⟨ro,cZ,h⟩:=h
  split at h
  ·rename_i p0 xM
   replace h:=a8 h;obtain ⟨heq,h⟩:=h
   have heq:=yO.1 heq
   subst heq
   split at h
   case h_2=>cases h
   rename_i c1 _
   replace h:=aQ h;obtain ⟨s0,U3,h⟩:=h
   obtain ⟨u1,hu1,kE⟩:=sT.2 0 c1 rfl
   have acx:vs = #[u1]:=by
    apply Array.ext_getElem?
    intro n
    cases n with
    | zero=>simpa using hu1
    | succ n=>rw [Array.getElem?_eq_none (by rw [Ps];simp),Array.getElem?_eq_none (by simp)]
   subst acx
   replace h:=I.jO h kE;obtain ⟨cv,d,aE,eX,F,h,I',TK,hr,ho⟩:=h
   replace h:=a8 h;obtain ⟨hd,h⟩:=h
   subst hd
   replace h:=de h;obtain ⟨w6,dJ,fM,h⟩:=h
   have C5:=TK.live id w6 dJ
   have:w6=ro:=by have:=C5.symm.trans cZ.1;simpa using this
   subst this
   replace h:=aQ h;obtain ⟨ys,IP,h⟩:=h
   replace h:=aQ h;obtain ⟨zs,hz,h⟩:=h
   obtain ⟨s',b,oo,n,cap,h1,h2,h3,hu⟩:=hc.2.2 w6 cZ.x
   have hm:w6.md = .part (.hole (p++[(i,off)])):=by
    cases hq:w6.md with
    | part k=>
     cases k with
     | cur a b=>rw [hq] at xM;cases xM
     | hole p1=>rw [hq] at xM;cases xM;rfl
    | _=>rw [hq] at xM;cases xM
   have hj:off<aD s'.t:=by
    rw [lx h1] at U3
    simp only [sub] at U3
    split at U3
    ·rename_i lR;exact lv lR
    ·cases U3
   have YH:=Cv.iq IP
   subst YH
   obtain ⟨us,el,hb,ff,g',hn,I2⟩:=I.GM I' TK dJ hm h1 h2 U3 kE.1 (ho rfl) hz h3 hj
   refine mG kf (er _ _ us el (by rw [hu]) hb (by simp only [List.length_cons,List.length_nil] at hlen;omega)) (hK _ g' _ _ h hn ?_)
   have lW:=TK.eq
   subst lW
   simpa [St.apply,bc,cg] using I2
  replace h:=aQ h;obtain ⟨s1,o8,h⟩:=h
  replace h:=a8 h;obtain ⟨ki,h⟩:=h
  replace h:=I.pE h sT.l;obtain ⟨cv,d,aE,eX,Gs,h,I',TK,hA⟩:=h
  replace h:=de h;obtain ⟨w6,dJ,fM,h⟩:=h
  have C5:=TK.live id w6 dJ
  have:w6=ro:=by have:=C5.symm.trans cZ.1;simpa using this
  subst this
  replace h:=a8 h;obtain ⟨hdp,h⟩:=h
  replace h:=aQ h;obtain ⟨y1,hy1,h⟩:=h
  replace h:=aQ h;obtain ⟨zs,hz,h⟩:=h
  obtain ⟨s',b,oo,n,cap,h1,h2,h3,hu⟩:=hc.2.2 w6 cZ.x
  have:=cX h1;rw [o8] at this;cases this
  simp only [Bool.and_eq_true,Bool.or_eq_true,Bool.not_eq_true',List.isEmpty_iff] at ki
  obtain ⟨cI,hl⟩:=ki
  have hl:=gw hl
  have Ik:=c9 h2
  have Gy:=(c6 hy1).symm
  have YH:cv.length=cs.length:=by have:=hA.len.1;simp [Ps] at this;omega
  have PZ:w6.md.bK=true∨(w6.md.j8=true∧p=[]):=cI
  have lW:=TK.eq
  cases EL:cv.all fun c=>c.kind.isNone
  ·-- lists go in
   simp only [EL,cond_false] at h
   by_cases xK:w6.md.bK=true∧d=true
   ·obtain ⟨hm,rfl⟩:=xK
    have Ig:w6.md = .deep:=by cases hq:w6.md<;>simp_all [Md.bK]
    obtain ⟨us,el,hb,ff,g',hn,I2⟩:=I.GJ I' TK dJ h1 Ig Ik hA Gy (by omega) hz h3
    refine mG kf (er _ _ us el (by rw [hu]) hb (by omega)) (hK _ g' _ _ h hn ?_)
    subst lW
    rw [Ig]
    simpa [St.apply,bc,cg,Md.meet] using I2
   ·have hp:p=[]:=by
     rcases PZ with hm | hm
     ·simp only [Bool.or_eq_true,List.isEmpty_iff] at hdp
      rcases hdp with hd | hp
      ·exact (xK ⟨hm,hd⟩).elim
      ·exact hp
     ·exact hm.2
    have w3:w6.md.cr=false:=by
     rcases PZ with hm | hm
     ·cases hq:w6.md<;>simp_all [Md.bK,Md.cr]
     ·cases hq:w6.md<;>simp_all [Md.j8,Md.cr]
    have xe:w6.md.cW=false:=by
     rcases PZ with hm | hm
     ·cases hq:w6.md<;>simp_all [Md.bK,Md.cW]
     ·cases hq:w6.md<;>simp_all [Md.j8,Md.cW]
    subst hp
    simp only [aR,Option.some.injEq] at h1
    subst h1
    have Tl:=tV hz
    subst Tl
    obtain ⟨us,el,hb,ff,g',hn,I2⟩:=I.GK I' TK dJ w3 xe Ik hA Gy (by simp only at hl ⊢;omega) h3
    refine mG kf (er _ _ us el (by rw [hu]) hb (by simp only at hl ff ⊢;omega)) (hK _ g' _ _ h hn ?_)
    have YI:w6.md.meet d = .nq:=by
     cases hq:w6.md<;>cases d<;>simp_all [Md.meet,Md.bK,Md.cr,Md.cW]
    rw [YI]
    subst lW
    simpa [St.apply,bc,cg] using I2
  ·simp only [EL,cond_true] at h
   rw [List.all_eq_true] at EL
   have pZ:∀(j:Nat) c,cv[j]? =some c→∃z,vs[j]? =some z∧c = .v z:=by
    intro j c hj
    obtain ⟨z,hz,hr⟩:=hA.rd.get j c hj
    have:=EL c (List.mem_of_getElem? hj)
    cases c with
    | v q=>exact ⟨z,by simpa using hz,by simp only [pF] at hr;rw [hr]⟩
    | l t' ys=>simp [Cv.kind] at this
   obtain ⟨us,el,hb,ff,g',hn,I2⟩:=I'.GI dJ h1 PZ Ik pZ (by omega) (fun j c hj1 hj2 Po=>by
     have e1:=EK s1.t (ar s1.xs i) j
     have e2:=EK s1.t y1 j
     rw [← e1,Gy,jY (by rw [br];omega),if_pos ⟨hj1,hj2⟩,Po] at e2
     have hj3:j-off<cv.length:=by omega
     rw [List.getElem?_eq_getElem hj3] at e2
     have:=EL cv[j-off] (List.getElem_mem hj3)
     simp only [Option.map_some,Option.some.injEq] at e2
     cases c with
     | v q=>exact ⟨q,rfl⟩
     | l t' ys=>rw [e2] at this;simp [Cv.kind] at this) Gy (by omega) hz h3
   refine mG kf (er _ _ us el (by rw [hu]) hb (by omega)) (hK _ g' _ _ h hn ?_)
   subst lW
   simpa [St.apply,bc,cg] using I2
 ·cases h
theorem zg (t e ty:TypeId) (zv:Value) (ht:P.underlying t=some (.slice e)) (hv:∀w,(zeroValue e).run P w = .ok zv w) (hz:∀v∈zv.cells.toList,v.oneCell'=true) (hz0:0<zv.cells.size) (b o n c:Nat) (hn:0<n) (cs:Array Value) (el:TypeId)
 (hb:w.heap[b]? =some (.cells cs el (0,0))) (eY:o+n*zv.cells.size≤cs.size):
 (Builtin.clear_ #[t] ty #[.slice (some ⟨b,o,none⟩) n c]).run P w = .ok (.tuple #[]) (w.setRow b (putAt cs o (Builtin.zeroCells zv.cells n))):=by
 have P0:∀v∈(Builtin.zeroCells zv.cells n).toList,v.oneCell'=true:=by
  intro v Tr
  simp only [Builtin.zeroCells,Array.toList_map,List.mem_map] at Tr
  obtain ⟨i,_,rfl⟩:=Tr
  refine hz _ ?_
  have ct:i%zv.cells.size<zv.cells.size:=Nat.mod_lt _ hz0
  rw [getElem!_pos zv.cells _ ct]
  exact Array.getElem_mem_toList ct
 have ff:=size_zeroCells zv.cells n
 have lW:=run_storeCells_at P b o el (Builtin.zeroCells zv.cells n).toList 0 cs w hb (by simp [ff];omega) P0
 simp only [Nat.add_zero] at lW
 rw [← oF (by rw [ff];omega)]
 obtain ⟨m,rfl⟩:∃m,n=m+1:=⟨n-1,by omega⟩
 simp [Builtin.clear_,run_underlying ht,hv,lW]
theorem GN {e:Ty}:∀v∈(ef e),v.oneCell'=true:=by
 intro v hv
 simp only [ef] at hv
 obtain ⟨c,hc,rfl⟩:=List.mem_map.1 hv
 obtain ⟨m,hm⟩:=List.getElem?_of_mem hc
 cases c with
 | v x=>exact tO (iB (P':=fun _=>True) (w:=default) hm rfl)
 | l t ys=>rfl
theorem oG {t:Ty} (h:(kinds t).all (fun q=>q.isNone)=true) (xs:List (El t)) {p:Path} (hp:p≠[]):aR t xs p=none:=by
 cases p with
 | nil=>exact (hp rfl).elim
 | cons x p=>
  obtain ⟨i,j⟩:=x
  simp only [aR]
  split
  ·split
   ·rename_i hc
    obtain ⟨_,e⟩:=tQ h hc
    cases e
   ·rfl
  ·rfl
theorem Inv.Tt (I:Inv w0 Mf g st a w) {id:Nat} {ro:cB} (dJ:ax st.roots id=some (.live ro)) (cI:ro.md = .deep) (oV:(kinds ro.t).all (fun q=>q.isNone)=true) {ys:List (El ro.t)} (hlen:ys.length=ro.xs.length)
    {w':World} (h1:w'.os=w.os) (h2:w'.tape=w.tape) (h3:w'.output=w.output) (hs:bH (g.rf id) w w') (hU:bB w' (g.rf id) ro.t ys (g.rv id []) fun i j=>g.rv id [(i,j)]):
    ∃g':Gh,g'.n=g.n∧Inv w0 Mf g' { st with roots:=aX st.roots id (.live ⟨ro.t,ro.md,ro.ver,ro.log,ys⟩) } a w':=by
 have cU:aP st id:=⟨ro,dJ,by rw [cI];rfl⟩
 have iR:Kept w0 w' Mf:=I.kept.step h1 h2 h3 hs (fun k e=>I.apart.ck id _ cU e)
 have nc:aS w' (({ g with ro:=g.ro }:Gh).b8 id (g.rv id) (g.rf id)) id ⟨ro.t,ro.md,ro.ver,ro.log,ys⟩:=by
  unfold aS
  simp only [Gh.b8,if_true,cI]
  refine ⟨fun p s hp=> ?_,fun p q s s' b hp hq _ _=> ?_⟩
  ·by_cases e:p=[]
   ·subst e;simp only [aR,Option.some.injEq] at hp;subst hp;exact hU
   ·rw [oG oV ys e] at hp;cases hp
  ·have e1:p=[]:=Classical.byContradiction fun e=>by rw [oG oV ys e] at hp;cases hp
   have e2:q=[]:=Classical.byContradiction fun e=>by rw [oG oV ys e] at hq;cases hq
   rw [e1,e2]
 exact ⟨_,by rfl,I.jI (ro':=⟨ro.t,ro.md,ro.ver,ro.log,ys⟩) (.inl dJ) hs iR (fun k e=>I.alone cU e) (fun _ h=>h) (fun aH k h1 _ h3=>I.apart.dZ aH k h1 h3)
  I.apart.fL (fun k h=>Nat.lt_of_lt_of_le (I.apart.c7 k h) hs.1) I.apart.bU rfl rfl (l:=[]) (by simp) (fun q _=>⟨rfl,fun sq jX=>by
   by_cases e:q=[]
   ·subst e;simp only [aR,Option.some.injEq] at jX;subst jX;exact ⟨_,rfl,rfl,hlen⟩
   ·rw [oG oV ro.xs e] at jX;cases jX⟩) nc
  (fun k hk=>⟨(I.alone cU hk).r,(I.alone cU hk).ro,(I.alone cU hk).b,I.apart.ck id k cU hk,Nat.lt_of_lt_of_le (I.apart.eb id k cU hk) hs.1⟩)⟩
theorem tX {α:Type} (z:α) {xs:List α} {lo hi:Nat} (h1:lo≤hi) (h2:hi≤xs.length):(AE z xs lo hi).length=xs.length:=by simp [AE];omega
theorem IV {α:Type} (z:α) {xs:List α} {lo hi:Nat} (h1:lo≤hi) (h2:hi≤xs.length) (i:Nat):(AE z xs lo hi)[i]? =if lo≤i∧i<hi then some z else xs[i]? :=by
 unfold AE
 by_cases h3:i<lo
 ·rw [List.append_assoc,List.getElem?_append_left (by simp;omega),List.getElem?_take,if_pos h3,if_neg (by omega)]
 ·by_cases h4:i<hi
  ·rw [List.getElem?_append_left (by simp;omega),List.getElem?_append_right (by simp;omega),if_pos (by omega),List.getElem?_replicate]
   simp;omega
  ·rw [List.getElem?_append_right (by simp;omega),List.getElem?_drop,if_neg (by omega)]
   congr 1;simp;omega
theorem P1 (hE:E.Ok P) (I:Inv w0 Mf g st a w) (hK:Then w0 Mf g st k r K) {c:Call} (cc:o.op = .call c) (hc:c.callee = .builtin .clear)
 (h:eE E o st k=some r):o.wp P a w K Q:=by
 simp only [eE,cc,hc,eD] at h
 split at h
 case h_2=>cases h
 rename_i x T gD IA
 have iV:c.args = #[x]:=by apply Array.ext';simpa using gD
 have AP:c.argTypes = #[T]:=by apply Array.ext';simpa using IA
 replace h:=a8 h;obtain ⟨kf,h⟩:=h
 have kf:=Option.isNone_iff_eq_none.1 kf
 replace h:=aQ h;obtain ⟨e,he,h⟩:=h
 obtain ⟨el,hu,q7⟩:=hE.slice (fN he)
 obtain ⟨ii,zv,mZ,ff,hby,hz,AR⟩:=hE.info el e q7
 replace h:=I.fr h;obtain ⟨c',h,lR⟩:=h
 split at h
 case h_2=>cases h
 rename_i id ver lo hi
 replace h:=de h;obtain ⟨ro,hv,fM,h⟩:=h
 obtain ⟨h1,h2,hx⟩:=lR.2.2 ro ⟨.inl hv,fM,gC _ _⟩
 replace h:=a8 h;obtain ⟨ki,h⟩:=h
 simp only [Bool.and_eq_true] at ki
 obtain ⟨cI,IW,eO⟩:=ki
 have IW:=gX IW
 have cI:ro.md = .deep:=by cases hq:ro.md<;>simp_all [Md.bK]
 replace h:=aQ h;obtain ⟨z,Gx,h⟩:=h
 have hez:enc ro.t z=enc e (zero e):=(c6 Gx).symm
 have oV:(kinds ro.t).all (fun q=>q.isNone)=true:=by
  rw [← tz ro.t z,hez,List.all_map];exact eO
 have xc:=gK e
 have Tl:zv.cells.size=aD e:=by rw [AR];simp [ef,br]
 have key:∀w',(Builtin.clear_ #[T] o.type #[a.eval x]).run P w = .ok (.tuple #[]) w'→(∃ g',g'.n=g.n∧Inv w0 Mf g' { st with roots:=aX st.roots id (.live ⟨ro.t,ro.md,ro.ver,ro.log,AE z ro.xs lo hi⟩) } a w')→o.wp P a w K Q:=by
  rintro w' hr ⟨g',hn,I'⟩
  have er:(execOp a.eval o).run P w = .ok (.value (.tuple #[])) w':=by simp [execOp,cc,resolve,hc,invoke,builtin,iV,AP,hr]
  unfold Oper.wp
  rw [er,Oper.upon_value,kf]
  refine hK _ g' _ _ h hn ?_
  show Inv w0 Mf g' _ a w'
  simpa [St.apply,cg] using I'
 have cU:aP st id:=⟨ro,hv,by rw [cI];rfl⟩
 have hU:=(I.roots id ro hv).node (p:=[]) (s:=⟨ro.t,ro.xs⟩) rfl (.inl (by rw [cI];rfl))
 simp only [List.nil_append] at hU
 by_cases hlh:lo=hi
 ·subst hlh
  have e:AE z ro.xs lo lo=ro.xs:=by simp [AE]
  have C6:∃ad cap,a.eval x = .slice ad 0 cap:=by
   rw [hx]
   rcases hU with ⟨_,e⟩ | ⟨b,oo,cap,cs,p3,e,_⟩<;>rw [e]<;>simp [lr]
  obtain ⟨ad,cap,e1⟩:=C6
  refine key w ?_ (I.Tt hv cI oV (by rw [e]) rfl rfl rfl ⟨Nat.le_refl _,fun _ _ _=>rfl⟩ (by rw [e];exact hU))
  rw [e1]
  cases ad<;>simp [Builtin.clear_,run_underlying hu]
 ·rcases hU with ⟨e,_⟩ | ⟨b,oo,cap,cs,p3,e1,hF,hb,gx,gq,eP⟩
  ·have e:ro.xs=[]:=e
   rw [e] at h2;simp at h2;omega
  ·have gx:ro.xs.length≤cap:=gx
   have gq:oo+cap*aD ro.t≤cs.size:=gq
   have eP:RowsIn ro.t ro.xs cs oo fun i j=>g.rv id [(i,j)]:=eP
   rw [← IW] at gq
   have e2:a.eval x = .slice (some ⟨b,oo+lo*aD e,none⟩) (hi-lo) (cap-lo):=by
    rw [hx,e1]
    simp only [lr]
    rw [if_neg (by omega),Option.map_some,jk,←IW]
   have m1:lo*aD e≤hi*aD e:=Nat.mul_le_mul_right _ h1
   have m2:hi*aD e≤cap*aD e:=Nat.mul_le_mul_right _ (by omega)
   have m3:(hi-lo)*aD e=hi*aD e-lo*aD e:=Nat.sub_mul _ _ _
   have YJ:(Builtin.zeroCells zv.cells (hi-lo)).size=hi*aD e-lo*aD e:=by rw [size_zeroCells,Tl,m3]
   have eY:oo+lo*aD e+(Builtin.zeroCells zv.cells (hi-lo)).size≤cs.size:=by rw [YJ];omega
   have yR:=zg (P:=P) T el o.type zv hu (fun w=>by simp [zeroValue,typeInfo,mZ,hz]) (by rw [AR];simpa using GN) (by omega) b (oo+lo*aD e) (hi-lo) (cap-lo) (by omega) cs p3 hb (by rw [Tl,m3];omega)
   have cq:=eQ w b (putAt cs (oo+lo*aD e) (Builtin.zeroCells zv.cells (hi-lo)))
   have gB:=setRow_heap w b cs (putAt cs (oo+lo*aD e) (Builtin.zeroCells zv.cells (hi-lo))) p3 (0,0) hb
   generalize hW:w.setRow b (putAt cs (oo+lo*aD e) (Builtin.zeroCells zv.cells (hi-lo)))=W at yR cq gB
   refine key W (by rw [e2];exact yR) (I.Tt hv cI oV (tX z h1 h2) (by rw [← hW];rfl) (by rw [← hW];rfl) (by rw [← hW];rfl) ⟨cq.1,fun k h3 h4=>cq.2 k h3 fun e=>h4 (by subst e;exact hF)⟩
     (.inr ⟨b,oo,cap,_,p3,by rw [e1,tX z h1 h2],hF,gB,by rw [tX z h1 h2];exact gx,by rw [eZ eY,←IW];exact gq,?_⟩))
   intro i y j c0 hy lR
   have hj:=lv lR
   rw [IV z h1 h2] at hy
   rw [iX eY,YJ]
   have mi:i*aD ro.t=i*aD e:=by rw [IW]
   have m4:i<lo→i*aD ro.t+aD ro.t≤lo*aD e:=fun hi=>by
    have:(i+1)*aD e≤lo*aD e:=Nat.mul_le_mul_right _ hi
    rw [Nat.add_mul] at this;omega
   have m5:hi≤i→hi*aD e≤i*aD ro.t:=fun hi=>by rw [← IW];exact Nat.mul_le_mul_right _ hi
   by_cases na:lo≤i∧i<hi
   ·rw [if_pos na] at hy
    cases hy
    have m6:lo*aD e≤i*aD ro.t:=by rw [← IW];exact Nat.mul_le_mul_right _ na.1
    have m7:i*aD ro.t+aD ro.t≤hi*aD e:=by
     have:(i+1)*aD e≤hi*aD e:=Nat.mul_le_mul_right _ na.2
     rw [Nat.add_mul] at this;omega
    rw [if_pos (by omega)]
    rw [hez] at lR
    have CQ:j<aD e:=by omega
    refine ⟨zv.cells[j]'(by omega),?_,?_⟩
    ·have hm8:oo+i*aD ro.t+j-(oo+lo*aD e)=(i-lo)*aD e+j:=by
      have:(i-lo)*aD e=i*aD e-lo*aD e:=Nat.sub_mul _ _ _
      omega
     rw [hm8]
     have ct:(i-lo)*aD e+j<(hi-lo)*zv.cells.size:=by
      rw [Tl,m3]
      have:(i-lo)*aD e=i*aD e-lo*aD e:=Nat.sub_mul _ _ _
      rw [← IW] at m7 m6;omega
     unfold Builtin.zeroCells
     rw [Array.getElem?_map,Array.getElem?_range,if_pos ct]
     simp only [Option.map_some,Option.some.injEq]
     have UX:((i-lo)*aD e+j)%zv.cells.size=j:=by rw [Tl,Nat.mul_comm,Nat.mul_add_mod];exact Nat.mod_eq_of_lt CQ
     rw [UX,getElem!_pos zv.cells j (by omega)]
    ·rw [List.all_eq_true] at eO
     have:=eO c0 (List.mem_of_getElem? lR)
     cases c0 with
     | v q=>
      simp only [eF]
      have hq:(ef e)[j]? =some q:=by simp [ef,lR]
      have:zv.cells[j]? =some q:=by rw [AR];simpa using hq
      rw [Array.getElem?_eq_getElem (by omega)] at this
      exact Option.some.inj this
     | l t' ys=>simp [Cv.kind] at this
   ·rw [if_neg na] at hy
    obtain ⟨u,wz,kE⟩:=eP i y j c0 hy lR
    refine ⟨u,?_,kE⟩
    rw [if_neg ?_]
    ·exact wz
    ·intro h5
     by_cases h6:i<lo
     ·have:=m4 h6;omega
     ·have:=m5 (by omega);omega
theorem Inv.YK (I:Inv w0 Mf g st a w) {id:Nat} {r:cB} (h:ax st.roots id=some (.live r)) {p:Path} (hp:r.md.nodeAt p=true) {s:Sl} (hs:aR r.t r.xs p=some s) {P:Nat→Prop} (cZ:∀k,g.ro k→P k) (hr:aP st id→∀k,g.rf id k→P k):
    ep w P s.t s.xs (g.rv id p) fun i j=>g.rv id (p++[(i,j)]):=by
 have hR:=I.roots id r h
 unfold aS at hR
 split at hR
 ·rename_i hm;exact (hR.rd p s hs).mono (hr ⟨r,h,by rw [hm];rfl⟩)
 ·rename_i hm;exact (hR.rd p s hs).mono fun k hk=>hk.elim (hr ⟨r,h,by rw [hm];rfl⟩ k) (cZ k)
 ·exact (hR p s hs).mono cZ
 ·rename_i hm;rw [hm,r7] at hp;exact (hR.1 p s hp hs).rd.mono (hr ⟨r,h,by rw [hm];rfl⟩)
theorem Inv.P2 (I:Inv w0 Mf g st a w) {id:Nat} {r:cB} (h:ax st.roots id=some (.live r)) {p:Path} (hp:r.md.jG p=true) {s:Sl} (hs:aR r.t r.xs p=some s) {P:Nat→Prop} (cZ:∀k,g.ro k→P k) (hr:aP st id→∀k,g.rf id k→P k):
    dR w P s.t s.xs fun q=>g.rv id (p++q):=by
 intro q s' fv
 have:=I.YK h (tI hp q) (p:=p++q) (s:=s') (by rw [ch q hs];exact fv) cZ hr
 simpa [List.append_assoc] using this
theorem Inv.Tv (I:Inv w0 Mf g st a w) {id:Nat} {r:cB} (h:ax st.roots id=some (.live r)) (hp:r.md.jG []=true) {P:Nat→Prop} (cZ:∀k,g.ro k→P k) (hr:aP st id→∀k,g.rf id k→P k):dR w P r.t r.xs (g.rv id):=by
 have hR:=I.roots id r h
 unfold aS at hR
 split at hR
 ·rename_i hm;exact hR.rd.mono (hr ⟨r,h,by rw [hm];rfl⟩)
 ·rename_i hm;exact hR.rd.mono fun k hk=>hk.elim (hr ⟨r,h,by rw [hm];rfl⟩ k) (cZ k)
 ·exact hR.mono cZ
 ·rename_i k hm;rw [hm] at hp;cases k<;>cases hp
theorem Inv.YL (I:Inv w0 Mf g st a w) {c:Sc} {q:Option Ty} {k:Cv→Option R} {r:R} {u:Value} (h:Gm.oU st c q k=some r) (hc:aZ w g st c u) {P:Nat→Prop} (cZ:∀k,g.ro k→P k)
 (hr:∀id∈c.names.2,aP st id→∀k,g.rf id k→P k):∃cv,k cv=some r∧pF w P cv u:=by
 unfold Gm.oU at h
 split at h
 ·exact ⟨_,h,hc.2⟩
 ·exact ⟨_,h,Eu _ _ _ ⟨none,0,hc.2⟩⟩
 ·exact ⟨_,h,fK.mono cZ hc.2⟩
 ·exact ⟨_,h,fK.mono cZ (I.kro hc.2)⟩
 ·rename_i id ver iv p t
  obtain ⟨ro,hv,h⟩:=da h
  obtain ⟨GA,h⟩:=a8 h
  obtain ⟨s,hs,h⟩:=aQ h
  obtain ⟨hu,ke⟩:=hc.2.2 ro hv.x
  obtain ⟨s',fv⟩:=Option.isSome_iff_exists.1 ke
  have:=cX fv
  rw [hs] at this;cases this
  refine ⟨_,h,_,?_,I.P2 hv.1 GA fv cZ (hr id (by simp [Sc.names]))⟩
  simpa using hu.symm
 ·rename_i id ver lo hi t
  obtain ⟨ro,hv,fM,h⟩:=de h
  obtain ⟨GA,h⟩:=a8 h
  obtain ⟨h1,h2,hu⟩:=hc.2.2 ro ⟨.inl hv,fM,gC _ _⟩
  refine ⟨_,h,?_⟩
  simp only [pF,hu]
  exact (I.Tv hv GA cZ (hr id (by simp [Sc.names]))).cut h1 h2
 ·cases h
theorem Inv.U4 (I:Inv w0 Mf g st a w) {P:Nat→Prop} (cZ:∀k,g.ro k→P k):∀ {cs:List Sc} {qs:List (Option Ty)} {k:List Cv→Option R} {r:R} {us:List Value},Gm.CP st cs qs k=some r→lV w g st cs us→
 (∀ c∈cs,∀id∈c.names.2,aP st id→∀k,g.rf id k→P k)→∃cv,k cv=some r∧iA w P cv us
 | [],[],k,r,us,h,hc,_=>by
  cases us with
  | nil=>exact ⟨[],h,trivial⟩
  | cons u us=>exact hc.elim
 | c::cs,q::qs,k,r,us,h,hc,hr=>by
  cases us with
  | nil=>exact hc.elim
  | cons u us=>
   obtain ⟨cv,h1,h2⟩:=I.YL h hc.1 cZ (hr c (by simp))
   obtain ⟨AI,h3,h4⟩:=I.U4 cZ h1 hc.2 (fun c hc=>hr c (by simp [hc]))
   exact ⟨cv::AI,h3,h2,h4⟩
 | [],_::_,k,r,us,h,hc,_=>by cases h
 | _::_,[],k,r,us,h,hc,_=>by cases h
theorem xf {t:Ty} {s:Sv} {cs:List Sc} (h:eV t s=some cs):s.cells=cs:=by
 unfold eV at h
 split at h
 ·simp only [Option.some.injEq] at h;subst h;rfl
 ·simp only [Option.some.injEq] at h;subst h;rfl
 ·cases h
theorem Inv.P3 (I:Inv w0 Mf g st a w) {t:Ty} {s:Sv} {k:El t→Option R} {r:R} {u:Value} (h:Gm.ra st t s k=some r) (hs:dD w g st s u) {P:Nat→Prop} (cZ:∀k,g.ro k→P k)
 (hr:∀c∈s.cells,∀id∈c.names.2,aP st id→∀k,g.rf id k→P k):∃x,k x=some r∧qd w P t x u:=by
 obtain ⟨cs,fe,h⟩:=aQ h
 obtain ⟨us,hf,hc⟩:=dm fe hs
 have:=xf fe
 subst this
 obtain ⟨cv,h1,h2⟩:=I.U4 cZ h hc.l hr
 obtain ⟨x,hx,h3⟩:=aQ h1
 refine ⟨x,h3,us,hf,?_⟩
 rw [← c6 hx]
 exact h2.arr
def Sc.jK:Sc→Bool | .dead=>true | _=>false
structure RdP (g:Gh) (st:St) (P:Nat→Prop) (s:Sv):Prop where
 ro:∀k,g.ro k→P k
 r:∀c∈s.cells,∀id∈c.names.2,aP st id→∀k,g.rf id k→P k
 b:(∀ c∈s.cells,c.names.1=[])∨((∀ b x,ax st.boxes b=some x→(∃ c∈x.cs,c.jK=false)→P (g.bx b))∧∀id,aP st id→∀k,g.rf id k→P k)
theorem iQ.mono {P Q:Nat→Prop} (xE:∀k,P k→Q k) {t:Ty} {x:El t} {off:Nat} {u:Value} (h:iQ w P t x off u):iQ w Q t x off u:=by
 obtain ⟨b,oo,cs,el,fz,h1,h2,h3,h4⟩:=h
 exact ⟨b,oo,cs,el,fz,h1,xE _ h2,h3,fun j c hj=>let ⟨z,hz,hc⟩:=h4 j c hj;⟨z,hz,hc.mono xE⟩⟩
theorem AY:∀ {cs:List Sc} {qs:List (Option Ty)} {k:List Cv→Option R} {r:R},CP st cs qs k=some r→∀c∈cs,c.jK=false
 | [],_,_,_,_,c,hc=>by simp at hc
 | c::cs,[],_,_,h,_,_=>by cases h
 | c::cs,q::qs,k,r,h,c',hc=>by
  simp only [Gm.CP] at h
  have:c.jK=false∧∃cv,CP st cs qs (fun xs=>k (cv::xs))=some r:=by
   unfold Gm.oU at h
   split at h
   ·exact ⟨rfl,_,h⟩
   ·exact ⟨rfl,_,h⟩
   ·exact ⟨rfl,_,h⟩
   ·exact ⟨rfl,_,h⟩
   ·obtain ⟨ro,_,h⟩:=da h
    obtain ⟨_,h⟩:=a8 h
    obtain ⟨s,_,h⟩:=aQ h
    exact ⟨rfl,_,h⟩
   ·obtain ⟨ro,_,_,h⟩:=de h
    obtain ⟨_,h⟩:=a8 h
    exact ⟨rfl,_,h⟩
   ·cases h
  obtain ⟨h1,cv,h2⟩:=this
  rcases List.mem_cons.1 hc with rfl | hc
  ·exact h1
  ·exact AY h2 c' hc
theorem Inv.Tw (I:Inv w0 Mf g st a w) {b:Nat} {x:Bx} (hb:ax st.boxes b=some x) {k:El x.t→Option R} {r:R} (h:(Gm.CP st x.cs (kinds x.t) fun cv=>(dec x.t cv).bind k)=some r) {P:Nat→Prop}
 (hP:(∀ b x,ax st.boxes b=some x→(∃ c∈x.cs,c.jK=false)→P (g.bx b))∧∀id,aP st id→∀k,g.rf id k→P k) (cZ:∀k,g.ro k→P k):
    ∃y,k y=some r∧iQ w P x.t y 0 (.pointer (some ⟨g.bx b,0,none⟩)):=by
 obtain ⟨us,el,h1,h2⟩:=I.boxes b x hb
 obtain ⟨cv,h3,h4⟩:=I.U4 cZ h h2.l (fun c _ id _=>hP.2 id)
 obtain ⟨y,hy,h5⟩:=aQ h3
 have pZ:=c6 hy
 subst pZ
 have xc:0<x.cs.length:=by
  have e1:=h4.len
  have e2:=h2.1
  rw [br] at e1
  have:=gK x.t
  simp at e1;omega
 refine ⟨y,h5,g.bx b,0,us,el,_,rfl,hP.1 b x hb ⟨x.cs[0],List.getElem_mem xc,?_⟩,h1,fun j c hj=> ?_⟩
 ·exact AY h _ (List.getElem_mem xc)
 ·obtain ⟨z,hz,hc⟩:=h4.get j c hj
  exact ⟨z,by simpa using hz,hc⟩
theorem Inv.my (I:Inv w0 Mf g st a w) {P:Nat→Prop} (hP:(∀ b x,ax st.boxes b=some x→(∃ c∈x.cs,c.jK=false)→P (g.bx b))∧∀id,aP st id→∀k,g.rf id k→P k) (cZ:∀k,g.ro k→P k):
    ∀ {bs:List Nat} {k:List (Σ t:Ty,El t)→Option R} {r:R},Gm.my st bs k=some r→∃ys,k ys=some r∧ys.length=bs.length∧
      ∀(i:Nat) (y:Σ t:Ty,El t) (b:Nat),ys[i]? =some y→bs[i]? =some b→iQ w P y.1 y.2 0 (.pointer (some ⟨g.bx b,0,none⟩))
 | [],k,r,h=>⟨[],h,rfl,fun i y b h=>by simp at h⟩
 | b::bs,k,r,h=>by
  obtain ⟨x,hx,h⟩:=aQ h
  obtain ⟨y,h,hy⟩:=I.Tw hx h hP cZ
  obtain ⟨ys,h1,h2,h3⟩:=I.my hP cZ h
  refine ⟨⟨x.t,y⟩::ys,h1,by simp [h2],fun i y' b' hi hb=> ?_⟩
  cases i with
  | zero=>simp only [List.getElem?_cons_zero,Option.some.injEq] at hi hb;subst hi;subst hb;exact hy
  | succ i=>exact h3 i y' b' (by simpa using hi) (by simpa using hb)
theorem Kl.nil {wl:World} {t:Ty} {u:Value} (h:u = .slice none 0 0):Kl wl t [] u:=Eu _ _ _ ⟨none,0,h⟩
theorem GO {c:Sc} {q:Option Ty} {cv:Cv} {u:Value} (h:rdK c q=some cv) (hc:aZ w g st c u):CKl g.n.wl cv u:=by
 unfold rdK at h
 split at h
 ·cases h;exact hc.2
 ·cases h;exact Kl.nil hc.2
 ·cases h;exact hc.2
 ·cases h
theorem tY {cs:List Sc} {qs:List (Option Ty)} {cv:List Cv} {us:Array Value} (h:AB cs qs=some cv) (hc:lV w g st cs us.toList):Es g.n.wl cv us:=by
 have key:∀ {cs:List Sc} {qs:List (Option Ty)} {cv:List Cv} {us:List Value},AB cs qs=some cv→lV w g st cs us→us.length=cv.length∧∀(j:Nat) c,cv[j]? =some c→∃z,us[j]? =some z∧CKl g.n.wl c z:=by
  intro cs
  induction cs with
  | nil=>
   intro qs cv us h hc
   cases qs with
   | cons _ _=>cases h
   | nil=>
    cases h
    cases us with
    | nil=>exact ⟨rfl,fun j c hj=>by simp at hj⟩
    | cons _ _=>exact hc.elim
  | cons c cs ih=>
   intro qs cv us h hc
   cases qs with
   | nil=>cases h
   | cons q qs=>
    simp only [AB] at h
    obtain ⟨x,hx,h⟩:=aQ h
    obtain ⟨xs,wy,h⟩:=aQ h
    cases h
    cases us with
    | nil=>exact hc.elim
    | cons u us=>
     obtain ⟨h1,h2⟩:=ih wy hc.2
     refine ⟨by simp [h1],fun j c' hj=> ?_⟩
     cases j with
     | zero=>simp only [List.getElem?_cons_zero,Option.some.injEq] at hj;subst hj;exact ⟨u,rfl,GO hx hc.1⟩
     | succ j=>simpa using h2 j c' (by simpa using hj)
 obtain ⟨h1,h2⟩:=key h hc
 exact ⟨by simpa using h1,fun j c hj=>by simpa using h2 j c hj⟩
theorem Kl.flat {wl:World} {t:Ty} {xs:List (El t)} {u:Value} (h:Kl wl t xs u):cR u=true:=by
 obtain ⟨av,h0,fw⟩:=h
 obtain ⟨ad,cap,e,_⟩:=fw [] _ rfl
 rw [h0] at e;subst e;rfl
theorem tZ {AI:List Cv} {us:Array Value} (h:Es g.n.wl AI us) (hf:∀x,.v x∈AI→cR x=true):cH w g st (Gw AI) us:=by
 refine ⟨by simpa [Gw] using h.1,fun j c hj=> ?_⟩
 simp only [Gw,List.getElem?_map] at hj
 cases hc:AI[j]? with
 | none=>simp [hc] at hj
 | some cv=>
  simp only [hc,Option.map_some,Option.some.injEq] at hj
  obtain ⟨z,hz,hk⟩:=h.2 j cv hc
  refine ⟨z,hz,?_⟩
  cases cv with
  | v x=>
   subst hj
   have hk:z=x:=hk
   subst hk
   exact ⟨hf z (List.mem_of_getElem? hc),rfl⟩
  | l t xs=>
   subst hj
   exact ⟨Kl.flat hk,hk⟩
theorem Inv.U5 (I:Inv w0 Mf g st a w) {m:Am} (hm:m.reads=true) {T:Nat} {s:Sv} {u:Value} (hs:dD w g st s u) {k:Dt→List Bk→St→Dl→Option R} {r:R} (h:fF E m T s st k=some r)
    {P:Nat→Prop} (hP:RdP g st P s):∃d,k d [] st {}=some r∧∀F,tF g.n.wl w P m d u F:=by
 cases m with
 | ro=>
  obtain ⟨t,ht,h⟩:=aQ h
  obtain ⟨x,h,hx⟩:=I.P3 h hs hP.ro hP.r
  exact ⟨_,h,fun _=>hx⟩
 | CA=>
  simp only [fF] at h
  split at h
  ·rename_i b
   obtain ⟨x,hx,h⟩:=aQ h
   have hb:=hP.b.resolve_left fun hn=>by simpa [Sv.cells,Cm.cells,Sc.names] using hn (.pt b 0) (by simp [Sv.cells,Cm.cells])
   obtain ⟨y,h,hy⟩:=I.Tw hx h hb hP.ro
   have hu:u = .pointer (some ⟨g.bx b,0,none⟩):=hs.2.1
   subst hu
   exact ⟨_,h,fun _=>hy⟩
  ·rename_i t x
   exact ⟨_,h,fun _=>iQ.mono hP.ro hs.2⟩
  ·cases h
 | fn=>
  simp only [fF] at h
  split at h
  ·rename_i f bs
   obtain ⟨hu,Tg⟩:=hs.2
   by_cases hbn:bs=[]
   ·subst hbn
    exact ⟨_,h,fun _=>⟨[],by rw [hu];rfl,rfl,fun i y q h=>by simp at h⟩⟩
   ·have hb:=hP.b.resolve_left fun hn=>by
     have:=hn (.fH f bs) (by simp [Sv.cells,Cm.cells])
     exact hbn this
    obtain ⟨ys,h,hl,hy⟩:=I.my hb hP.ro h
    refine ⟨_,h,fun _=>⟨bs.map fun b=> .pointer (some ⟨g.bx b,0,none⟩),hu,by simp [hl],fun i y q hi hq=> ?_⟩⟩
    rw [List.getElem?_map] at hq
    cases hbi:bs[i]? with
    | none=>simp [hbi] at hq
    | some b=>
     simp only [hbi,Option.map_some,Option.some.injEq] at hq
     subst hq
     exact hy i y b hi hbi
  ·rename_i f ys
   obtain ⟨ps,h1,h2,h3⟩:=hs.2
   exact ⟨_,h,fun _=>⟨ps,h1,h2,fun i y q hy hq=>iQ.mono hP.ro (h3 i y q hy hq)⟩⟩
  ·cases h
 | PB=>
  simp only [fF] at h
  split at h
  ·rename_i c
   exact ⟨_,h,fun _=>hs.1⟩
  ·cases h
 | kp=>
  obtain ⟨t,ht,h⟩:=aQ h
  obtain ⟨cs,fe,h⟩:=aQ h
  obtain ⟨us,hf,hc⟩:=dm fe hs
  obtain ⟨cv,pZ,h⟩:=aQ h
  obtain ⟨x,hx,h⟩:=aQ h
  have hr:=tY pZ hc.l
  refine ⟨_,h,fun _=>⟨us,hf,?_⟩⟩
  rw [← c6 hx]
  exact hr
 | «mut» =>cases hm
 | CO=>cases hm
 | bj=>cases hm
theorem dG {α:Type}:∀(L:List (Nat×α)) (l:List (Nat×α)) (n:Nat),ax (cg l L) n=(ax (cg [] L) n).or (ax l n)
  | [],l,n=>by simp [cg,ax]
  | (m,v)::L,l,n=>by
    simp only [cg]
    rw [dG L (aX l m v) n,dG L (aX [] m v) n]
    cases h:ax (cg [] L) n with
    | some x=>simp
    | none=>
      simp only [Option.none_or,aF]
      by_cases e:n=m
      · simp [e]
      · simp [e,ax]
def nd (st:St) (b:Nat):Prop:=∃x,ax st.boxes b=some x∧∃c∈x.cs,c.jK=false
theorem nd.at {b:Nat} (h:nd st b):bA st b:=by obtain ⟨x,hx,_⟩:=h;simp [bA,hx]
structure zh (g:Gh) (w:World) (st bt:St) (bs:List Bk) (d:Dl) (H:Nat→Prop):Prop where
 own:∀id,aP bt id→aP st id
 live:∀id r,ax bt.roots id=some (.live r)→ax st.roots id=some (.live r)
 dj:∀id r,ax st.roots id=some (.dj r)→ax bt.roots id=some (.dj r)
 map:∀c u,aZ w g st c u→aZ w g bt c u
 box:∀b,bA bt b↔bA st b
 nd:∀b,nd bt b→nd st b
 src:∀k,H k→(∃ id,aP st id∧g.rf id k)∨(∃ b,Gm.nd st b∧ ¬Gm.nd bt b∧ .box b∈bs∧g.bx b=k)
 off:∀k,H k→∀id,aP bt id→ ¬g.rf id k
 roots:∀id,(∀ r p,.root id r p ∉ bs)→ax bt.roots id=ax (cg st.roots d.roots) id
 boxes:∀b,ax bt.boxes b=ax (cg st.boxes d.boxes) b
 aA:bt.aA=st.aA
 ly:d.slot=none
 xg:∀id r p,.root id r p∈bs→aP st id∧ ¬aP bt id
 sX:∀b,.box b∈bs→Gm.nd st b∧ ¬Gm.nd bt b
theorem zh.refl:zh g w st st [] {} (fun _=>False):=
 ⟨fun _ h=>h,fun _ _ h=>h,fun _ _ h=>h,fun _ _ h=>h,fun _=> .rfl,fun _ h=>h,fun _ h=>h.elim,fun _ h=>h.elim,fun _ _=>rfl,fun _=>rfl,rfl,rfl,fun _ _ _ h=>by simp at h,fun _ h=>by simp at h⟩
theorem zh.trans {s1 s2 s3:St} {bs cs:List Bk} {d e:Dl} {H G:Nat→Prop} (h:zh g w s1 s2 bs d H) (k:zh g w s2 s3 cs e G):zh g w s1 s3 (bs++cs) { boxes:=d.boxes++e.boxes,roots:=d.roots++e.roots } (fun n=>H n∨G n):={
 own:=fun id hi=>h.own id (k.own id hi)
 live:=fun id r hr=>h.live id r (k.live id r hr)
 dj:=fun id r hr=>k.dj id r (h.dj id r hr)
 map:=fun c u hc=>k.map c u (h.map c u hc)
 box:=fun b=>(k.box b).trans (h.box b)
 nd:=fun b hb=>h.nd b (k.nd b hb)
 src:=fun n hn=>by
  rcases hn with hn | hn
  ·rcases h.src n hn with h1 | ⟨b,h1,h2,h3,h4⟩
   ·exact .inl h1
   ·exact .inr ⟨b,h1,fun h=>h2 (k.nd b h),List.mem_append_left _ h3,h4⟩
  ·rcases k.src n hn with ⟨id,h1,h2⟩ | ⟨b,h1,h2,h3,h4⟩
   ·exact .inl ⟨id,h.own id h1,h2⟩
   ·exact .inr ⟨b,h.nd b h1,h2,List.mem_append_right _ h3,h4⟩
 off:=fun n hn id hi=>hn.elim (fun hn=>h.off n hn id (k.own id hi)) fun hn=>k.off n hn id hi
 roots:=fun id hid=>by
  rw [k.roots id fun r p hm=>hid r p (List.mem_append_right _ hm),dG,h.roots id fun r p hm=>hid r p (List.mem_append_left _ hm)]
  simp only [bc]
  exact (dG e.roots _ id).symm
 boxes:=fun b=>by
  rw [k.boxes b,dG,h.boxes b]
  simp only [bc]
  exact (dG e.boxes _ b).symm
 aA:=k.aA.trans h.aA
 ly:=rfl
 xg:=fun id r p hm=>by
  rcases List.mem_append.1 hm with hm | hm
  ·exact ⟨(h.xg id r p hm).1,fun h2=>(h.xg id r p hm).2 (k.own id h2)⟩
  ·exact ⟨h.own id (k.xg id r p hm).1,(k.xg id r p hm).2⟩
 sX:=fun b hm=>by
  rcases List.mem_append.1 hm with hm | hm
  ·exact ⟨(h.sX b hm).1,fun h2=>(h.sX b hm).2 (k.nd b h2)⟩
  ·exact ⟨h.nd b (k.sX b hm).1,(k.sX b hm).2⟩ }
theorem jW.lnd {bt:St} {eX:List (Nat×Rt)} {Fs:List (Nat→Prop)} (T:jW w g st bt eX Fs):zh g w st bt [] { roots:=eX } (Any Fs):={
 own:=T.own
 live:=T.live
 dj:=T.dj
 map:=T.map
 box:=fun b=>by rw [T.eq];exact .rfl
 nd:=fun b h=>by rw [T.eq] at h;exact h
 src:=fun k ⟨F,hF,hk⟩=> .inl (T.src F hF k hk)
 off:=fun k ⟨F,hF,hk⟩=>T.off F hF k hk
 roots:=fun id _=>by rw [T.eq]
 boxes:=fun b=>by rw [T.eq];rfl
 aA:=by rw [T.eq]
 ly:=rfl
 xg:=fun _ _ _ h=>by simp at h
 sX:=fun _ h=>by simp at h }
def fG (w:World) (g:Gh) (bt:St) (m:Am) (u:Value) (F:Nat→Prop) (bk:List Bk) (H:Nat→Prop):Prop:=
  match m with
 | .mut=>∃id r p s,bk=[.root id r p]∧ax bt.roots id=some (.dj r)∧r.md = .deep∧bo w (g.rf id) r.t r.xs (g.rv id)∧aR r.t r.xs p=some s∧u=g.rv id p∧(∀ k,F k↔gF r.t r.xs (g.rv id) p k)∧H=g.rf id
 | .bj=>∃b,bk=[.box b]∧ ¬nd bt b∧bA bt b∧u = .pointer (some ⟨g.bx b,0,none⟩)∧H=F∧F (g.bx b)
 | _=>bk=[]∧H=F
theorem fG.aJ {bt pJ:St} (hl:∀id r,ax bt.roots id=some (.dj r)→ax pJ.roots id=some (.dj r)) (hn:∀b,nd pJ b→nd bt b) (hb:∀b,bA bt b→bA pJ b) {m:Am} {u:Value} {F:Nat→Prop} {bk:List Bk} {H:Nat→Prop}
 (h:fG w g bt m u F bk H):fG w g pJ m u F bk H:=by
 cases m with
 | «mut» =>obtain ⟨id,r,p,s,h1,h2,h3⟩:=h;exact ⟨id,r,p,s,h1,hl _ _ h2,h3⟩
 | bj=>obtain ⟨b,h1,h2,h3,h4⟩:=h;exact ⟨b,h1,fun h=>h2 (hn b h),hb b h3,h4⟩
 | _=>exact h
theorem Inv.P4 (I:Inv w0 Mf g st a w) {T:Nat} {s:Sv} {u:Value} (hs:dD w g st s u) {k:Dt→List Bk→St→Dl→Option R} {r:R} (h:fF E .CO T s st k=some r):
    ∃d bk bt δ F H,k d bk bt δ=some r∧Inv w0 Mf g bt a w∧(∀ P,tF g.n.wl w P .CO d u F)∧fG w g bt .CO u F bk H∧zh g w st bt bk δ H:=by
 obtain ⟨t,ht,h⟩:=aQ h
 obtain ⟨x,us,d,bt,eX,Gs,h,hf,I1,T,hA⟩:=I.xB h hs
 obtain ⟨hd,h⟩:=a8 h
 exact ⟨_,_,_,_,Any Gs,Any Gs,h,I1,fun P=>⟨us,hf,by simpa using hA.row hd T.apart⟩,⟨rfl,rfl⟩,T.lnd⟩
theorem P5 {id:Nat} {ro:cB} (h:ax st.roots id=some (.live ro)):∀c u,aZ w g st c u→aZ w g { st with roots:=aX st.roots id (.dj ro) } c u:=by
 have hv:∀aH ver iv,cJ st aH ver iv→cJ { st with roots:=aX st.roots id (.dj ro) } aH ver iv:=by
  intro aH ver iv hv
  by_cases hid:aH=id
  ·subst hid
   rw [kh (.inr (bd _ _ _))]
   exact (kh (.inl h)).1 hv
  ·unfold cJ at hv ⊢
   simp only [bX _ _ hid];exact hv
 have hx:∀aH ver iv p r',Vx { st with roots:=aX st.roots id (.dj ro) } aH ver iv p r'→Vx st aH ver iv p r':=by
  intro aH ver iv p r' ⟨h1,h2,h3⟩
  simp only [aF] at h1
  by_cases hid:aH=id
  ·subst hid
   simp only [if_true,Option.some.injEq,reduceCtorEq,Rt.dj.injEq,false_or] at h1
   subst h1;exact ⟨.inl h,h2,h3⟩
  ·simp only [hid,if_false] at h1;exact ⟨h1,h2,h3⟩
 exact fun c u hc=>⟨hc.1,lQ.roots (st:=st) (fun b hb=>hb) hv (fun _ _ _ _ _ _ h=>hx _ _ _ _ _ h) hc.2⟩
theorem Inv.P6 (I:Inv w0 Mf g st a w) {T:Nat} {s:Sv} {u:Value} (hs:dD w g st s u) {k:Dt→List Bk→St→Dl→Option R} {r:R} (h:fF E .mut T s st k=some r):
    ∃d bk bt δ F H,k d bk bt δ=some r∧Inv w0 Mf g bt a w∧(∀ P,tF g.n.wl w P .mut d u F)∧fG w g bt .mut u F bk H∧zh g w st bt bk δ H:=by
 simp only [fF] at h
 split at h
 case h_2=>cases h
 rename_i id ver iv p
 obtain ⟨ro,cZ,h⟩:=da h
 obtain ⟨xK,h⟩:=a8 h
 obtain ⟨s1,o8,h⟩:=aQ h
 obtain ⟨hu,ke⟩:=hs.2.2 ro cZ.x
 obtain ⟨s',fv⟩:=Option.isSome_iff_exists.1 ke
 have:=cX fv
 rw [o8] at this;cases this
 have cI:ro.md = .deep:=by cases hq:ro.md<;>simp_all [Md.bK]
 have pI:bo w (g.rf id) ro.t ro.xs (g.rv id):=by have:=I.roots id ro cZ.1;unfold aS at this;rw [cI] at this;exact this
 have cU:aP st id:=⟨ro,cZ.1,by rw [cI];rfl⟩
 have I1:=I.acn cZ.1
 have ho:∀aH,aP { st with roots:=aX st.roots id (.dj ro) } aH→aH≠id∧aP st aH:=fun aH ⟨r',h1,h2⟩=>by
  simp only [aF] at h1
  by_cases hid:aH=id
  ·simp [hid] at h1
  ·exact ⟨hid,r',by simpa [hid] using h1,h2⟩
 refine ⟨_,_,_,_,gF ro.t ro.xs (g.rv id) p,g.rf id,h,I1,fun P=>⟨s1.t,s1.xs,rfl,fun q=>g.rv id (p++q),by simpa using hu.symm,pI.at fv⟩,
  ⟨id,ro,p,s1,rfl,bd _ _ _,cI,pI,fv,hu,fun _=> .rfl,rfl⟩,?_⟩
 exact {
  own:=fun aH h=>(ho aH h).2
  live:=fun aH r' h=>by
   simp only [aF] at h
   by_cases hid:aH=id
   ·simp [hid] at h
   ·simpa [hid] using h
  dj:=fun aH r' IX=>by
   simp only [aF]
   by_cases hid:aH=id
   ·rw [hid,cZ.1] at IX;cases IX
   ·simpa [hid] using IX
  map:=P5 cZ.1
  box:=fun _=> .rfl
  nd:=fun _ h=>h
  src:=fun k hk=> .inl ⟨id,cU,hk⟩
  off:=fun k hk aH h h3=>(ho aH h).1 (I.apart.rr aH id k (ho aH h).2 cU h3 hk)
  roots:=fun aH hid=>by
   have:aH≠id:=fun e=>hid ro p (by rw [e];simp)
   simp only [cg]
   rw [bX _ _ this]
  boxes:=fun _=>rfl
  aA:=rfl
  ly:=rfl
  xg:=fun aH r' p' hm=>by
   simp only [List.mem_singleton,Bk.root.injEq] at hm
   rw [hm.1]
   exact ⟨cU,fun h=>(ho id h).1 rfl⟩
  sX:=fun _ h=>by simp at h }
theorem xN:∀ {cs:List Sc} {st:St} {qs:List (Option Ty)} {k:List Cv→Bool→St→List (Nat×Rt)→Option R} {r:R},pE st cs qs k=some r→∀c∈cs,c.jK=false
 | [],_,_,_,_,_,c,hc=>by simp at hc
 | c::cs,_,[],_,_,h,_,_=>by cases h
 | c::cs,st,q::qs,k,r,h,c',hc=>by
  simp only [Gm.pE] at h
  have:c.jK=false∧∃aE d cv u,pE aE cs qs (fun xs d' acA u'=>k (cv::xs) (d&&d') acA (u++u'))=some r:=by
   unfold Gm.jO at h
   split at h
   ·exact ⟨rfl,_,_,_,_,h⟩
   ·exact ⟨rfl,_,_,_,_,h⟩
   ·exact ⟨rfl,_,_,_,_,h⟩
   ·exact ⟨rfl,_,_,_,_,h⟩
   ·obtain ⟨ro,_,_,h⟩:=de h
    obtain ⟨_,h⟩:=a8 h
    cases hf:ro.md.cr
    ·simp only [hf,cond_false] at h;exact ⟨rfl,_,_,_,_,h⟩
    ·simp only [hf,cond_true] at h;exact ⟨rfl,_,_,_,_,h⟩
   ·obtain ⟨ro,_,_,h⟩:=de h
    obtain ⟨_,h⟩:=a8 h
    cases hf:ro.md.cr
    ·simp only [hf,cond_false] at h;exact ⟨rfl,_,_,_,_,h⟩
    ·simp only [hf,cond_true] at h;exact ⟨rfl,_,_,_,_,h⟩
   ·cases h
  obtain ⟨h1,_,_,_,_,h2⟩:=this
  rcases List.mem_cons.1 hc with rfl | hc
  ·exact h1
  ·exact xN h2 c' hc
theorem xO:∀ {cs:List Sc} {qs:List (Option Ty)} {cv:List Cv},AB cs qs=some cv→∀c∈cs,c.jK=false
 | [],_,_,_,c,hc=>by simp at hc
 | _::_,[],_,h,_,_=>by cases h
 | c::cs,q::qs,cv,h,c',hc=>by
  simp only [AB] at h
  obtain ⟨x,hx,h⟩:=aQ h
  obtain ⟨xs,wy,h⟩:=aQ h
  rcases List.mem_cons.1 hc with rfl | hc
  ·cases c'<;>first | rfl | (cases q<;>cases hx)
  ·exact xO wy c' hc
theorem lu.mono {F G:Nat→Prop} (hFG:∀k,F k→G k) {cs:List Cv} {us:Array Value} (h:lu w F cs us):lu w G cs us:=by
 obtain ⟨Fs,h1,h2,h3,h4⟩:=h
 exact ⟨Fs,fun j k hk=>hFG k (h1 j k hk),h2,h3,h4⟩
theorem Inv.IY (I:Inv w0 Mf g st a w) {T:Nat} {s:Sv} {u:Value} (hs:dD w g st s u) {k:Dt→List Bk→St→Dl→Option R} {r:R} (h:fF E .bj T s st k=some r):
    ∃d bk bt δ F H,k d bk bt δ=some r∧Inv w0 Mf g bt a w∧(∀ P,tF g.n.wl w P .bj d u F)∧fG w g bt .bj u F bk H∧zh g w st bt bk δ H:=by
 simp only [fF] at h
 split at h
 case h_2=>cases h
 rename_i b
 obtain ⟨x,hx,h⟩:=aQ h
 obtain ⟨us,el,hb,fe⟩:=I.boxes b x hx
 have core:∃cv bt eX Gs y,k (.d x.t y) [.box b] { bt with boxes:=aX bt.boxes b ⟨x.t,x.cs.map fun _=> .dead⟩ } { boxes:=[(b,⟨x.t,x.cs.map fun _=> .dead⟩)],roots:=eX }=some r∧Inv w0 Mf g bt a w∧jW w g st bt eX Gs∧cv=enc x.t y∧
   us.size=cv.length∧tD g.n.wl (shr x.t) w (Any Gs) cv us∧∀c∈x.cs,c.jK=false:=by
  unfold PC at h
  cases mD:shr x.t
  ·rw [mD] at h
   simp only [cond_false] at h
   have h0:=h
   obtain ⟨cv,d,bt,eX,Gs,h,I1,T,hA⟩:=I.pE h fe.l
   obtain ⟨hd,h⟩:=a8 h
   obtain ⟨y,hy,zi⟩:=aQ h
   have fy:=hA.row hd T.apart
   rw [Array.toArray_toList] at fy
   have:=hA.len.1
   exact ⟨cv,bt,eX,Gs,y,zi,I1,T,(c6 hy),by simpa using this,fy,xN h0⟩
  ·rw [mD] at h
   simp only [cond_true] at h
   obtain ⟨cv,pZ,h⟩:=aQ h
   obtain ⟨y,hy,zi⟩:=aQ h
   have hr:=tY pZ fe.l
   exact ⟨cv,st,[],[],y,zi,I,jW.refl _ _ _,(c6 hy),hr.1,hr,xO pZ⟩
 clear h
 obtain ⟨cv,bt,eX,Gs,y,zi,I1,T,pZ,YM,fy,hlv⟩:=core
 subst pZ
 have hu:u = .pointer (some ⟨g.bx b,0,none⟩):=hs.2.1
 have cU:bA st b:=by simp [bA,hx]
 have U6:bA bt b:=by rw [T.eq];exact cU
 have r8:us.size=x.cs.length:=fe.1
 have cq:bH (fun k=>k=g.bx b) w w:=⟨Nat.le_refl _,fun _ _ _=>rfl⟩
 have EM:cH w g bt (x.cs.map fun _=>Sc.dead) us:=⟨by simpa using r8,fun j c hj=>by
  rw [List.getElem?_map] at hj
  cases hc:x.cs[j]? with
  | none=>simp [hc] at hj
  | some c0=>
   simp only [hc,Option.map_some,Option.some.injEq] at hj
   subst hj
   obtain ⟨z,hz,hr⟩:=fe.2 j c0 hc
   exact ⟨z,hz,hr.1,trivial⟩⟩
 have I2:=I1.qf (t:=x.t) U6 cq I1.kept hb EM
 have hlen:0<x.cs.length:=by
  rw [br] at YM
  have:=gK x.t
  omega
 have EI:∀k,Any Gs k→k≠g.bx b:=fun k ⟨F,hF,hk⟩ e=>by
  obtain ⟨id,h1,h2⟩:=T.src F hF k hk
  exact I.apart.rb id b h1 cU (e▸h2)
 have GB : ¬nd { bt with boxes:=aX bt.boxes b ⟨x.t,x.cs.map fun _=> .dead⟩ } b:=by
  rintro ⟨x',o6,c,hc,hcd⟩
  simp only [bd,Option.some.injEq] at o6
  subst o6
  simp only [List.mem_map] at hc
  obtain ⟨_,_,rfl⟩:=hc
  cases hcd
 have oX:∀b',bA { bt with boxes:=aX bt.boxes b ⟨x.t,x.cs.map fun _=> .dead⟩ } b'↔bA st b':=fun b'=>by
  have e:bt.boxes=st.boxes:=by rw [T.eq]
  simp only [bA,aF,e]
  by_cases P7:b'=b
  ·subst P7;simpa [bA] using cU
  ·simp [P7]
 have L:=T.lnd
 refine ⟨_,_,_,_,fun k=>k=g.bx b∨Any Gs k,fun k=>k=g.bx b∨Any Gs k,zi,I2,fun P=>⟨g.bx b,us,el,hu,.inl rfl,hb,?_⟩,⟨b,rfl,GB,(oX b).2 cU,hu,rfl,.inl rfl⟩,?_⟩
 ·revert fy
  cases shr x.t
  ·exact fun fy=>lu.mono (fun k hk=>⟨.inr hk,EI k hk⟩) fy
  ·exact fun fy=>fy
 ·exact {
   own:=T.own
   live:=T.live
   dj:=T.dj
   map:=fun c u hc=>by
    have:=T.map c u hc
    exact ⟨this.1,lQ.roots (st:=bt) (fun b' gB=>by
     simp only [aF];split
     ·rfl
     ·exact gB) (fun _ _ _ h=>h) (fun _ _ _ _ _ _ h=>h) this.2⟩
   box:=oX
   nd:=fun b' gB=>by
    by_cases e:b'=b
    ·subst e;exact (GB gB).elim
    ·obtain ⟨x',o6,hh⟩:=gB
     simp only [aF,e,if_false] at o6
     rw [T.eq] at o6
     exact ⟨x',o6,hh⟩
   src:=fun k hk=>by
    rcases hk with rfl | hk
    ·exact .inr ⟨b,⟨x,hx,x.cs[0],List.getElem_mem hlen,hlv _ (List.getElem_mem hlen)⟩,GB,by simp,rfl⟩
    ·rcases L.src k hk with h1 | ⟨_,_,_,h3,_⟩
     ·exact .inl h1
     ·simp at h3
   off:=fun k hk id hi h3=>by
    rcases hk with rfl | hk
    ·exact I.apart.rb id b (T.own id hi) cU h3
    ·exact L.off k hk id hi h3
   roots:=fun id _=>by simp only;rw [T.eq]
   boxes:=fun b'=>by simp only [cg];rw [T.eq]
   aA:=by simp only;rw [T.eq]
   ly:=rfl
   xg:=fun _ _ _ h=>by simp at h
   sX:=fun b' hm=>by
    simp only [List.mem_singleton,Bk.box.injEq] at hm
    subst hm
    exact ⟨⟨x,hx,x.cs[0],List.getElem_mem hlen,hlv _ (List.getElem_mem hlen)⟩,GB⟩ }
inductive lz (w:World) (g:Gh) (bt:St):List Am→List Value→List (Nat→Prop)→List Bk→List (Nat→Prop)→Prop where
 | nil:lz w g bt [] [] [] [] []
 | cons {m ms u us F Fs b bs H Hs} (h:fG w g bt m u F b H) (hs:lz w g bt ms us Fs bs Hs):lz w g bt (m::ms) (u::us) (F::Fs) (b++bs) (H::Hs)
theorem lz.aJ {bt pJ:St} (hl:∀id r,ax bt.roots id=some (.dj r)→ax pJ.roots id=some (.dj r)) (hn:∀b,nd pJ b→nd bt b) (hb:∀b,bA bt b→bA pJ b) {ms:List Am} {us:List Value} {Fs:List (Nat→Prop)} {bs:List Bk}
    {Hs:List (Nat→Prop)} (h:lz w g bt ms us Fs bs Hs):lz w g pJ ms us Fs bs Hs:=by
 induction h with
 | nil=>exact .nil
 | cons h hs ih=>exact .cons (h.aJ hl hn hb) ih
theorem fG.sub {bt:St} {m:Am} {u:Value} {F:Nat→Prop} {bk:List Bk} {H:Nat→Prop} (h:fG w g bt m u F bk H):∀k,F k→H k:=by
 intro k hk
 cases m with
 | «mut» =>obtain ⟨id,r,p,s,h1,h2,h3,h4,h5,h6,h7,rfl⟩:=h;exact h4.tf ((h7 k).1 hk)
 | bj=>obtain ⟨b,h1,h2,h3,h4,rfl,_⟩:=h;exact hk
 | _=>obtain ⟨_,rfl⟩:=h;exact hk
def Bk.key:Bk→Bool×Nat | .root id _ _=>(true,id) | .box b=>(false,b)
def ArgRel (w:World) (g:Gh) (st:St):List (Am×Nat×Sv)→List Value→Prop
  | [],[]=>True
  | (_,_,s)::l,u::us=>dD w g st s u∧ArgRel w g st l us
  | _,_=>False
theorem ArgRel.map {bt:St} (hm:∀c u,aZ w g st c u→aZ w g bt c u):∀ {l:List (Am×Nat×Sv)} {us:List Value},ArgRel w g st l us→ArgRel w g bt l us
  | [],[],_=>trivial
  | [],_::_,h=>h.elim
  | _::_,[],h=>h.elim
  | (_,_,_)::_,_::_,h=>⟨h.1.map hm,ArgRel.map hm h.2⟩
theorem Inv.dx:∀ {l:List (Am×Nat×Sv)} {us:List Value} {st:St} {k:List Dt→List Bk→St→Dl→Option R} {r:R},Inv w0 Mf g st a w→ArgRel w g st l us→dx E l st k=some r→
    ∃bt,Inv w0 Mf g bt a w∧∀Pr,(∀ x∈l,x.1.reads=true→RdP g bt Pr x.2.2)→∃ds bs d Fs Hs,k ds bs bt d=some r∧cS g.n.wl w Pr (l.map (·.1)) ds us Fs∧lz w g bt (l.map (·.1)) us Fs bs Hs∧zh g w st bt bs d (Any Hs)∧bR Hs∧bs.Pairwise fun b c=>b.key≠c.key
  | [],us,st,k,r,I,hu,h=>by
    cases us with
    | cons u us=>exact hu.elim
    | nil=>
      refine ⟨st,I,fun Pr _=>⟨[],[],{},[],[],h,.nil,.nil,?_,List.Pairwise.nil,List.Pairwise.nil⟩⟩
      have:(fun _=>False:Nat→Prop)=Any []:=by funext k;exact propext ⟨fun h=>h.elim,PS⟩
      rw [← this];exact zh.refl
  | (m,T,s)::l,us,st,k,r,I,hu,h=>by
    cases us with
    | nil=>exact hu.elim
    | cons u us=>
      simp only [Gm.dx] at h
      split at h
      · rename_i hm
        obtain ⟨bt,I1,hh⟩:=Inv.dx I hu.2 h
        refine ⟨bt,I1,fun Pr hP=> ?_⟩
        obtain ⟨ds,bs,d,Fs,Hs,h1,h2,h3,h4,h5,sY⟩:=hh Pr fun x hx=>hP x (by simp [hx])
        obtain ⟨x,h6,h7⟩:=I1.U5 hm (hu.1.map h4.map) h1 (hP (m,T,s) (by simp) hm)
        have AZ:fG w g bt m u (fun _=>False) [] (fun _=>False):=by cases m<;>first | exact ⟨rfl,rfl⟩ | cases hm
        refine ⟨_,bs,d,(fun _=>False)::Fs,(fun _=>False)::Hs,h6,.cons (h7 _) h2,by simpa using lz.cons AZ h3,?_,List.pairwise_cons.2 ⟨fun _ _ _ h=>h.elim,h5⟩,sY⟩
        have:Any ((fun _=>False)::Hs)=Any Hs:=by
          funext k
          refine propext ⟨fun ⟨F,hF,hk⟩=> ?_,fun ⟨F,hF,hk⟩=>⟨F,List.mem_cons_of_mem _ hF,hk⟩⟩
          rcases List.mem_cons.1 hF with rfl | hF
          · exact hk.elim
          · exact ⟨F,hF,hk⟩
        rw [this];exact h4
      · rename_i hm
        have key:∃d bk bt δ F H,(Gm.dx E l bt fun xs bs pJ d'=>k (d::xs) (bk++bs) pJ { boxes:=δ.boxes++d'.boxes,roots:=δ.roots++d'.roots })=some r∧Inv w0 Mf g bt a w∧(∀ P,tF g.n.wl w P m d u F)∧fG w g bt m u F bk H∧zh g w st bt bk δ H:=by
          cases m with
          | CO=>exact I.P4 hu.1 h
          | «mut» =>exact I.P6 hu.1 h
          | bj=>exact I.IY hu.1 h
          | ro=>cases hm
          | CA=>cases hm
          | fn=>cases hm
          | PB=>cases hm
          | kp=>cases hm
        obtain ⟨x,bk,s1,δ,F,H,h1,I1,hA,hH,L1⟩:=key
        obtain ⟨bt,I2,hh⟩:=Inv.dx I1 (hu.2.map L1.map) h1
        refine ⟨bt,I2,fun Pr hP=> ?_⟩
        obtain ⟨ds,bs,d,Fs,Hs,h2,h3,h4,h5,h6,sY⟩:=hh Pr fun x hx=>hP x (by simp [hx])
        refine ⟨_,_,_,F::Fs,H::Hs,h2,.cons (hA _) h3,.cons (hH.aJ h5.dj h5.nd fun b hb=>(h5.box b).2 hb) h4,?_,List.pairwise_cons.2 ⟨fun G hG n h7 h8=> ?_,h6⟩,List.pairwise_append.2 ⟨?_,sY,fun b hb c hc=> ?_⟩⟩
        · have:Any (H::Hs)=fun n=>H n∨Any Hs n:=by
            funext n
            refine propext ⟨fun ⟨F,hF,hk⟩=> ?_,fun h=> ?_⟩
            · rcases List.mem_cons.1 hF with rfl | hF
              · exact .inl hk
              · exact .inr ⟨F,hF,hk⟩
            · rcases h with h | ⟨F,hF,hk⟩
              · exact ⟨H,by simp,h⟩
              · exact ⟨F,by simp [hF],hk⟩
          rw [this];exact L1.trans h5
        · rcases h5.src n ⟨G,hG,h8⟩ with ⟨id,h9,Il⟩ | ⟨b,h9,_,_,Il⟩
          · exact L1.off n h7 id h9 Il
          · have hb:=(L1.nd b h9).at
            rcases L1.src n h7 with ⟨id,IZ,h12⟩ | ⟨b',IZ,h12,_,h13⟩
            · exact I.apart.rb id b IZ hb (Il▸h12)
            · have:=I.apart.bb b b' hb IZ.at (by rw [Il,h13])
              subst this
              exact h12 h9
        · cases m with
          | «mut» =>obtain ⟨id,r,p,s,rfl,_⟩:=hH;exact List.pairwise_singleton _ _
          | bj=>obtain ⟨b,rfl,_⟩:=hH;exact List.pairwise_singleton _ _
          | _=>obtain ⟨rfl,_⟩:=hH;exact List.Pairwise.nil
        · cases b<;>cases c<;>simp only [Bk.key,ne_eq,Prod.mk.injEq,Bool.true_eq_false,Bool.false_eq_true,false_and,not_false_eq_true,true_and]
          · rename_i id r p aH r' p'
            intro e;subst e
            exact (L1.xg _ _ _ hb).2 (h5.xg _ _ _ hc).1
          · rename_i b b'
            intro e;subst e
            exact (L1.sX _ hb).2 (h5.sX _ hc).1
theorem C7 {id:Nat} {t:Ty} {md:Md} {xs:List (El t)} {k:cB→Option R} {r:R} (h:mkRoot st id t md xs k=some r):
    ∃ver,dv st id ⟨t,md,ver,[],xs⟩∧k ⟨t,md,ver,[],xs⟩=some r∧∀ro,ax st.roots id≠some (.live ro)∧ax st.roots id≠some (.dj ro):=by
 unfold mkRoot at h
 split at h
 ·rename_i hn;exact ⟨0,by unfold dv;rw [hn];trivial,h,fun ro=>by rw [hn];simp⟩
 ·rename_i v hn;exact ⟨v+1,by unfold dv;rw [hn];simp,h,fun ro=>by rw [hn];simp⟩
 ·cases h
def C8 (w:World):List Cv→List Value→List (Nat→Prop)→Prop
 | [],[],[]=>True
 | c::cs,u::us,F::Fs=>iO w F c u∧C8 w cs us Fs
 | _,_,_=>False
theorem C8.of:∀ {cs:List Cv} {us:List Value} {Fs:Nat→Nat→Prop},us.length=cs.length→(∀ (j:Nat) c,cs[j]? =some c→∃z,us[j]? =some z∧iO w (Fs j) c z)→C8 w cs us ((List.range cs.length).map Fs)
 | [],[],_,_,_=>trivial
 | [],_::_,_,h,_=>by simp at h
 | _::_,[],_,h,_=>by simp at h
 | c::cs,u::us,Fs,h,hr=>by
  rw [List.length_cons,List.range_succ_eq_map,List.map_cons,List.map_map]
  refine ⟨?_,C8.of (Fs:=Fs∘Nat.succ) (by simpa using h) fun j c' hj=>by simpa using hr (j+1) c' (by simpa using hj)⟩
  obtain ⟨z,hz,hc⟩:=hr 0 c rfl
  simp only [List.getElem?_cons_zero,Option.some.injEq] at hz;subst hz;exact hc
theorem lu.list {F:Nat→Prop} {cs:List Cv} {us:Array Value} (h:lu w F cs us):∃Gs,C8 w cs us.toList Gs∧bR Gs∧∀G∈Gs,∀k,G k→F k:=by
 obtain ⟨Fs,h1,h2,h3,h4⟩:=h
 refine ⟨_,C8.of (Fs:=Fs) (by simpa using h3) (fun j c hj=>by simpa using h4 j c hj),?_,fun G hG k hk=> ?_⟩
 ·unfold bR
  rw [List.pairwise_map]
  refine List.pairwise_lt_range.imp fun {i j} Im k hi hj=> ?_
  have:=h2 i j k hi hj
  omega
 ·simp only [List.mem_map] at hG
  obtain ⟨j,_,rfl⟩:=hG
  exact h1 j k hk
structure sZ (w:World) (g:Gh) (st:St) (g':Gh) (aE:St) (u:List (Nat×Rt)) (F:Nat→Prop):Prop where
 n:g'.n=g.n
 ro:g'.ro=g.ro
 bx:g'.bx=g.bx
 eq:aE={ st with roots:=cg st.roots u }
 live:∀id r,ax st.roots id=some (.live r)→ax aE.roots id=some (.live r)∧g'.rf id=g.rf id∧g'.rv id=g.rv id
 dj:∀id r,ax st.roots id=some (.dj r)→ax aE.roots id=some (.dj r)∧g'.rf id=g.rf id∧g'.rv id=g.rv id
 own:∀id,aP aE id→(aP st id∧g'.rf id=g.rf id)∨∀k,g'.rf id k→F k
 map:∀c v,aZ w g st c v→aZ w g' aE c v
theorem sZ.refl (F:Nat→Prop):sZ w g st g st [] F:=⟨rfl,rfl,rfl,rfl,fun _ _ h=>⟨h,rfl,rfl⟩,fun _ _ h=>⟨h,rfl,rfl⟩,fun _ h=> .inl ⟨h,rfl⟩,fun _ _ h=>h⟩
theorem sZ.trans {g1 g2:Gh} {s1 s2:St} {u v:List (Nat×Rt)} {F G H:Nat→Prop} (h:sZ w g st g1 s1 u F) (k:sZ w g1 s1 g2 s2 v G) (hF:∀n,F n→H n) (hG:∀n,G n→H n):sZ w g st g2 s2 (u++v) H:={
 n:=k.n.trans h.n
 ro:=k.ro.trans h.ro
 bx:=k.bx.trans h.bx
 eq:=by rw [k.eq,h.eq,bc]
 live:=fun id r hr=>by
  obtain ⟨h1,h2,h3⟩:=h.live id r hr
  obtain ⟨h4,h5,h6⟩:=k.live id r h1
  exact ⟨h4,h5.trans h2,h6.trans h3⟩
 dj:=fun id r hr=>by
  obtain ⟨h1,h2,h3⟩:=h.dj id r hr
  obtain ⟨h4,h5,h6⟩:=k.dj id r h1
  exact ⟨h4,h5.trans h2,h6.trans h3⟩
 own:=fun id hi=>by
  rcases k.own id hi with ⟨h1,h2⟩ | h1
  ·rcases h.own id h1 with ⟨h3,h4⟩ | h3
   ·exact .inl ⟨h3,h2.trans h4⟩
   ·exact .inr fun n hn=>hF n (h3 n (by rw [← h2];exact hn))
  ·exact .inr fun n hn=>hG n (h1 n hn)
 map:=fun c v hc=>k.map c v (h.map c v hc) }
theorem kb.flat {F:Nat→Prop} {t:Ty} {xs:List (El t)} {u:Value} (h:kb w F t xs u):cR u=true:=by
 obtain ⟨av,h0,h1⟩:=h
 rcases h1.1 [] _ rfl with ⟨_,e⟩ | ⟨b,o,cap,cs,el,e,_⟩<;> · rw [h0] at e;subst e;rfl
theorem Inv.I5 (I:Inv w0 Mf g st a w) {id:Nat} {t:Ty} {xs:List (El t)} {ver:Nat} (eY:dv st id ⟨t,.deep,ver,[],xs⟩) (iP:∀ro,ax st.roots id≠some (.live ro)∧ax st.roots id≠some (.dj ro))
    {F:Nat→Prop} {u:Value} (h:kb w F t xs u) (hF:∀k,F k→fx w0 Mf g st k∧k<w.heap.size):
    ∃g',Inv w0 Mf g' { st with roots:=aX st.roots id (.live ⟨t,.deep,ver,[],xs⟩) } a w∧sZ w g st g' { st with roots:=aX st.roots id (.live ⟨t,.deep,ver,[],xs⟩) } [(id,.live ⟨t,.deep,ver,[],xs⟩)] F∧
      aZ w g' { st with roots:=aX st.roots id (.live ⟨t,.deep,ver,[],xs⟩) } (.h id ver 0 []) u:=by
 obtain ⟨av,h0,h1⟩:=h
 have I1:=I.b8 (id:=id) (r:=⟨t,.deep,ver,[],xs⟩) eY (av:=av) (F:=F) (by unfold aS;simp only [Gh.b8,if_true];exact h1)
  (fun k hk=>⟨fun aH h2 _=>(hF k hk).1.r aH h2,(hF k hk).1.ro,(hF k hk).1.b,(hF k hk).1.gy,(hF k hk).2⟩)
 refine ⟨_,I1,⟨rfl,rfl,rfl,rfl,fun aH r h2=> ?_,fun aH r h2=> ?_,fun aH ⟨r',h2,h3⟩=> ?_,fun c v hc=>⟨hc.1,hc.2.b8 eY⟩⟩,kb.flat ⟨av,h0,h1⟩,?_,fun r' kF=> ?_⟩
 ·have:aH≠id:=fun e=>(iP r).1 (e▸h2)
  simp only [bX _ _ this,Gh.b8,this,if_false]
  exact ⟨h2,trivial,trivial⟩
 ·have:aH≠id:=fun e=>(iP r).2 (e▸h2)
  simp only [bX _ _ this,Gh.b8,this,if_false]
  exact ⟨h2,trivial,trivial⟩
 ·by_cases e:aH=id
  ·subst e;exact .inr fun k hk=>by simpa [Gh.b8] using hk
  ·simp only [bX _ _ e] at h2
   exact .inl ⟨⟨r',h2,h3⟩,by simp [Gh.b8,e]⟩
 ·unfold cJ;simp only [bd];exact .inr ⟨trivial,Nat.zero_le _⟩
 ·have:=kF.is (bd _ _ _)
  subst this
  exact ⟨by simp only [Gh.b8,if_true];exact h0.symm,rfl⟩
theorem Inv.ua:∀ {cs:List Cv} {us:List Value} {Fs:List (Nat→Prop)} {g:Gh} {st:St} {id:Nat} {k:List Sc→Nat→St→List (Nat×Rt)→Option R} {r:R},Inv w0 Mf g st a w→C8 w cs us Fs→(∀ x,.v x∈cs→cR x=true)→bR Fs→
 (∀ F∈Fs,∀n,F n→fx w0 Mf g st n∧n<w.heap.size)→tB true st id cs k=some r→
    ∃ss m g' aE u,k ss m aE u=some r∧Inv w0 Mf g' aE a w∧sZ w g st g' aE u (Any Fs)∧lV w g' aE ss us
 | [],us,Fs,g,st,id,k,r,I,hO,oV,hp,hF,h=>by
  cases us<;>cases Fs<;>first | exact hO.elim | skip
  exact ⟨[],id,g,st,[],h,I,sZ.refl _,trivial⟩
 | .v x::cs,us,Fs,g,st,id,k,r,I,hO,oV,hp,hF,h=>by
  cases us with
  | nil=>cases Fs<;>exact hO.elim
  | cons u us=>
   cases Fs with
   | nil=>exact hO.elim
   | cons F Fs=>
    obtain ⟨ss,m,g',aE,v,h1,h2,h3,h4⟩:=Inv.ua (id:=id) I hO.2 (fun x hx=>oV x (by simp [hx])) (List.pairwise_cons.1 hp).2 (fun G hG=>hF G (by simp [hG])) h
    have hu:u=x:=hO.1
    subst hu
    refine ⟨_,m,g',aE,v,h1,h2,?_,⟨⟨oV u (by simp),rfl⟩,h4⟩⟩
    exact { h3 with own:=fun id hi=>(h3.own id hi).imp (fun h=>h) fun h n hn=>let ⟨G,hG,hk⟩:=h n hn;⟨G,by simp [hG],hk⟩ }
 | .l t xs::cs,us,Fs,g,st,id,k,r,I,hO,oV,hp,hF,h=>by
  cases us with
  | nil=>cases Fs<;>exact hO.elim
  | cons u us=>
   cases Fs with
   | nil=>exact hO.elim
   | cons F Fs=>
    simp only [tB] at h
    replace h:=(Te h).2
    simp only [cond_true] at h
    obtain ⟨ver,eY,h,iP⟩:=C7 h
    obtain ⟨g1,I1,G1,EL⟩:=I.I5 eY iP hO.1 (hF F (by simp))
    obtain ⟨AU,w5⟩:=List.pairwise_cons.1 hp
    obtain ⟨ss,m,g',aE,v,h1,h2,h3,h4⟩:=Inv.ua (id:=id+1) I1 hO.2 (fun x hx=>oV x (by simp [hx])) w5 (fun G hG n hn=>by
     obtain ⟨hf,ct⟩:=hF G (by simp [hG]) n hn
     refine ⟨⟨fun aH hi h5=> ?_,by rw [G1.ro];exact hf.ro,fun b hb=>by rw [G1.bx];exact hf.b b hb,hf.gy⟩,ct⟩
     rcases G1.own aH hi with ⟨h6,h7⟩ | h6
     ·rw [h7] at h5;exact hf.r aH h6 h5
     ·exact AU G hG n (h6 n h5) hn) h
    refine ⟨_,m,g',aE,_,h1,h2,?_,⟨h3.map _ _ EL,h4⟩⟩
    exact G1.trans h3 (fun n hn=>⟨F,by simp,hn⟩) (fun n ⟨G,hG,hn⟩=>⟨G,by simp [hG],hn⟩)
theorem Inv.tC (I:Inv w0 Mf g st a w) {F:Nat→Prop} {t:Ty} {cs:List Cv} {us:Array Value} (fy:tD g.n.wl (shr t) w F cs us) (oV:∀x,.v x∈cs→cR x=true) (hF:∀n,F n→fx w0 Mf g st n∧n<w.heap.size)
    {id:Nat} {k:List Sc→Nat→St→List (Nat×Rt)→Option R} {r:R} (h:tC true st id t cs k=some r):
    ∃ss m g' aE u,k ss m aE u=some r∧Inv w0 Mf g' aE a w∧sZ w g st g' aE u F∧lV w g' aE ss us.toList:=by
 unfold Gm.tC at h
 cases mD:shr t
 ·rw [mD] at h fy
  simp only [cond_false] at h
  obtain ⟨Gs,hO,hp,dy⟩:=lu.list fy
  obtain ⟨ss,m,g',bt,u,h1,I1,G1,hc⟩:=Inv.ua I hO oV hp (fun G hG n hn=>hF n (dy G hG n hn)) h
  exact ⟨ss,m,g',bt,u,h1,I1,{ G1 with own:=fun id hi=>(G1.own id hi).imp (fun h=>h) fun h n hn=>let ⟨G,hG,hk⟩:=h n hn;dy G hG n hk },hc⟩
 ·rw [mD] at h fy
  simp only [cond_true] at h
  exact ⟨_,_,g,st,_,h,I,sZ.refl _,(tZ fy oV).l⟩
end Go.Gm
namespace Go.Gm
open Go
variable {wl : World} {R : Type} {P : Program} {E : Env} {w0 w w' : World} {Mf : Nat → Prop} {g : Gh} {st : St} {a : Act} {Q : Exit → Act → World → Prop}
  {o:Oper} {k:Dl→Option R} {r:R} {K:Act→World→Prop}
theorem Inv.called (I:Inv w0 Mf g st a w) {X:Nat→Prop} (hs:bH X w w') (cZ:∀k,g.ro k→ ¬X k) (nr:∀id k,aP st id→g.rf id k→ ¬X k)
 (yS:∀b x,ax st.boxes b=some x→ ¬X (g.bx b)∨(¬ nd st b∧∃us el,w'.heap[g.bx b]? =some (.cells us el (0,0))∧us.size=x.cs.length∧∀(j:Nat) v,us[j]? =some v→cR v=true)) (hk:Kept w0 w' Mf):Inv w0 Mf g st a w':={
 aA:=fun s sv h=>let ⟨u,hu,hr⟩:=I.aA s sv h;⟨u,hu,hr.map fun c u hc=>⟨hc.1,hc.2.world hs cZ⟩⟩
 boxes:=fun b x h=>by
  rcases yS b x h with hb | ⟨hn,us,el,h1,h2,h3⟩
  ·obtain ⟨us,el,h1,h2⟩:=I.boxes b x h
   exact ⟨us,el,hs.get h1 hb,h2.map fun c u hc=>⟨hc.1,hc.2.world hs cZ⟩⟩
  ·refine ⟨us,el,h1,h2,fun j c hj=> ?_⟩
   have hd:c.jK=true:=by
    cases hc:c.jK
    ·exact (hn ⟨x,h,c,List.mem_of_getElem? hj,hc⟩).elim
    ·rfl
   have ct:j<us.size:=by rw [h2];exact nG hj
   refine ⟨us[j],Array.getElem?_eq_getElem ct,h3 j _ (Array.getElem?_eq_getElem ct),?_⟩
   cases c<;>first | trivial | cases hd
 roots:=fun id r h=>by
  have hr:=I.roots id r h
  unfold aS at hr ⊢
  split at hr
  ·rename_i hm;exact hr.same hs (nr id · ⟨r,h,by rw [hm];rfl⟩)
  ·rename_i hm;exact hr.same hs (nr id · ⟨r,h,by rw [hm];rfl⟩) cZ
  ·exact hr.same hs cZ
  ·rename_i hm;exact hr.same hs (nr id · ⟨r,h,by rw [hm];rfl⟩)
 apart:={ I.apart with
  eb:=fun id k h1 h2=>Nat.lt_of_lt_of_le (I.apart.eb id k h1 h2) hs.1
  c7:=fun k h=>Nat.lt_of_lt_of_le (I.apart.c7 k h) hs.1
  bU:=I.apart.bU }
 kept:=hk
 defers:=I.defers
 size:=I.size
 base:=⟨I.base.wl,I.base.ap,I.base.ro⟩ }
structure A0 (w0:World) (Mf:Nat→Prop) (g:Gh) (st:St) (bs:List Bk) (n:Nat):Prop where
 r:∀id,aP st id→ ¬g.rf id n
 ro : ¬g.ro n
 b:∀b,bA st b→g.bx b=n→ .box b∈bs
 gy:w0.heap.size≤n∨Mf n
def kj (X:Nat→Prop):List (Nat→Prop)→List (Nat→Prop)→Prop
 | [],[]=>True
 | F::Fs,H::Hs=>(∀ k,X k→H k→F k)∧kj X Fs Hs
 | _,_=>False
structure qj (w':World) (g:Gh) (st:St) (g':Gh) (aE:St) (bs:List Bk) (d:Dl) (F:Nat→Prop):Prop where
 n:g'.n=g.n
 ro:g'.ro=g.ro
 bx:g'.bx=g.bx
 aA:aE.aA=st.aA
 roots:aE.roots=cg st.roots d.roots
 boxes:aE.boxes=cg st.boxes d.boxes
 ly:d.slot=none
 live:∀id r,ax st.roots id=some (.live r)→ax aE.roots id=some (.live r)∧g'.rf id=g.rf id∧g'.rv id=g.rv id
 own:∀id,aP aE id→(aP st id∧g'.rf id=g.rf id)∨∀k,g'.rf id k→F k
 box:∀b,bA aE b↔bA st b
 key:∀id r p,.root id r p∈bs→(ax (cg [] d.roots) id).isSome
 map:∀c v,aZ w' g st c v→aZ w' g' aE c v
theorem C9 {α:Type} {L M:List (Nat×α)} {n:Nat} (h:(ax (cg [] L) n).isSome∨(ax (cg [] M) n).isSome):(ax (cg [] (L++M)) n).isSome:=by
 rw [bc,dG]
 cases hm:ax (cg [] M) n with
 | some x=>simp
 | none=>simpa [hm] using h
theorem lz.box {ms:List Am} {us:List Value} {Fs:List (Nat→Prop)} {bs:List Bk} {Hs:List (Nat→Prop)} (h:lz w g st ms us Fs bs Hs) {ins:List Dt} {outs:List Dt} {Bs:List (Nat→Prop)} (hb:ec wl w' ms ins us outs Bs)
    {b:Nat} (hm : .box b∈bs):(∃ B∈Bs,B (g.bx b))∧∃H∈Hs,H (g.bx b):=by
 induction h generalizing ins outs Bs with
 | nil=>simp at hm
 | cons h hs ih=>
  rename_i m ms u us F Fs bk bs H Hs
  cases m with
  | «mut» =>
   obtain ⟨id,r,p,s,rfl,_⟩:=h
   cases hb with
   | skip h1 h2=>exact h1.elim
   | «mut» h1 h2=>
    have Ig:Bk.box b∈bs:=by simpa using hm
    obtain ⟨⟨B,h3,h4⟩,H',h5,h6⟩:=ih h2 Ig
    exact ⟨⟨B,by simp [h3],h4⟩,H',by simp [h5],h6⟩
  | bj=>
   obtain ⟨b',rfl,_,_,hu,rfl,hF⟩:=h
   cases hb with
   | skip h1 h2=>exact h1.elim
   | bj h1 ht h2=>
    rcases List.mem_append.1 hm with hm | hm
    ·simp only [List.mem_singleton,Bk.box.injEq] at hm
     subst hm
     obtain ⟨b0,us',el,e,hB,_⟩:=h1
     rw [hu] at e
     simp only [Value.pointer.injEq,Option.some.injEq,Addr.mk.injEq,and_true] at e
     rw [← e] at hB
     exact ⟨⟨_,by simp,hB⟩,_,by simp,hF⟩
    ·obtain ⟨⟨B,h3,h4⟩,H',h5,h6⟩:=ih h2 hm
     exact ⟨⟨B,by simp [h3],h4⟩,H',by simp [h5],h6⟩
  | _=>
   obtain ⟨rfl,_⟩:=h
   cases hb with
   | skip h1 h2=>
    obtain ⟨h3,H',h5,h6⟩:=ih h2 (by simpa using hm)
    exact ⟨h3,H',by simp [h5],h6⟩
theorem fG.move {g':Gh} {aE:St} {m:Am} {u:Value} {F:Nat→Prop} {bk:List Bk} {H:Nat→Prop} (h:fG w g st m u F bk H)
 (hl:∀id r p,.root id r p∈bk→ax st.roots id=some (.dj r)→ax aE.roots id=some (.dj r)∧g'.rf id=g.rf id∧g'.rv id=g.rv id)
 (hb:∀b,.box b∈bk→(¬ nd st b→ ¬nd aE b)∧(bA st b→bA aE b)) (hx:g'.bx=g.bx):fG w g' aE m u F bk H:=by
 cases m with
 | «mut» =>
  obtain ⟨id,r,p,s,rfl,h1,h2,h3,h4,h5,h6,rfl⟩:=h
  obtain ⟨e1,e2,e3⟩:=hl id r p (by simp) h1
  exact ⟨id,r,p,s,rfl,e1,h2,by rw [e2,e3];exact h3,h4,by rw [e3];exact h5,by rw [e3];exact h6,e2.symm⟩
 | bj=>
  obtain ⟨b,rfl,h1,h2,h3,h4⟩:=h
  obtain ⟨e1,e2⟩:=hb b (by simp)
  exact ⟨b,rfl,e1 h1,e2 h2,by rw [hx];exact h3,by rw [hx];exact h4⟩
 | _=>exact h
theorem lz.move {g':Gh} {aE:St} {ms:List Am} {us:List Value} {Fs:List (Nat→Prop)} {bs:List Bk} {Hs:List (Nat→Prop)} (h:lz w g st ms us Fs bs Hs)
 (hl:∀id r p,.root id r p∈bs→ax st.roots id=some (.dj r)→ax aE.roots id=some (.dj r)∧g'.rf id=g.rf id∧g'.rv id=g.rv id)
 (hb:∀b,.box b∈bs→(¬ nd st b→ ¬nd aE b)∧(bA st b→bA aE b)) (hx:g'.bx=g.bx):lz w g' aE ms us Fs bs Hs:=by
 induction h with
 | nil=>exact .nil
 | cons h hs ih=>
  exact .cons (h.move (fun id r p hm=>hl id r p (List.mem_append_left _ hm)) (fun b hm=>hb b (List.mem_append_left _ hm)) hx)
   (ih (fun id r p hm=>hl id r p (List.mem_append_right _ hm)) (fun b hm=>hb b (List.mem_append_right _ hm)))
end Go.Gm
namespace Go.Gm
open Go
variable {R : Type} {P : Program} {E : Env} {w0 w w' : World} {Mf : Nat → Prop} {g : Gh} {st : St} {a : Act}
theorem GP {F G:Nat→Prop} {t t':Ty} {xs:List (El t)} {ys:List (El t')} {u:Value} {eW CX:Nat→Nat→Value} (h:bB w F t xs u eW) (h':bB w' G t' ys u CX):ys.length=xs.length:=by
 rcases h with ⟨rfl,rfl⟩ | ⟨b,o,cap,cs,el,rfl,_⟩<;>rcases h' with ⟨rfl,e⟩ | ⟨b',o',rh,Gz,p3,e,_⟩
 ·rfl
 ·cases e
 ·cases e
 ·simp only [Value.slice.injEq] at e;exact e.2.1.symm
theorem Inv.I6 (I:Inv w0 Mf g st a w') {X:Nat→Prop} (cq:bH X w w') {id:Nat} {ro:cB} {p:Path} {s:Sl} (cU:ax st.roots id=some (.dj ro)) (cI:ro.md = .deep) (pI:bo w (g.rf id) ro.t ro.xs (g.rv id))
 (hs:aR ro.t ro.xs p=some s) {F:Nat→Prop} (hF:∀k,F k↔gF ro.t ro.xs (g.rv id) p k) (hX:∀k,X k→g.rf id k→F k) {t:Ty} {ys:List (El t)} {B:Nat→Prop} (eG:kb w' B t ys (g.rv id p))
 (hB:∀k,B k→(X k∨w.heap.size≤k)∧k<w'.heap.size) (hH:∀k,g.rf id k→k<w.heap.size) (cK:∀k,B k∨(g.rf id k∧ ¬F k)→fx w0 Mf g st k) {zs:List (El ro.t)} (hz:dp ro.t ro.xs p ⟨t,ys⟩=some zs):
    ∃g':Gh,g'.n=g.n∧g'.ro=g.ro∧g'.bx=g.bx∧(∀ aH,aH≠id→g'.rf aH=g.rf aH∧g'.rv aH=g.rv aH)∧(∀ k,g'.rf id k→B k∨(g.rf id k∧ ¬F k))∧
      Inv w0 Mf g' { st with roots:=aX st.roots id (.live ⟨ro.t,ro.md,ro.ver,ro.log++[p.length],zs⟩) } a w'∧
      ∀c v,aZ w' g st c v→aZ w' g' { st with roots:=aX st.roots id (.live ⟨ro.t,ro.md,ro.ver,ro.log++[p.length],zs⟩) } c v:=by
 obtain ⟨CD,h0,iP⟩:=eG
 have hXb:∀k,X k→ ¬jJ ro.t ro.xs (g.rv id) p k:=fun k hx hb=>pI.eg ((hF k).1 (hX k hx (pI.jq hb))) hb
 have hBb:∀k,B k→ ¬jJ ro.t ro.xs (g.rv id) p k:=fun k hk hb=>by
  rcases (hB k hk).1 with h | h
  ·exact hXb k h hb
  ·have:=hH k (pI.jq hb);omega
 obtain ⟨p6,h1,_,h3⟩:=pI.IS hs hz cq hXb iP h0 hBb
 have hlen:ys.length=s.xs.length:=GP (pI.1 p s hs) (by rw [← h0];exact iP.1 [] _ rfl)
 have U7:bH (fun _=>False) w' w':=bH.refl w'
 have fw:∀q,(∀ D∈[p.length],q.length≤D)→p6 q=g.rv id q∧∀s,aR ro.t ro.xs q=some s→∃s',aR ro.t zs q=some s'∧s'.t=s.t∧s'.xs.length=s.xs.length:=fun q hq=>by
  have hql:q.length≤p.length:=hq _ (by simp)
  have EH:p <+: q→q=p:=fun h=>(h.eq_of_length_le hql).symm
  exact ⟨h1 q EH,fun sq jX=>oE hs hz hlen q sq EH jX⟩
 refine ⟨(({ g with ro:=g.ro }:Gh).b8 id p6 fun k=>B k∨jJ ro.t ro.xs (g.rv id) p k),rfl,rfl,rfl,fun aH h=>by simp [Gh.b8,h],fun k hk=> ?_,?_,fun c v hc=> ?_⟩
 ·simp only [Gh.b8,if_true] at hk
  exact hk.imp (fun h=>h) fun h=>⟨pI.jq h,fun hf=>pI.eg ((hF k).1 hf) h⟩
 ·refine I.jI (ro':=⟨ro.t,ro.md,ro.ver,ro.log++[p.length],zs⟩) (.inr cU) U7 I.kept (fun k h=>h.elim) (fun _ h=>h) (fun aH k h1 _ h3=>I.apart.dZ aH k h1 h3) I.apart.fL I.apart.c7 I.apart.bU rfl rfl rfl fw ?_ (fun k hk=> ?_)
  ·unfold aS
   simp only [Gh.b8,if_true,cI]
   exact h3
  ·have hf:fx w0 Mf g st k:=hk.elim (fun h=>cK k (.inl h)) fun h=>cK k (.inr ⟨pI.jq h,fun hf=>pI.eg ((hF k).1 hf) h⟩)
   refine ⟨fun aH h1 _=>hf.r aH h1,hf.ro,hf.b,hf.gy,?_⟩
   rcases hk with h | h
   ·exact (hB k h).2
   ·exact Nat.lt_of_lt_of_le (hH k (pI.jq h)) cq.1
 ·exact ⟨hc.1,lQ.jI (g:=g) (ro':=⟨ro.t,ro.md,ro.ver,ro.log++[p.length],zs⟩) (.inr cU) rfl rfl rfl fw hc.2⟩
theorem Inv.P8 (I:Inv w0 Mf g st a w') {b:Nat} (cU:bA st b) {t:Ty} {x:El t} {B:Nat→Prop} (eG:tE g.n.wl w' B t x (.pointer (some ⟨g.bx b,0,none⟩))) (hB:∀k,B k→k<w'.heap.size)
 (cK:∀k,B k→k≠g.bx b→fx w0 Mf g st k) {k:List Sc→Nat→St→List (Nat×Rt)→Option R} {r:R} (h:Gm.tC true st (64*b) t (enc t x) k=some r):
    ∃ss m g' bt u,k ss m bt u=some r∧Inv w0 Mf g' { bt with boxes:=aX bt.boxes b ⟨t,ss⟩ } a w'∧sZ w' g st g' bt u B∧
      ∀c v,aZ w' g st c v→aZ w' g' { bt with boxes:=aX bt.boxes b ⟨t,ss⟩ } c v:=by
 obtain ⟨b',us,el,e,hBb,hb,fy⟩:=eG
 simp only [Value.pointer.injEq,Option.some.injEq,Addr.mk.injEq,and_true] at e
 subst e
 obtain ⟨ss,m,g',bt,u,h1,I1,G1,hc⟩:=Inv.tC I fy (fun y hy=>by
   have:=tw t x
   rw [List.all_eq_true] at this
   exact this _ hy) (fun n hn=>⟨cK n hn.1 hn.2,hB n hn.1⟩) h
 have U6:bA bt b:=by rw [G1.eq];exact cU
 have yS:g'.bx b=g.bx b:=by rw [G1.bx]
 have cq:bH (fun k=>k=g'.bx b) w' w':=⟨Nat.le_refl _,fun _ _ _=>rfl⟩
 have fe:cH w' g' bt ss us:=hc.arr
 refine ⟨ss,m,g',bt,u,h1,I1.qf U6 cq I1.kept (by rw [yS];exact hb) fe,?_,fun c v pZ=> ?_⟩
 ·exact { G1 with own:=fun id hi=>(G1.own id hi).imp (fun h=>h) fun h n hn=>(h n hn).1 }
 ·have:=G1.map c v pZ
  exact ⟨this.1,lQ.roots (st:=bt) (fun b' gB=>by
   simp only [aF];split
   ·rfl
   ·exact gB) (fun _ _ _ h=>h) (fun _ _ _ _ _ _ h=>h) this.2⟩
def GQ:List (Nat→Prop)→List (Nat→Prop)→Nat→Prop
 | F::Fs,H::Hs,k=>(H k∧ ¬F k)∨GQ Fs Hs k
 | _,_,_=>False
theorem GQ.any:∀ {Fs Hs:List (Nat→Prop)} {k:Nat},GQ Fs Hs k→Any Hs k
 | F::Fs,H::Hs,k,h=>by
  rcases h with h | h
  ·exact ⟨H,by simp,h.1⟩
  ·obtain ⟨G,hG,hk⟩:=GQ.any h;exact ⟨G,by simp [hG],hk⟩
 | [],_,_,h=>h.elim
 | _::_,[],_,h=>h.elim
theorem kj.rem {X:Nat→Prop}:∀ {Fs Hs:List (Nat→Prop)} {k:Nat},kj X Fs Hs→GQ Fs Hs k→ ¬X k
 | F::Fs,H::Hs,k,h,hr=>by
  rcases hr with hr | hr
  ·exact fun hx=>hr.2 (h.1 k hx hr.1)
  ·exact kj.rem h.2 hr
 | [],_,_,_,h=>h.elim
 | _::_,[],_,_,h=>h.elim
theorem qj.refl (F:Nat→Prop):qj w' g st g st [] {} F:=
 ⟨rfl,rfl,rfl,rfl,rfl,rfl,rfl,fun _ _ h=>⟨h,rfl,rfl⟩,fun _ h=> .inl ⟨h,rfl⟩,fun _=> .rfl,fun _ _ _ h=>by simp at h,fun _ _ h=>h⟩
theorem qj.trans {g1 g2:Gh} {s1 s2:St} {bs cs:List Bk} {d e:Dl} {F G H:Nat→Prop} (h:qj w' g st g1 s1 bs d F) (k:qj w' g1 s1 g2 s2 cs e G) (hF:∀n,F n→H n) (hG:∀n,G n→H n):
    qj w' g st g2 s2 (bs++cs) { boxes:=d.boxes++e.boxes,roots:=d.roots++e.roots } H:={
 n:=k.n.trans h.n
 ro:=k.ro.trans h.ro
 bx:=k.bx.trans h.bx
 aA:=k.aA.trans h.aA
 roots:=by rw [k.roots,h.roots,bc]
 boxes:=by rw [k.boxes,h.boxes,bc]
 ly:=rfl
 live:=fun id r hr=>by
  obtain ⟨h1,h2,h3⟩:=h.live id r hr
  obtain ⟨h4,h5,h6⟩:=k.live id r h1
  exact ⟨h4,h5.trans h2,h6.trans h3⟩
 own:=fun id hi=>by
  rcases k.own id hi with ⟨h1,h2⟩ | h1
  ·rcases h.own id h1 with ⟨h3,h4⟩ | h3
   ·exact .inl ⟨h3,h2.trans h4⟩
   ·exact .inr fun n hn=>hF n (h3 n (by rw [← h2];exact hn))
  ·exact .inr fun n hn=>hG n (h1 n hn)
 box:=fun b=>(k.box b).trans (h.box b)
 key:=fun id r p hm=>by
  refine C9 ?_
  rcases List.mem_append.1 hm with hm | hm
  ·exact .inl (h.key id r p hm)
  ·exact .inr (k.key id r p hm)
 map:=fun c v hc=>k.map c v (h.map c v hc) }
theorem Inv.fJ {X:Nat→Prop} (cq:bH X w w'):∀ {ms:List Am} {ins:List Dt} {us:List Value} {Fs:List (Nat→Prop)} {bs:List Bk} {Hs:List (Nat→Prop)} {outs:List Dt} {Bs:List (Nat→Prop)} {g:Gh} {st:St}
    {k:St→Dl→Option R} {r:R},Inv w0 Mf g st a w'→lz w g st ms us Fs bs Hs→ec g.n.wl w' ms ins us outs Bs→(bs.Pairwise fun b c=>b.key≠c.key)→bR Bs→bR Hs→kj X Fs Hs→
 (∀ B∈Bs,∀k,B k→(X k∨w.heap.size≤k)∧k<w'.heap.size)→(∀ H∈Hs,∀k,H k→k<w.heap.size)→(∀ k,Any Bs k∨GQ Fs Hs k→A0 w0 Mf g st bs k)→fJ st bs outs k=some r→
    ∃g' aE d,k aE d=some r∧Inv w0 Mf g' aE a w'∧qj w' g st g' aE bs d (fun n=>Any Bs n∨GQ Fs Hs n):=by
 intro ms
 induction ms with
 | nil=>
  intro ins us Fs bs Hs outs Bs g st k r I hh hb _ _ _ _ _ _ _ h
  cases hh;cases hb
  exact ⟨g,st,{},h,I,qj.refl _⟩
 | cons m ms ih=>
  intro ins us Fs bs Hs outs Bs g st k r I hh hb sY U8 Io hX hB hH cK h
  cases hh with
  | cons h1 hs=>
  rename_i u us F Fs bk bs H Hs
  obtain ⟨U9,U'⟩:=List.pairwise_cons.1 Io
  -- a mode that lends nothing
  have plain:bk=[]→H=F→ec g.n.wl w' ms (ins.drop 1) us outs Bs→∃g' aE d,k aE d=some r∧Inv w0 Mf g' aE a w'∧qj w' g st g' aE (bk++bs) d (fun n=>Any Bs n∨GQ (F::Fs) (H::Hs) n):=by
   intro e1 e2 q8
   subst e1;subst e2
   obtain ⟨g',aE,d,h2,h3,h4⟩:=ih I hs q8 sY U8 U' hX.2 hB (fun H' YN=>hH H' (by simp [YN])) (fun n hn=>cK n (hn.imp (fun h=>h) fun h=> .inr h)) h
   refine ⟨g',aE,d,h2,h3,?_⟩
   have:(fun n=>Any Bs n∨GQ (H::Fs) (H::Hs) n)=fun n=>Any Bs n∨GQ Fs Hs n:=by
    funext n
    refine propext (or_congr .rfl ⟨fun h=>h.elim (fun h=>(h.2 h.1).elim) fun h=>h,.inr⟩)
   rw [this];exact h4
  cases m with
  | ro=>cases hb with | skip _ q8=>exact plain h1.1 h1.2 q8
  | CO=>cases hb with | skip _ q8=>exact plain h1.1 h1.2 q8
  | CA=>cases hb with | skip _ q8=>exact plain h1.1 h1.2 q8
  | fn=>cases hb with | skip _ q8=>exact plain h1.1 h1.2 q8
  | PB=>cases hb with | skip _ q8=>exact plain h1.1 h1.2 q8
  | kp=>cases hb with | skip _ q8=>exact plain h1.1 h1.2 q8
  | «mut» =>
   obtain ⟨id,ro,p,s,rfl,cU,cI,pI,fv,hu,hF,rfl⟩:=h1
   cases hb with
   | skip hn _=>exact hn.elim
   | «mut» hb q8=>
   rename_i d0 pG t xs ds B Bs
   obtain ⟨GR,Va⟩:=List.pairwise_cons.1 U8
   obtain ⟨Ij,hk2⟩:=List.pairwise_cons.1 sY
   simp only [List.singleton_append,Gm.fJ] at h
   obtain ⟨zs,hz,zi⟩:=aQ h
   subst hu
   have eT:∀n,B n∨(g.rf id n∧ ¬F n)→fx w0 Mf g st n:=by
    intro n hn
    have hf:=cK n (hn.imp (fun h=>⟨B,by simp,h⟩) fun h=> .inl h)
    refine ⟨hf.r,hf.ro,fun b Tx e=> ?_,hf.gy⟩
    have hm:=hf.b b Tx e
    have Ig:Bk.box b∈bs:=by simpa using hm
    obtain ⟨⟨B',h5,h6⟩,H',h7,h8⟩:=hs.box q8 Ig
    rw [e] at h6 h8
    rcases hn with hn | hn
    ·exact GR B' h5 n hn h6
    ·exact U9 H' h7 n hn.1 h8
   obtain ⟨g1,e1,e2,e3,e4,e5,I1,oW⟩:=I.I6 cq cU cI pI fv hF hX.1 hb (hB B (by simp)) (hH (g.rf id) (by simp)) eT hz
   have dP:∀aH r' p',Bk.root aH r' p'∈bs→aH≠id:=fun aH r' p' hm e=>Ij _ hm (by rw [e];rfl)
   obtain ⟨g',aE,d,h2,h3,h4⟩:=ih I1 (hs.move (fun aH r' p' hm hl=>by
     have hn:=dP aH r' p' hm
     exact ⟨by simp only [bX _ _ hn];exact hl,(e4 aH hn).1,(e4 aH hn).2⟩) (fun b hm=>⟨fun h=>h,fun h=>h⟩) e3) (by rw [e1];exact q8) hk2 Va U' hX.2 (fun B' A1=>hB B' (by simp [A1])) (fun H' YN=>hH H' (by simp [YN]))
    (fun n hn=>by
     have hf:=cK n (hn.imp (fun ⟨G,hG,hk⟩=>⟨G,by simp [hG],hk⟩) fun h=> .inr h)
     refine ⟨fun aH ⟨r',h5,h6⟩ h7=> ?_,by rw [e2];exact hf.ro,fun b Tx e=>by
      rw [e3] at e
      simpa using hf.b b Tx e,hf.gy⟩
     by_cases e:aH=id
     ·subst e
      rcases e5 n h7 with h8 | ⟨h8,h9⟩
      ·rcases hn with ⟨G,hG,hk⟩ | hn
       ·exact GR G hG n h8 hk
       ·rcases (hB B (by simp) n h8).1 with hx | hx
        ·exact hX.2.rem hn hx
        ·obtain ⟨H',Il,IZ⟩:=hn.any
         have:=hH H' (by simp [Il]) n IZ;omega
      ·rcases hn with ⟨G,hG,hk⟩ | hn
       ·rcases (hB G (by simp [hG]) n hk).1 with hx | hx
        ·exact h9 (hX.1 n hx h8)
        ·have:=hH (g.rf aH) (by simp) n h8;omega
       ·obtain ⟨H',Il,IZ⟩:=hn.any
        exact U9 H' Il n h8 IZ
     ·simp only [bX _ _ e] at h5
      rw [(e4 aH e).1] at h7
      exact hf.r aH ⟨r',h5,h6⟩ h7) zi
   have I7:qj w' g st g1 { st with roots:=aX st.roots id (.live ⟨ro.t,ro.md,ro.ver,ro.log++[p.length],zs⟩) } [.root id ro p] { roots:=[(id,.live ⟨ro.t,ro.md,ro.ver,ro.log++[p.length],zs⟩)] } (fun n=>B n∨(g.rf id n∧ ¬F n)):={
    n:=e1,ro:=e2,bx:=e3,aA:=rfl,roots:=rfl,boxes:=rfl,ly:=rfl
    live:=fun aH r' hl=>by
     have hn:aH≠id:=fun e=>by rw [e,cU] at hl;cases hl
     exact ⟨by simp only [bX _ _ hn];exact hl,(e4 aH hn).1,(e4 aH hn).2⟩
    own:=fun aH ⟨r',h5,h6⟩=>by
     by_cases e:aH=id
     ·subst e;exact .inr e5
     ·simp only [bX _ _ e] at h5
      exact .inl ⟨⟨r',h5,h6⟩,(e4 aH e).1⟩
    box:=fun _=> .rfl
    key:=fun aH r' p' hm=>by
     simp only [List.mem_singleton,Bk.root.injEq] at hm
     rw [hm.1];simp [cg,bd]
    map:=oW }
   refine ⟨g',aE,_,h2,h3,?_⟩
   have:=I7.trans h4 (H:=fun n=>Any (B::Bs) n∨GQ (F::Fs) (g.rf id::Hs) n) (fun n hn=>hn.imp (fun h=>⟨B,by simp,h⟩) .inl) (fun n hn=>hn.imp (fun ⟨G,hG,hk⟩=>⟨G,by simp [hG],hk⟩) .inr)
   have hd:=h4.ly
   cases d
   simp only at hd
   subst hd
   exact this
  | bj=>
   obtain ⟨b,rfl,GB,qg,hu,rfl,Pq⟩:=h1
   cases hb with
   | skip hn _=>exact hn.elim
   | bj hb ht q8=>
   rename_i t0 x0 pG t x ds B Bs
   obtain ⟨GR,Va⟩:=List.pairwise_cons.1 U8
   obtain ⟨Ij,hk2⟩:=List.pairwise_cons.1 sY
   simp only [List.singleton_append,Gm.fJ] at h
   subst hu
   obtain ⟨ss,mm,g1,bt,u,zi,I1,G1,oW⟩:=I.P8 qg hb (fun n hn=>(hB B (by simp) n hn).2) (fun n hn dP=>by
    have hf:=cK n (.inl ⟨B,by simp,hn⟩)
    refine ⟨hf.r,hf.ro,fun b' Tx e=> ?_,hf.gy⟩
    have hm:=hf.b b' Tx e
    simp only [List.singleton_append,List.mem_cons,Bk.box.injEq] at hm
    rcases hm with rfl | hm
    ·exact dP e.symm
    ·obtain ⟨⟨B',h5,h6⟩,_⟩:=hs.box q8 hm
     rw [e] at h6
     exact GR B' h5 n hn h6) h
   have dP:∀b',Bk.box b'∈bs→b'≠b:=fun b' hm e=>Ij _ hm (by rw [e])
   have heq:bt.boxes=st.boxes:=by rw [G1.eq]
   have yS:∀b',bA { bt with boxes:=aX bt.boxes b ⟨t,ss⟩ } b'↔bA st b':=fun b'=>by
    simp only [bA,aF,heq]
    by_cases P7:b'=b
    ·subst P7;simpa [bA] using qg
    ·simp [P7]
   obtain ⟨g',aE,d,h2,h3,h4⟩:=ih I1 (hs.move (fun aH r' p' hm hl=>G1.dj aH r' hl) (fun b' hm=>⟨fun hn ⟨x',o6,hh⟩=>hn ⟨x',by simpa [aF,dP b' hm,heq] using o6,hh⟩,fun h=>(yS b').2 h⟩) G1.bx)
    (by rw [G1.n];exact q8) hk2 Va U' hX.2 (fun B' A1=>hB B' (by simp [A1])) (fun H' YN=>hH H' (by simp [YN]))
    (fun n hn=>by
     have hf:=cK n (hn.imp (fun ⟨G,hG,hk⟩=>⟨G,by simp [hG],hk⟩) fun h=> .inr h)
     refine ⟨fun aH hi h7=> ?_,by rw [G1.ro];exact hf.ro,fun b' Tx e=> ?_,hf.gy⟩
     ·rcases G1.own aH hi with ⟨h8,h9⟩ | h8
      ·rw [h9] at h7;exact hf.r aH h8 h7
      ·have h9:=h8 n h7
       rcases hn with ⟨G,hG,hk⟩ | hn
       ·exact GR G hG n h9 hk
       ·rcases (hB B (by simp) n h9).1 with hx | hx
        ·exact hX.2.rem hn hx
        ·obtain ⟨H',Il,IZ⟩:=hn.any
         have:=hH H' (by simp [Il]) n IZ;omega
     ·rw [G1.bx] at e
      have hm:=hf.b b' ((yS b').1 Tx) e
      simp only [List.singleton_append,List.mem_cons,Bk.box.injEq] at hm
      rcases hm with rfl | hm
      ·rcases hn with ⟨G,hG,hk⟩ | hn
       ·obtain ⟨b0,C',YO,e0,hB0,_⟩:=hb
        simp only [Value.pointer.injEq,Option.some.injEq,Addr.mk.injEq,and_true] at e0
        rw [← e0,e] at hB0
        exact (GR G hG n hB0 hk).elim
       ·obtain ⟨H',Il,IZ⟩:=hn.any
        exact (U9 H' Il n (e▸Pq) IZ).elim
      ·exact hm) zi
   have I7:qj w' g st g1 { bt with boxes:=aX bt.boxes b ⟨t,ss⟩ } [.box b] { boxes:=[(b,⟨t,ss⟩)],roots:=u } B:={
    n:=G1.n,ro:=G1.ro,bx:=G1.bx,aA:=by simp only;rw [G1.eq],roots:=by simp only;rw [G1.eq],boxes:=by simp only [cg];rw [heq],ly:=rfl
    live:=G1.live
    own:=G1.own
    box:=yS
    key:=fun _ _ _ hm=>by simp at hm
    map:=oW }
   refine ⟨g',aE,_,h2,h3,?_⟩
   have:=I7.trans h4 (H:=fun n=>Any (B::Bs) n∨GQ (H::Fs) (H::Hs) n) (fun n hn=> .inl ⟨B,by simp,hn⟩) (fun n hn=>hn.imp (fun ⟨G,hG,hk⟩=>⟨G,by simp [hG],hk⟩) .inr)
   have hd:=h4.ly
   cases d
   simp only at hd
   subst hd
   exact this
end Go.Gm
namespace Go.Gm
open Go
variable {R : Type} {P : Program} {E : Env} {w0 w w' : World} {Mf : Nat → Prop} {g : Gh} {st aE : St} {a : Act}
theorem GS (hb:ax st.boxes=ax aE.boxes) (hr:ax st.roots=ax aE.roots):lQ w g st=lQ w g aE:=by
 have h1:cJ st=cJ aE:=by funext id ver iv;unfold cJ;rw [hr]
 have h2:Vx st=Vx aE:=by funext id ver iv p r;unfold Vx;rw [hr]
 funext c u
 cases c<;>simp only [lQ,h1,h2,hb]
theorem Inv.congr (I:Inv w0 Mf g st a w) (hs:ax st.aA=ax aE.aA) (hb:ax st.boxes=ax aE.boxes) (hr:ax st.roots=ax aE.roots):Inv w0 Mf g aE a w:=by
 have hm:∀c u,aZ w g st c u→aZ w g aE c u:=fun c u h=>⟨h.1,by rw [← GS hb hr];exact h.2⟩
 have hO:aP st=aP aE:=by funext id;unfold aP;rw [hr]
 have hB:bA st=bA aE:=by funext b;unfold bA;rw [hb]
 exact {
  aA:=fun s sv h=>let ⟨u,hu,h1⟩:=I.aA s sv (by rw [hs];exact h);⟨u,hu,h1.map hm⟩
  boxes:=fun b x h=>let ⟨us,el,h1,h2⟩:=I.boxes b x (by rw [hb];exact h);⟨us,el,h1,h2.map hm⟩
  roots:=fun id r h=>I.roots id r (by rw [hr];exact h)
  apart:={
   rr:=by rw [← hO];exact I.apart.rr
   rb:=by rw [← hO,←hB];exact I.apart.rb
   bb:=by rw [← hB];exact I.apart.bb
   dZ:=by rw [← hO];exact I.apart.dZ
   fL:=by rw [← hB];exact I.apart.fL
   ck:=by rw [← hO];exact I.apart.ck
   dA:=by rw [← hB];exact I.apart.dA
   eb:=by rw [← hO];exact I.apart.eb
   c7:=I.apart.c7
   bU:=I.apart.bU }
  kept:=I.kept
  defers:=I.defers
  size:=I.size
  base:=⟨I.base.wl,I.base.ap,I.base.ro⟩ }
theorem Inv.xP (I:Inv w0 Mf g st a w) {id:Nat} {ro:cB} (h:ax st.roots id=some (.live ro)) (xe:ro.md.cW=false):
    ∃g':Gh,g'.n=g.n∧g'.bx=g.bx∧(∀ k,g.ro k→g'.ro k)∧(∀ k,g.rf id k→aP st id→g'.ro k)∧(∀ k,g'.ro k→g.ro k∨(aP st id∧g.rf id k))∧(∀ aH,aH≠id→g'.rf aH=g.rf aH)∧
      Inv w0 Mf g' { st with roots:=aX st.roots id (.live { ro with md:= .Er }) } a w∧∀c v,aZ w g st c v→aZ w g' { st with roots:=aX st.roots id (.live { ro with md:= .Er }) } c v:=by
 let G:Nat→Prop:=fun k=>g.ro k∨(aP st id∧g.rf id k)
 have fw:∀q,(∀ D∈([]:List Nat),q.length≤D)→g.rv id q=g.rv id q∧∀s,aR ro.t ro.xs q=some s→∃s',aR ro.t ro.xs q=some s'∧s'.t=s.t∧s'.xs.length=s.xs.length:=
  fun q _=>⟨rfl,fun s hs=>⟨s,hs,rfl,rfl⟩⟩
 refine ⟨(({ g with ro:=G }:Gh).b8 id (g.rv id) fun _=>False),rfl,rfl,fun k=> .inl,fun k h1 h2=> .inr ⟨h2,h1⟩,fun k h=>h,fun aH hn=>by simp [Gh.b8,hn],?_,fun c v hc=> ?_⟩
 ·refine I.jI (ro':={ ro with md:= .Er }) (G:=G) (.inl h) (bH.refl w) I.kept (fun k h=>h.elim) (fun k=> .inl) (fun aH k h1 h2 h3 h4=> ?_) (fun b hb h4=> ?_) (fun k h4=> ?_) (fun k h4=> ?_) rfl rfl (l:=[]) (by simp) fw ?_ (fun k h=>h.elim)
  ·rcases h4 with h4 | ⟨h4,h5⟩
   ·exact I.apart.dZ aH k h1 h3 h4
   ·exact h2 (I.apart.rr aH id k h1 h4 h3 h5)
  ·rcases h4 with h4 | ⟨h4,h5⟩
   ·exact I.apart.fL b hb h4
   ·exact I.apart.rb id b h4 hb h5
  ·rcases h4 with h4 | ⟨h4,h5⟩
   ·exact I.apart.c7 k h4
   ·exact I.apart.eb id k h4 h5
  ·rcases h4 with h4 | ⟨h4,h5⟩
   ·exact I.apart.bU k h4
   ·exact .inr (I.apart.ck id k h4 h5)
  ·unfold aS
   simp only [Gh.b8,if_true]
   exact I.Tv h (by cases hq:ro.md<;>simp_all [Md.jG,Md.cW]) (fun k=> .inl) (fun h1 k h2=> .inr ⟨h1,h2⟩)
 ·exact ⟨hc.1,lQ.jI (g:={ g with ro:=G }) (ro':={ ro with md:= .Er }) (.inl h) rfl rfl (l:=[]) (by simp) fw (hc.2.ro fun k=> .inl)⟩
structure YP (w:World) (g:Gh) (st:St) (g':Gh) (aE:St) (ids:List Nat) (u:List (Nat×Rt)):Prop where
 n:g'.n=g.n
 bx:g'.bx=g.bx
 ro:∀k,g.ro k→g'.ro k
 src:∀k,g'.ro k→g.ro k∨∃id∈ids,aP st id∧g.rf id k
 all:∀id∈ids,aP st id→∀k,g.rf id k→g'.ro k
 eq:aE={ st with roots:=cg st.roots u }
 own:∀id,aP aE id→aP st id∧g'.rf id=g.rf id
 map:∀c v,aZ w g st c v→aZ w g' aE c v
theorem Inv.freeze:∀ {ids:List Nat} {g:Gh} {st:St} {k:St→List (Nat×Rt)→Option R} {r:R},Inv w0 Mf g st a w→freeze st ids k=some r→∃g' aE u,k aE u=some r∧Inv w0 Mf g' aE a w∧YP w g st g' aE ids u
 | [],g,st,k,r,I,h=>⟨g,st,[],h,I,rfl,rfl,fun _ h=>h,fun _=> .inl,fun _ h=>by simp at h,rfl,fun _ h=>⟨h,rfl⟩,fun _ _ h=>h⟩
 | id::ids,g,st,k,r,I,h=>by
  simp only [Gm.freeze] at h
  split at h
  ·rename_i ro cZ
   obtain ⟨xe,h⟩:ro.md.cW=false∧_:=by
    cases hq:ro.md.cW
    ·rw [hq] at h;exact ⟨rfl,h⟩
    ·rw [hq] at h;cases h
   obtain ⟨g1,e1,e2,e3,e4,e5,e6,I1,hm⟩:=I.xP cZ xe
   obtain ⟨g',aE,u,h1,h2,h3⟩:=Inv.freeze I1 h
   have ho:∀aH,aP { st with roots:=aX st.roots id (.live { ro with md:= .Er }) } aH→aH≠id∧aP st aH:=fun aH ⟨r',h4,h5⟩=>by
    simp only [aF] at h4
    by_cases e:aH=id
    ·simp only [e,if_true,Option.some.injEq,Rt.live.injEq] at h4
     subst h4;cases h5
    ·exact ⟨e,r',by simpa [e] using h4,h5⟩
   refine ⟨g',aE,_,h1,h2,h3.n.trans e1,h3.bx.trans e2,fun k hk=>h3.ro k (e3 k hk),fun k hk=> ?_,fun aH hid cU k hk=> ?_,by rw [h3.eq];rfl,fun aH hi=> ?_,fun c v hc=>h3.map c v (hm c v hc)⟩
   ·rcases h3.src k hk with h4 | ⟨aH,h4,h5,h6⟩
    ·rcases e5 k h4 with h5 | h5
     ·exact .inl h5
     ·exact .inr ⟨id,by simp,h5⟩
    ·obtain ⟨h7,h8⟩:=ho aH h5
     rw [e6 aH h7] at h6
     exact .inr ⟨aH,by simp [h4],h8,h6⟩
   ·by_cases e:aH=id
    ·subst e;exact h3.ro k (e4 k hk cU)
    ·have It:aH∈ids:=by simpa [e] using hid
     obtain ⟨r',h4,h5⟩:=cU
     exact h3.all aH It ⟨r',by simp only [bX _ _ e];exact h4,h5⟩ k (by rw [e6 aH e];exact hk)
   ·obtain ⟨h4,h5⟩:=h3.own aH hi
    obtain ⟨h6,h7⟩:=ho aH h4
    exact ⟨h7,h5.trans (e6 aH h6)⟩
  ·rename_i tR
   obtain ⟨g',aE,u,h1,h2,h3⟩:=Inv.freeze I h
   refine ⟨g',aE,u,h1,h2,h3.n,h3.bx,h3.ro,fun k hk=>(h3.src k hk).imp (fun h=>h) fun ⟨aH,h4,h5⟩=>⟨aH,by simp [h4],h5⟩,fun aH hid cU k hk=> ?_,h3.eq,h3.own,h3.map⟩
   by_cases e:aH=id
   ·subst e
    obtain ⟨r',h4,_⟩:=cU
    exact (tR r' h4).elim
   ·exact h3.all aH (by simpa [e] using hid) cU k hk
end Go.Gm
