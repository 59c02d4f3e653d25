/- The G-machine, part 4: an evaluator of translated code on typed values, and that it is sound. No conditions. -/
import Derived.Test.YtalnkjjnohgjkaaGreatGm3
import Derived.Laws.Sem
import Derived.Laws.StructEq
import Derived.KernelRfl
import Derived.Lib.Bytealg
import Derived.Laws.Strings
import Derived.Laws.BitsLemmas
import Derived.DataReads
import Derived.ChangeArms
import Derived.ChangeShapes
import Derived.ChangeMaps5
import Derived.Carry
import Derived.ChangeCalls
import Derived.RowKit3
import Derived.Shelf.Strings.OnBuilder
import Derived.Laws.CopyRow
import Derived.Deep.RegionLaw
import Derived.Below
import Derived.Laws.Cover4
import Derived.Lib.AppendZerosOnto
import Derived.Lib.Overlaps
import Derived.Sort.Row
import Derived.Sort.Grow
import Derived.Sort.EncStr
import Derived.Lib.SlicesCompact
namespace Go.Gm
open Go
variable {wl : World} {R : Type} {P : Program} {E : Env} {w0 w w' : World} {Mf : Nat → Prop} {g : Gh} {st : St} {a : Act}
theorem CW{N M:Nat}{ps:List Nat}(hNM:N≤M):∀{c:Code},codeOk N ps c=true→codeOk M ps c=true:=by
 have ops:∀{l:List Oper},zI N ps l=true→zI M ps l=true:=by
  intro l h
  simp only[zI,List.all_eq_true] at h ⊢
  intro o ho
  have:=h o ho
  cases hd:o.dst with
  |none=>rfl
  |some d=>
   rw[hd] at this
   simp only[Bool.and_eq_true] at this ⊢
   refine⟨?_,this.2⟩
   have h1:=this.1
   rw[Nat.blt_eq] at h1 ⊢
   omega
 intro c
 induction c with
 |region id o d=>exact ops
 |seq a b iha ihb=>intro h;simp only[codeOk,Bool.and_eq_true] at h ⊢;exact⟨iha h.1,ihb h.2⟩
 |cond x a b iha ihb=>intro h;simp only[codeOk,Bool.and_eq_true] at h ⊢;exact⟨iha h.1,ihb h.2⟩
 |block id c ih=>intro h;simp only[codeOk] at h ⊢;exact ih h
 |loop c ih=>intro h;simp only[codeOk] at h ⊢;exact ih h
 |_=>intro h;rfl
def lX(own:Bool)(p:Bool):Am:=cond p .bG (cond own .oh .ro)
theorem k9.len:∀{l:List (Nat×Sv)}{us:List Value},k9 w g st l us→us.length=l.length
 | [],[],_=>rfl
 | [],_::_,h=>h.elim
 |_::_,[],h=>h.elim
 |_::_,_::_,h=>by simp[k9.len h.2]
def pA(tmps:Array Value):ResultVar→Sem Value
 | .tmp t=>pure (tmps.getD t undef)
 | .cell x t=>do loadVar t (← asAddr (tmps.getD x undef))
theorem mB(hE:E.Ok P)(I:Inv w0 Mf g st a w){own:Bool}:∀{SI:List ResultVar}{ps:List Bool}{Ts:List Nat}{k:List (Am×Nat×Sv)→Option R}{r:R},hC E st own SI ps Ts k=some r→
    ∃l vs,k l=some r∧(SI.mapM (pA a.tmps)).run P w = .ok vs w∧k9 w g st (l.map (·.2)) vs∧l.map (·.1)=ps.map (lX own)
 | [],[],[],k,r,h=>⟨[],[],h,by simp[Sem.run_pure],trivial,rfl⟩
 | .tmp t::SI,p::ps,T::Ts,k,r,h=>by
  simp only[hC] at h
  obtain⟨s,hs,h⟩:=aT h
  obtain⟨l,vs,h1,h2,h3,h4⟩:=mB hE I h
  obtain⟨u,hu,hr⟩:=I.ay t s hs
  refine⟨_,u::vs,h1,?_,⟨hr,h3⟩,by simp[h4,lX]⟩
  have yu:a.tmps.getD t undef=u:=by simp[hu]
  simp only[List.mapM_cons,Sem.run_bind,pA,Sem.run_pure,Result.andThen_ok,h2,yu]
 | .cell x T'::SI,false::ps,_::Ts,k,r,h=>by
  simp only[hC] at h
  split at h
  case h_2=>cases h
  rename_i b hs
  obtain⟨y,hy,h⟩:=aT h
  obtain⟨t,ht,h⟩:=aT h
  obtain⟨hlen,h⟩:=bh h
  have hlen:=iC hlen
  obtain⟨c,hc,h⟩:=aT h
  obtain⟨l,vs,h1,h2,h3,h4⟩:=mB hE I h
  obtain⟨u,hu,hr⟩:=I.ay x _ hs
  have hp:u = .pointer (some ⟨g.bx b,0,none⟩):=hr.2.1
  subst hp
  obtain⟨us,el,hb,fq⟩:=I.boxes b y hy
  have dy:us.size=y.cs.length:=fq.1
  have hex:us.extract 0 (0+ar t)=us:=by
   rw[Nat.zero_add,hlen,←dy];simp
  obtain⟨v,hv,eU⟩:=tH (P:=P) (w:=w) hE ht (off:=0) hb (by omega) (fun j v hj=>by rw[hex] at hj;exact fq.flat j v hj)
  rw[hex] at eU
  obtain⟨v',eL,AB⟩:=Form.of hc fq
  have:=eU.uniq eL
  subst this
  refine⟨_,v::vs,h1,?_,⟨AB,h3⟩,by simp[h4,lX]⟩
  have yu:a.tmps.getD x undef = .pointer (some ⟨g.bx b,0,none⟩):=by simp[hu]
  simp only[List.mapM_cons,Sem.run_bind,pA,yu,asAddr,Sem.run_pure,Result.andThen_ok,hv,h2]
 | [],[],_::_,k,r,h=>by simp[hC] at h
 | [],_::_,_,k,r,h=>by simp[hC] at h
 | .tmp _::_,[],_,k,r,h=>by simp[hC] at h
 | .tmp _::_,_::_,[],k,r,h=>by simp[hC] at h
 | .cell _ _::_,[],_,k,r,h=>by simp[hC] at h
 | .cell _ _::_,true::_,_,k,r,h=>by simp[hC] at h
 | .cell _ _::_,false::_,[],k,r,h=>by simp[hC] at h
theorem CX{fn:Func}{tmps:Array Value}{vs:List Value}(h:(fn.results.toList.mapM (pA tmps)).run P w = .ok vs w):(results fn tmps).run P w = .ok (vq vs) w:=by
 have e:results fn tmps=(do let vs←fn.results.mapM (pA tmps);pure (if h:vs.size=1 then vs[0] else .tuple vs)):=by
  unfold results
  congr
 rw[e,Array.mapM_eq_mapM_toList]
 simp only[Sem.run_bind,map_eq_pure_bind,bind_assoc,h,Result.andThen_ok,pure_bind,Sem.run_pure]
 cases vs with
 |nil=>rfl
 |cons v vs=>
  cases vs with
  |nil=>rfl
  |cons v' vs=>simp[vq]
def gI:Am→Bool | .mut | .bG=>true | _=>false
def iF:List Am→List Value→List Value
 |m::ms,u::us=>if gI m then u::iF ms us else iF ms us
 |_,_=>[]
theorem mC(I:Inv w0 Mf g st a w):∀{ms:List Am}{us:List Value}{j:Nat}{k:List (Am×Nat×Sv)→Option R}{r:R},ms.length=us.length→(∀ i∈stays j ms,∀n,i=j+n→a.tmps[i]? =us[n]?)→nH st j ms k=some r→
    ∃l,k l=some r∧k9 w g st (l.map (·.2)) (iF ms us)∧l.map (·.1)=ms.filter gI
 | [],us,j,k,r,hl,hs,h=>by
  cases us with
  |nil=>exact⟨[],h,trivial,rfl⟩
  |cons _ _=>simp at hl
 |m::ms,EP,j,k,r,hl,hs,h=>by
  cases EP with
  |nil=>simp at hl
  |cons u us=>
   have CY:ms.length=us.length:=by simpa using hl
   have skip:stays j (m::ms)=stays (j+1) ms→gI m=false→nH st (j+1) ms k=some r→∃l,k l=some r∧k9 w g st (l.map (·.2)) (iF (m::ms) (u::us))∧l.map (·.1)=(m::ms).filter gI:=by
    intro e hb h
    obtain⟨l,h1,h2,h3⟩:=mC I CY (fun i hi n hn=>by
     have:=hs i (by rw[e];exact hi) (n+1) (by omega)
     simpa using this) h
    exact⟨l,h1,by simpa [iF,hb] using h2,by simpa [hb] using h3⟩
   have take:stays j (m::ms)=j::stays (j+1) ms→gI m=true→((au st.ay j).bind fun s=>nH st (j+1) ms fun l=>k ((m,0,s)::l))=some r→
     ∃l,k l=some r∧k9 w g st (l.map (·.2)) (iF (m::ms) (u::us))∧l.map (·.1)=(m::ms).filter gI:=by
    intro e hb h
    obtain⟨s,adO,h⟩:=aT h
    obtain⟨l,h1,h2,h3⟩:=mC I CY (fun i hi n hn=>by
     have:=hs i (by rw[e];exact List.mem_cons_of_mem _ hi) (n+1) (by omega)
     simpa using this) h
    obtain⟨v,hv,hr⟩:=I.ay j s adO
    have hu:=hs j (by rw[e];simp) 0 (by omega)
    rw[hv] at hu
    have hvu:v=u:=by simpa using hu
    subst hvu
    exact⟨_,h1,by simpa [iF,hb,k9] using ⟨hr,h2⟩,by simp[hb,h3]⟩
   cases m with
   |ro=>exact skip rfl rfl h
   |oh=>exact skip rfl rfl h
   |D'=>exact skip rfl rfl h
   |fn=>exact skip rfl rfl h
   |SO=>exact skip rfl rfl h
   |kp=>exact skip rfl rfl h
   | «mut» =>exact take rfl rfl h
   |bG=>exact take rfl rfl h
theorem cP.split{Pr:Nat→Prop}:∀{m1 m2:List Am}{ds:List Dt}{us:List Value}{Fs:List (Nat→Prop)},cP wl w Pr (m1++m2) ds us Fs→
    cP wl w Pr m1 (ds.take m1.length) (us.take m1.length) (Fs.take m1.length)∧cP wl w Pr m2 (ds.drop m1.length) (us.drop m1.length) (Fs.drop m1.length)
 | [],m2,ds,us,Fs,h=>⟨by simpa using cP.nil,by simpa using h⟩
 |m::m1,m2,_,_,_,h=>by
  cases h with
  |cons h hs=>
   obtain⟨h1,h2⟩:=cP.split hs
   exact⟨.cons h h1,h2⟩
theorem wq{Pr:Nat→Prop}:∀{ps:List Bool}{ds:List Dt}{us:List Value}{Fs:List (Nat→Prop)},cP wl w Pr (ps.map (lX true)) ds us Fs→iB wl w true ps ds us Fs
 | [],_,_,_,h=>by cases h;exact .nil
 |p::ps,_,_,_,h=>by
  cases h with
  |cons h hs=>
   rename_i d ds u us F Fs
   cases p with
   |true=>
    cases d with
    |fi _ _=>cases h
    |d t x=>exact .ptr ⟨rfl,h⟩ (wq hs)
   |false=>
    cases d with
    |fi _ _=>cases h
    |d t x=>exact .val (by simpa using (show je w F t x u from h)) (wq hs)
theorem Hr{Pr:Nat→Prop}:∀{ps:List Bool}{ds:List Dt}{us:List Value}{Fs:List (Nat→Prop)},ps.all (fun p=> !p)=true→cP wl w Pr (ps.map (lX false)) ds us Fs→iB wl w false ps ds us (ps.map fun _=>Pr)
 | [],_,_,_,_,h=>by cases h;exact .nil
 |p::ps,_,_,_,hp,h=>by
  simp only[List.all_cons,Bool.and_eq_true] at hp
  cases h with
  |cons h hs=>
   rename_i d ds u us F Fs
   cases p with
   |true=>cases hp.1
   |false=>
    cases d with
    |fi _ _=>cases h
    |d t x=>exact .val (by simpa using (show ox w Pr t x u from h)) (Hr hp.2 hs)
theorem jn{Pr:Nat→Prop}:∀{ms:List Am}{qq ds:List Dt}{us:List Value}{Fs:List (Nat→Prop)},ms.length=us.length→cA ms qq ds=true→cP wl w Pr (ms.filter gI) ds (iF ms us) Fs→ey wl w ms qq us ds Fs
 | [],qq,ds,us,Fs,hl,hc,h=>by
  cases us with
  |cons _ _=>simp at hl
  |nil=>
   cases h
   cases qq with
   |nil=>exact .nil
   |cons _ _=>simp[cA] at hc
 |m::ms,qq,ds,EP,Fs,hl,hc,h=>by
  cases EP with
  |nil=>simp at hl
  |cons u us=>
   have CY:ms.length=us.length:=by simpa using hl
   cases m with
   |ro=>cases qq with
    |nil=>simp[cA] at hc
    |cons d0 E8=>exact .skip trivial (jn CY (by simpa [cA] using hc) h)
   |oh=>cases qq with
    |nil=>simp[cA] at hc
    |cons d0 E8=>exact .skip trivial (jn CY (by simpa [cA] using hc) h)
   |D'=>cases qq with
    |nil=>simp[cA] at hc
    |cons d0 E8=>exact .skip trivial (jn CY (by simpa [cA] using hc) h)
   |fn=>cases qq with
    |nil=>simp[cA] at hc
    |cons d0 E8=>exact .skip trivial (jn CY (by simpa [cA] using hc) h)
   |SO=>cases qq with
    |nil=>simp[cA] at hc
    |cons d0 E8=>exact .skip trivial (jn CY (by simpa [cA] using hc) h)
   |kp=>cases qq with
    |nil=>simp[cA] at hc
    |cons d0 E8=>exact .skip trivial (jn CY (by simpa [cA] using hc) h)
   | «mut» =>
    have h:cP wl w Pr (.mut::ms.filter gI) ds (u::iF ms us) Fs:=h
    cases h with
    |cons h1 hs=>
     rename_i d ds F Fs
     cases d with
     |fi _ _=>cases h1
     |d t x=>
      obtain⟨e,xs,heq,hO⟩:=h1
      cases heq
      cases qq with
      |nil=>simp[cA] at hc
      |cons d0 E8=>exact .mut hO (jn CY (by simpa [cA] using hc) hs)
   |bG=>
    have h:cP wl w Pr (.bG::ms.filter gI) ds (u::iF ms us) Fs:=h
    cases h with
    |cons h1 hs=>
     rename_i d ds F Fs
     cases d with
     |fi _ _=>cases h1
     |d t x=>
      cases qq with
      |nil=>simp[cA] at hc
      |cons d0 E8=>
       cases d0 with
       |fi _ _=>simp[cA] at hc
       |d t0 x0=>
        simp only[cA,Bool.and_eq_true] at hc
        exact .bG h1 (iC hc.1) (jn CY hc.2 hs)
theorem Kept.mono{M N:Nat→Prop}(h:Kept w w' M)(hMN:∀k,M k→N k):Kept w w' N:=
 ⟨h.os,h.tape,h.output,⟨h.same.1,fun b hb hx=>h.same.2 b hb fun hm=>hx (hMN b hm)⟩⟩
theorem cP.len{ROa:Nat→Prop}{ms:List Am}{ds:List Dt}{us:List Value}{Fs:List (Nat→Prop)}(h:cP wl w ROa ms ds us Fs):ms.length=us.length∧ds.length=us.length∧Fs.length=us.length:=by
 induction h with
 |nil=>exact⟨rfl,rfl,rfl⟩
 |cons h hs ih=>exact⟨by simp[ih.1],by simp[ih.2.1],by simp[ih.2.2]⟩
theorem k9.Ht:∀{l m:List (Nat×Sv)}{us vs:List Value},k9 w g st l us→k9 w g st m vs→k9 w g st (l++m) (us++vs)
 | [],_,[],_,_,h=>h
 | [],_,_::_,_,h,_=>h.elim
 |_::_,_,[],_,h,_=>h.elim
 |_::_,_,_::_,_,h,h'=>⟨h.1,k9.Ht h.2 h'⟩
theorem k9.arg:∀{l:List (Am×Nat×Sv)}{us:List Value},k9 w g st (l.map (·.2)) us→ArgRel w g st l us
  | [],[],_=>trivial
  | [],_::_,h=>h.elim
  |_::_,[],h=>h.elim
  | (_,_,_)::_,_::_,h=>⟨h.1,k9.arg h.2⟩
theorem Jm(hE:E.Ok P){Y8 ROa:Nat→Prop}(I:Inv w Y8 g st a w')(hn:g.n.r0=ROa∧g.n.wl=wl){s:Spec}{fn:Func}{ds:List Dt}{us:List Value}(hl:s.bR.length=us.length)
 (hM:∀k,Y8 k→Mf k) (hM0:s.bR.all Am.reads=true→∀k,¬Y8 k) {k:Kt R} {r:R} {l1 l2:List (Am×Nat×Sv)} {vs:List Value}
 (df:(fn.results.toList.mapM (pA a.tmps)).run P w' = .ok vs w') (hS1:k9 w' g st (l1.map (·.2)) vs) (SJ:l1.map (·.1)=s.res.map (lX s.own)) (hS2:k9 w' g st (l2.map (·.2)) (iF s.bR us)) (G7:l2.map (·.1)=s.bR.filter gI)
 (h:(cond (s.own||(s.bR.all Am.reads&&((s.res.all fun p=> !p)&&l1.all fun a=>a.2.2.cells.all fun c=>c.names.1.isEmpty)))
 (Gm.dH E (l1++l2) st fun outs _ _ _=>cond (cA s.bR ds (outs.drop l1.length)) (k outs) none) none)=some r):
    ∃v,(results fn a.tmps).run P w' = .ok v w'∧∃outs,k outs=some r∧pV wl w w' Mf ROa s ds us outs (.returned v):=by
 obtain⟨hn,hwl⟩:=hn
 subst hwl
 obtain⟨lA,h⟩:=bh h
 simp only[Bool.or_eq_true,Bool.and_eq_true] at lA
 refine⟨vq vs,CX df,?_⟩
 have hS:k9 w' g st ((l1++l2).map (·.2)) (vs++iF s.bR us):=by rw[List.map_append];exact hS1.Ht hS2
 have Tt:(l1++l2).map (·.1)=s.res.map (lX s.own)++s.bR.filter gI:=by rw[List.map_append,SJ,G7]
 obtain⟨bz,I1,hh⟩:=I.dH (E:=E) (k9.arg hS) h
 let ids:=zt ((l1++l2).map (·.2))
 have Y9:s.own=false→l2=[]:=fun ho=>by
  have:=(lA.resolve_left (by simp[ho])).1
  have hf:s.bR.filter gI=[]:=by
   rw[List.filter_eq_nil_iff]
   intro m hm hb
   have:=List.all_eq_true.1 this m hm
   cases m<;>simp[Am.reads,gI] at this hb
  rw[hf] at G7
  exact List.map_eq_nil_iff.1 G7
 obtain⟨outs,bs,d,Fs,Hs,h,hA,hH,L,KK,ob⟩:=hh (Reach g bz s.own ids) (fun x hx _=>by
  refine CC (args:=(l1++l2).map (·.2)) ?_ (List.mem_map.2 ⟨x,hx,rfl⟩)
  cases ho:s.own with
  |true=>exact .inl rfl
  |false=>
   refine .inr fun y hy c hc=> ?_
   rw[Y9 ho,List.append_nil] at hy
   obtain⟨z,hz,rfl⟩:=List.mem_map.1 hy
   have:=(lA.resolve_left (by simp[ho])).2.2
   simp only[List.all_eq_true,List.isEmpty_iff] at this
   exact this z hz c hc)
 rw[Tt] at hA hH
 obtain⟨Tl,eC,_⟩:=hH.sub KK
 obtain⟨adP,h⟩:=bh h
 refine⟨outs,h,?_⟩
 obtain⟨vQ,SF⟩:=hA.split
 have Ec:(s.res.map (lX s.own)).length=s.res.length:=by simp
 have SE:vs.length=s.res.length:=by
  have h1:=hS1.len
  have h2:=congrArg List.length SJ
  simp only[List.length_map] at h1 h2
  omega
 have pZ:l1.length=s.res.length:=by
  have:=congrArg List.length SJ
  simpa using this
 rw[Ec] at vQ SF
 rw[pZ] at adP
 have YH:(vs++iF s.bR us).take s.res.length=vs:=by rw[← SE];simp
 have hu2:(vs++iF s.bR us).drop s.res.length=iF s.bR us:=by rw[← SE];simp
 rw[YH] at vQ
 rw[hu2] at SF
 have hB:=jn hl adP SF
 have k7:∀F∈Fs,∀n,F n→Any Hs n:=fun F hF n hn=>eC n ⟨F,hF,hn⟩
 have CZ:∀F∈Fs.drop s.res.length,F∈Fs:=fun F hF=>List.mem_of_mem_drop hF
 have Xv:∀F∈Fs.take s.res.length,F∈Fs:=fun F hF=>List.mem_of_mem_take hF
 have aii:bS (Fs.take s.res.length++Fs.drop s.res.length):=by rw[List.take_append_drop];exact Tl
 obtain⟨uX,tL,hp3⟩:=List.pairwise_append.1 aii
 have gZ:∀F∈Fs,∀n,F n→Mf n∨w.heap.size≤n:=fun F hF n hn=>((I.gG L (k7 F hF n hn)).1.ib).elim .inr fun h=> .inl (hM n h)
 have Y':∀F∈Fs,∀n,F n→n<w'.heap.size:=fun F hF n hn=>(I.gG L (k7 F hF n hn)).2
 have kept:Kept w w' Mf:=I.kept.mono hM
 cases ho:s.own with
 |true=>
  rw[ho] at vQ
  refine⟨⟨vs,Fs.take s.res.length,Fs.drop s.res.length,rfl,by rw[ho];exact wq vQ,hB,tL,fun B EO=>gZ B (CZ B EO),fun _=>⟨uX,fun G hG=>gZ G (Xv G hG)⟩,fun e=>by simp[ho] at e,
   fun G hG B EO n hg hb=>hp3 G hG B EO n hg hb,fun G hG=>Y' G (Xv G hG),fun B EO=>Y' B (CZ B EO)⟩,kept⟩
 |false=>
  rw[ho] at vQ
  obtain⟨Xw,aij,_⟩:=lA.resolve_left (by simp[ho])
  have hG:∀G∈s.res.map (fun _=>Reach g bz false ids),∀n,G n→Reach g bz false ids n:=fun G hG n hn=>by
   obtain⟨_,_,rfl⟩:=List.mem_map.1 hG;exact hn
  refine⟨⟨vs,s.res.map (fun _=>Reach g bz false ids),Fs.drop s.res.length,rfl,?_,hB,tL,fun B EO=>gZ B (CZ B EO),fun e=>by simp[ho] at e,fun _ G qT n hgn=> ?_,
   fun G qT B EO n hg hb=>(I.reach I1 L (hG G qT n hg)).1 (k7 B (CZ B EO) n hb),fun G qT n hg=>(I.reach I1 L (hG G qT n hg)).2,fun B EO=>Y' B (CZ B EO)⟩,kept⟩
  ·rw[ho]
   exact Hr aij vQ
  ·rcases hG G qT n (by assumption) with h1 | ⟨_,id,_,h2,h3⟩ | ⟨e,_⟩
   ·rcases I.apart.bY n h1 with h4 | h4 | h4
    ·rw[hn] at h4;exact .inl h4
    ·exact .inr h4
    ·exact (hM0 Xw n h4).elim
   ·rcases I1.apart.cp id n h2 h3 with h4 | h4
    ·exact .inr h4
    ·exact (hM0 Xw n h4).elim
   ·cases e
theorem E9(hE:E.Ok P){Y8 ROa:Nat→Prop}(I:Inv w Y8 g st a w')(hn:g.n.r0=ROa∧g.n.wl=wl){s:Spec}{fn:Func}{Ts:List Nat}{ds:List Dt}{us:List Value}(hl:s.bR.length=us.length)
 (adQ:∀j∈stays 0 s.bR,a.tmps[j]? =us[j]?) (hM:∀k,Y8 k→Mf k) (hM0:s.bR.all Am.reads=true→∀k,¬Y8 k) {k:Kt R} {r:R}
 (h:wo E s.bR s.res s.own fn.results.toList Ts ds st k=some r):
    ∃v,(results fn a.tmps).run P w' = .ok v w'∧∃outs,k outs=some r∧pV wl w w' Mf ROa s ds us outs (.returned v):=by
 unfold wo at h
 obtain⟨l1,vs,h,df,hS1,SJ⟩:=mB hE I h
 obtain⟨l2,h,hS2,G7⟩:=mC I (us:=us) hl (fun i hi n k7=>by rw[adQ i hi];congr 1;omega) h
 exact Jm hE I hn hl hM hM0 df hS1 SJ hS2 G7 h
theorem fn_sound(hE:E.Ok P)(hN:E.mA){f:Nat}{fn:Func}{c:Code}(hf:P.funcs[f]? =some fn)(hb:fn.body=some c)(s:Spec)(mX:s.shape=[])(Ts:List Nat)(L5:codeOk fn.ntmps (stays 0 s.bR) c=true)
 (df:∀{R:Type}(ds:List Dt)(k:Kt R)(r:R),s.fn ds k=some r→∃keep rounds,aG E keep rounds c s.bR s.res s.own fn.results.toList Ts ds k=some r):bW P f s:=by
  intro R ds k r h wl w us Mf ROa Fs TE Za hA hp E' Xx C0 pP
  obtain⟨keep,rounds,h⟩:=df ds k r h
  unfold aG at h
  obtain⟨pZ,_,_⟩:=hA.len
  rw[mX]
  show Calls P f us.toArray w _
  refine calls_of_wp hf hb ?_
  let a0:Act:={ tmps:=us.toArray++Array.replicate (fn.ntmps-us.toArray.size) undef,defers:=[] }
  let F0:Fx:=⟨a0.tmps.size,ROa,wl⟩
  let g0:Gh:={ rv:=fun _ _=>undef,rf:=fun _ _=>False,bx:=fun _=>0,ro:=ROa,n:=F0 }
  have dy:fn.ntmps≤F0.sz:=by
    show fn.ntmps≤(us.toArray++Array.replicate (fn.ntmps-us.toArray.size) undef).size
    simp;omega
  have Hu:∀n,oM s.bR Fs n→Mf n:=fun n hg=>by obtain⟨F,hF,h⟩:=hg.any;exact E' F hF n h
  have noO:∀id,¬aS ⟨[],[],[]⟩ id:=fun id ⟨r,h,_⟩=>by simp[au] at h
  have noB:∀b,¬bB ⟨[],[],[]⟩ b:=fun b h=>by simp[bB,au] at h
  have I0:Inv w (oM s.bR Fs) g0 ⟨[],[],[]⟩ a0 w:=
    { ay:=fun s sv h=>by simp[au] at h
      boxes:=fun b x h=>by simp[au] at h
      roots:=fun id r h=>by simp[au] at h
      apart:={
        rr:=fun id aJ k h=>(noO id h).elim
        rb:=fun id b h=>(noO id h).elim
        bb:=fun b b' h=>(noB b h).elim
        eu:=fun id k h=>(noO id h).elim
        gD:=fun b h=>(noB b h).elim
        cp:=fun id k h=>(noO id h).elim
        dL:=fun b h=>(noB b h).elim
        ew:=fun id k h=>(noO id h).elim
        db:=C0
        bY:=fun k h=> .inl h }
      kept:=⟨rfl,rfl,rfl,Nat.le_refl _,fun _ _ _=>rfl⟩
      defers:=rfl
      size:=rfl
      base:=⟨Za,fun k h hg=>Xx k h (Hu k hg),fun k h=>h⟩ }
  have tG:∀(i:Nat) u,us[i]? =some u→a0.tmps[0+i]? =some u:=fun i u hu=>by
    have hi:i<us.length:=by
      rcases Nat.lt_or_ge i us.length with h' | h'
      · exact h'
      · simp[List.getElem?_eq_none h'] at hu
    show (us.toArray++Array.replicate (fn.ntmps-us.toArray.size) undef)[0+i]? =some u
    rw[Nat.zero_add,Array.getElem?_append_left (by simpa using hi)]
    simpa using hu
  obtain⟨g1,bz,h,hg1,I1⟩:=oN (ROa:=ROa) I0 tG hA hp (fun n hg=>⟨⟨fun id h=>(noO id h).elim,fun h=>Xx n h (Hu n hg),fun b h=>(noB b h).elim,.inr hg⟩,pP n (Hu n hg)⟩) rfl h
  have Zb:L2 (stays 0 s.bR) (fun j=>us[j]?) a0.tmps:=by
    have AR:∀{ms:List Am}{j:Nat}{x:Nat},x∈stays j ms→x<j+ms.length:=by
      intro ms
      induction ms with
      |nil=>intro j x h;simp[stays] at h
      |cons m ms ih=>
        intro j x h
        cases m<;>simp only[stays,List.mem_cons] at h<;>first
          | (have:=ih h;simp only[List.length_cons];omega)
          | (rcases h with rfl | h
             · simp
             · have:=ih h;simp only[List.length_cons];omega)
    intro j hj
    have Es:=AR hj
    have bU:j<us.length:=by omega
    have:=tG j us[j] (by simp[bU])
    rw[Nat.zero_add] at this
    rw[this];simp[bU]
  refine L3 hE hN (F:=F0) TE c (CW dy L5) h hg1 I1 Zb fun e g' aF a' w' hk pY I' u6=> ?_
  have fin:wo E s.bR s.res s.own fn.results.toList Ts ds aF k=some r→a'.defers=[]∧∃v,(results fn a'.tmps).run P w' = .ok v w'∧∃outs,k outs=some r∧pV wl w w' Mf ROa s ds us outs (.returned v):=fun hk=>
    ⟨I'.defers,E9 hE I' ⟨by rw[pY],by rw[pY]⟩ pZ u6 Hu (fun eV n hn=>oM.none eV hn) hk⟩
  cases e with
  |normal=>exact fin hk
  |ret=>exact fin hk
  |exit id=>cases hk
end Go.Gm
namespace Go.Gm
open Go
section
variable {R : Type}
def eP(E:Env)(keep:Nat→Kp)(n:Nat)(b:Code)(k:Kx R):Kx R:=fun e st=>match e with
 | .normal=>ev E keep n b st k
 |e=>k e st
def b8(id:Nat)(k:Kx R):Kx R:=fun e st=>match e with
 | .exit aJ=>cond (Nat.beq aJ id) (k .normal st) (k (.exit aJ) st)
 |e=>k e st
def aI(E:Env)(bR:List Am)(res:List Bool)(own:Bool)(SI:List ResultVar)(Ts:List Nat)(ds:List Dt)(k:Kt R):Kx R:=fun e st=>match e with
 | .exit _=>none
 |_=>wo E bR res own SI Ts ds st k
end
def bC:List Nat→Code→Code
 | [],c=>c
 |i::p,.seq a b=>cond (Nat.beq i 0) (bC p a) (bC p b)
 |i::p,.cond _ a b=>cond (Nat.beq i 0) (bC p a) (bC p b)
 |_::p,.block _ a=>bC p a
 |_::p,.loop a=>bC p a
 |_,c=>c
def fa:List Kp→Nat→Kp
 | [],_=>⟨[],[],[],[]⟩
 |a::r,n=>cond (Nat.beq n 0) a (fa r (n-1))
def bs(l:List Nat):BA:=⟨(l.map UInt8.ofNat).toArray⟩
def Spec.of(bR:List Am)(res:List Bool)(own:Bool)(q:Qt):Spec:=
  { bR,res,own,fn:=fun ds k=>match q ds with | some (g,outs)=>cond g (k outs) none | none=>none }
theorem Spec.ax(bR:List Am)(res:List Bool)(own:Bool)(q:Qt):(Spec.of bR res own q).mA:=by
 intro ds
 show ∃q':Option (List Dt),∀(R:Type)(k:Kt R),(match q ds with | some (g,outs)=>cond g (k outs) none | none=>none)=q'.bind k
 cases q ds with
 |none=>exact⟨none,fun _ _=>rfl⟩
 |some go=>
  obtain⟨g,outs⟩:=go
  cases g with
  |true=>exact⟨some outs,fun _ _=>rfl⟩
  |false=>exact⟨none,fun _ _=>rfl⟩
theorem Spec.rD{bR:List Am}{res:List Bool}{own:Bool}{q:Qt}{R:Type}{ds:List Dt}{k:Kt R}{r:R}(h:(Spec.of bR res own q).fn ds k=some r):
    ∃outs,q ds=some (true,outs)∧k outs=some r:=by
 have h:(match q ds with | some (g,outs)=>cond g (k outs) none | none=>none)=some r:=h
 cases hq:q ds with
 |none=>rw[hq] at h;cases h
 |some go=>
  obtain⟨g,outs⟩:=go
  rw[hq] at h
  obtain⟨h1,h2⟩:=bh h
  exact⟨outs,by rw[h1],h2⟩
theorem aD{P:Program}{E:Env}(hE:E.Ok P)(hN:E.mA){f:Nat}{fn:Func}(hf:P.funcs[f]? =some fn){c:Code}(hb:fn.body=some c){bR:List Am}{res:List Bool}{own:Bool}{q:Qt}(Ts:List Nat)
 (L5:codeOk fn.ntmps (stays 0 bR) c=true)
 (df:∀ds outs,q ds=some (true,outs)→∃keep rounds,∀{R:Type}(k:Kt R),aG E keep rounds c bR res own fn.results.toList Ts ds k=k outs):bW P f (Spec.of bR res own q):=by
 refine fn_sound hE hN hf hb _ rfl Ts L5 fun ds k r h=> ?_
 obtain⟨outs,hq,hk⟩:=Spec.rD h
 obtain⟨keep,rounds,he⟩:=df ds outs hq
 exact⟨keep,rounds,(he k).trans hk⟩
structure Ek where
 code:List (Nat×Ty)
 eqs:List (Nat×List Ty)
 yq:List (Nat×List (Nat×Nat))
def TF:List (Nat×Spec)→Nat→Option Spec
  | [],_=>none
  | (k,v)::r,n=>cond (Nat.beq n k) (some v) (TF r n)
def Ek.env(t:Ek)(l:List (Nat×Spec)):Env:=
  { code:=fun T=>au t.code T,eq:=fun T=>au t.eqs T,yq:=fun T f=>(au t.yq T).bind fun l=>l[f]?,spec:=fun f=>TF l f }
theorem wu:∀{l:List (Nat×Spec)}{f:Nat}{s:Spec},TF l f=some s→(f,s)∈l
  | (k,v)::r,f,s,h=>by
    simp only[TF] at h
    cases hb:Nat.beq f k with
    |true=>rw[hb] at h;cases h;rw[iC hb];simp
    |false=>rw[hb] at h;exact List.mem_cons_of_mem _ (wu h)
def Good(P : Program)(x : Nat × Spec): Prop := (bW P x.1 x.2 ∧ ∃ fn, P.funcs[x.1]? = some fn ∧ fn.body.isSome ∧ fn.name ≠ "runtime.NumGoroutine") ∧ x.2.mA
theorem Ek.cq(t:Ek){P:Program}{l:List (Nat×Spec)}(h:∀x∈l,Good P x):(t.env l).mA:=fun _ _ hs=>(h _ (wu hs)).2
structure Ek.Ok (t:Ek) (P:Program):Prop where
 info:∀x∈t.code,∃i zv,P.info? x.1=some i∧i.size=ar x.2∧i.bytes≤1024∧i.zero=some zv∧zv.cells=(dP x.2).toArray
 vv:∀x∈t.code,dt (t.env []) P x.1 x.2
 yq:∀x∈t.yq,∃fs:Array Field,P.underlying x.1=some (.struct fs)∧x.2=fs.toList.map (fun f=>(f.offset,f.type))∧(∀ y∈x.2,(au t.code y.2).isSome)∧(fs.toList.mapM (fun f=>(P.info? f.type).map fun i=>(f.offset,i.size))).isSome
 sts:∀x∈t.code,iZ x.2=true→x.1∈t.yq.map (·.1)
 eqs:∀x∈t.eqs,∀(us vs:Array Value)(e:Bool),nA x.2 us.toList vs.toList=some e→∀w,
  (Op.equal x.1 (.agg us) (.agg vs)).run P w = .ok e w∧(∀ op a b,(eqGuard op x.1 a b (.agg us) (.agg vs)).run P w = .ok () w)
 ord:P.follows .mixedOrders=true
theorem dt.env{t:Ek}{l:List (Nat×Spec)}{P:Program}{T:Nat}{ty:Ty}(h:dt (t.env []) P T ty):dt (t.env l) P T ty:=by
 unfold dt at *
 cases ty<;>exact h
theorem Ek.Ok.env{t:Ek}{P:Program}(h:t.Ok P){l:List (Nat×Spec)}(hl:∀x∈l,Good P x):(t.env l).Ok P:={
 info:=fun T ty hT=>h.info (T,ty) (e9 hT)
 vv:=fun T ty hT=>(h.vv (T,ty) (e9 hT)).env
 yq:=fun T f off ft hf=>by
  have hf:(au t.yq T).bind (fun l=>l[f]?)=some (off,ft):=hf
  obtain⟨L,hL,hf⟩:=Option.bind_eq_some_iff.1 hf
  obtain⟨fs,h1,h2,h3,_⟩:=h.yq (T,L) (e9 hL)
  have h2:L=fs.toList.map (fun f=>(f.offset,f.type)):=h2
  have hc:=h3 (off,ft) (List.mem_of_getElem? hf)
  obtain⟨ty,hty⟩:=Option.isSome_iff_exists.1 hc
  rw[h2] at hf
  obtain⟨fd,Yp,he⟩:∃fd,fs.toList[f]? =some fd∧(fd.offset,fd.type)=(off,ft):=by simpa using hf
  cases he
  exact⟨fs,fd,ty,h1,by simpa using Yp,rfl,rfl,hty⟩
 sts:=fun T fs hu hT=>by
  obtain⟨ty,hty⟩:=Option.isSome_iff_exists.1 hT
  have hm:=e9 (l:=t.code) hty
  have AK:=h.vv (T,ty) hm
  cases hs:iZ ty with
  |false=>
   exfalso
   cases ty with
   |i k=>have h1:P.underlying T=some (.int k):=AK;rw[hu] at h1;cases h1
   |bool=>have h1:P.underlying T=some .bool:=AK;rw[hu] at h1;cases h1
   |str=>have h1:P.underlying T=some .string:=AK;rw[hu] at h1;cases h1
   |sl e=>obtain⟨el,h1,_⟩:=(AK:∃el,P.underlying T=some (.slice el)∧(t.env []).code el=some e);rw[hu] at h1;cases h1
   |_=>cases hs
  |true=>
   have hk:=h.sts (T,ty) hm hs
   obtain⟨x,hx,he⟩:=List.mem_map.1 hk
   obtain⟨fs',h1,_,_,h4⟩:=h.yq x hx
   have he:x.1=T:=he
   rw[he,hu] at h1
   cases h1
   exact Option.isSome_iff_exists.1 h4
 spec:=fun f s hs=>(hl (f,s) (wu hs)).1
 eqs:=fun T ts hT=>h.eqs (T,ts) (e9 hT)
 ord:=h.ord }
def L6:Value→Value→Bool
 | .int k n,.int k' n'=>decide (k=k')&&decide (n=n')
 | .bool a,.bool b=>decide (a=b)
 | .string a,.string b=>decide (a.data=b.data)
 | .slice none 0 0,.slice none 0 0=>true
 |_,_=>false
theorem L7{u v:Value}(h:L6 u v=true):u=v:=by
 unfold L6 at h
 split at h
 ·simp only[Bool.and_eq_true,decide_eq_true_eq] at h;rw[h.1,h.2]
 ·simp only[decide_eq_true_eq] at h;rw[h]
 ·rename_i a b
  simp only[decide_eq_true_eq] at h
  cases a;cases b;cases h;rfl
 ·rfl
 ·cases h
def A5:List Value→List Value→Bool
 | [],[]=>true
 |u::us,v::vs=>L6 u v&&A5 us vs
 |_,_=>false
theorem zJ:∀{us vs:List Value},A5 us vs=true→us=vs
 | [],[],_=>rfl
 | [],_::_,h=>by cases h
 |_::_,[],h=>by cases h
 |u::us,v::vs,h=>by
  simp only[A5,Bool.and_eq_true] at h
  rw[L7 h.1,zJ h.2]
def Hv(P:Program)(x:Nat×Ty):Bool:=
  match P.info? x.1 with
 |some i=>Nat.beq i.size (ar x.2)&&(Nat.ble i.bytes 1024&&(match i.zero with | some zv=>A5 zv.cells.toList (dP x.2) | none=>false))
 |none=>false
theorem Fa{P:Program}{l:List (Nat×Ty)}(h:l.all (Hv P)=true):∀x∈l,∃i zv,P.info? x.1=some i∧i.size=ar x.2∧i.bytes≤1024∧i.zero=some zv∧zv.cells=(dP x.2).toArray:=by
 intro x hx
 have h:=List.all_eq_true.1 h x hx
 unfold Hv at h
 split at h
 ·rename_i i hi
  simp only[Bool.and_eq_true] at h
  obtain⟨h1,h2,h3⟩:=h
  split at h3
  ·rename_i zv hz
   exact⟨i,zv,hi,iC h1,iD h2,hz,by have:=zJ h3;apply Array.ext';simpa using this⟩
  ·cases h3
 ·cases h
theorem wv(i b:Nat):ov i b i b=true:=eX.2 (.inr ⟨rfl,Nat.le_refl _⟩)
end Go.Gm
namespace Go.Gm
open Go
variable {wl : World} {w w' : World} {Mf ROa : Nat → Prop}
theorem A6{Pr:Nat→Prop}{t:Ty}{x:El t}{v u:Value}(he:enc t x=[.v v])(hs:iZ t=false)(h:ox w Pr t x u):u=v:=by
 obtain⟨us,hf,hr⟩:=h
 obtain⟨e,_⟩:=hf.size hs
 subst e
 rw[he] at hr
 obtain⟨z,hz,hc⟩:=hr.2 0 (.v v) rfl
 have hz:u=z:=by simpa using hz
 rw[hz];exact hc
theorem L8{F:Nat→Prop}{t:Ty}{x:El t}{v:Value}(he:enc t x=[.v v])(hs:iZ t=false)(hf:cR v=true):je w F t x v:=by
 refine⟨#[v],by simp[Form,hs,hf],fun _ _=>False,fun _ _ h=>h.elim,fun _ _ _ h=>h.elim,by simp[he],fun j c hc=> ?_⟩
 rw[he] at hc
 cases j with
 |zero=>simp only[List.getElem?_cons_zero,Option.some.injEq] at hc;subst hc;exact⟨v,rfl,rfl⟩
 |succ j=>simp at hc
theorem wx:∀{ms:List Am}{ds:List Dt}{us:List Value},ms.all Am.reads=true→ms.length=us.length→ds.length=us.length→ey wl w ms ds us [] []
 | [],[],[],_,_,_=> .nil
 |m::ms,d::ds,u::us,h,h1,h2=>by
  simp only[List.all_cons,Bool.and_eq_true] at h
  refine .skip ?_ (wx h.2 (by simpa using h1) (by simpa using h2))
  cases m<;>first | trivial | exact absurd h.1 (by simp[Am.reads])
 | [],_::_,[],_,_,h=>by simp at h
 | [],_,_::_,_,h,_=>by simp at h
 |_::_,_,[],_,h,_=>by simp at h
 |_::_,[],_::_,_,_,h=>by simp at h
theorem pV.one{s:Spec}(ez:s.own=true)(vF:s.res=[false])(hm:s.bR.all Am.reads=true){ds:List Dt}{us:List Value}(h1:s.bR.length=us.length)(h2:ds.length=us.length){t:Ty}{x:El t}{v:Value}(he:enc t x=[.v v])
 (hs:iZ t=false) (hf:cR v=true):pV wl w w Mf ROa s ds us [.d t x] (.returned v):=by
 refine⟨⟨[v],[fun _=>False],[],rfl,?_,?_,List.Pairwise.nil,fun B hB=>by simp at hB,fun _=>⟨by unfold bS;simp,fun G hG k hk=> ?_⟩,fun e=>absurd (ez.symm.trans e) (by simp),fun G hG B hB=>by simp at hB,fun G hG k hk=> ?_,fun B hB=>by simp at hB⟩,⟨rfl,rfl,rfl,Nat.le_refl _,fun _ _ _=>rfl⟩⟩
 ·rw[ez,vF];exact .val (by simpa using L8 he hs hf) .nil
 ·rw[vF];exact wx hm h1 h2
 ·have:G=fun _=>False:=by simpa using hG
  subst this;exact hk.elim
 ·have:G=fun _=>False:=by simpa using hG
  subst this;exact hk.elim
end Go.Gm
namespace Go.Gm
open Go
theorem cn{x:Int}(h : -9223372036854775808≤x)(h':x<9223372036854775808):IntKind.wrap .i64 x=x:=by
 rw[IntKind.wrap_i64];omega
theorem c9{x y:BA}:cy x y=true↔x=y:=by
 unfold cy
 constructor
 ·intro h
  have h:=(beq_iff_eq.1 h)
  rw[ByteArray.toList_eq,ByteArray.toList_eq] at h
  cases x;cases y
  simp at h
  rw[h]
 ·rintro rfl;simp
theorem jo(x:BA):cy x x=true:=c9.2 rfl
theorem idx{n j:Nat}(h:j<n)(hb:n≤9223372036854775807):decide ((j:Int)<(n:Int))=true∧decide ((0:Int)≤(j:Int))=true∧IntKind.wrap .i64 ((j:Int)+(1:Int))=((j+1:Nat):Int)∧Int.toNat (j:Int)=j:=
 ⟨by simp;omega,by simp,by rw[cn (by omega) (by omega)];omega,by simp⟩
theorem iX(n:Nat):decide ((n:Int)<(n:Int))=false:=by simp
def rE(p:Nat→Bool):Nat→Nat→Bool
 |_,0=>true
 |j,d+1=>p j&&rE p (j+1) d
theorem jq{R:Type}{F:Nat→Int→Option R}{n:Nat}{p:Nat→Bool}{good bad:Option R}(hs:∀m j,j<n→F (m+1) (j:Int)=cond (p j) (F m ((j+1:Nat):Int)) bad)(he:∀m,F (m+1) (n:Int)=good):
    ∀d j m,j+d=n→d<m→F m (j:Int)=cond (rE p j d) good bad:=by
 intro d
 induction d with
 |zero=>
  intro j m hj hm
  obtain⟨m,rfl⟩:∃m',m=m'+1:=⟨m-1,by omega⟩
  have:j=n:=by omega
  subst this
  rw[he];rfl
 |succ d ih=>
  intro j m hj hm
  obtain⟨m,rfl⟩:∃m',m=m'+1:=⟨m-1,by omega⟩
  rw[hs m j (by omega),ih (j+1) m (by omega) (by omega)]
  simp only[rE]
  cases p j<;>rfl
theorem rF{p:Nat→Bool}:∀{d j:Nat},rE p j d=true↔∀i,j≤i→i<j+d→p i=true
 |0,j=>by simp only[rE,true_iff];intro i h1 h2;omega
 |d+1,j=>by
  simp only[rE,Bool.and_eq_true,rF]
  constructor
  ·rintro⟨h1,h2⟩ i h3 h4
   by_cases e:i=j
   ·subst e;exact h1
   ·exact h2 i (by omega) (by omega)
  ·intro h
   exact⟨h j (Nat.le_refl _) (by omega),fun i h1 h2=>h i (by omega) (by omega)⟩
theorem aP{α:Type}{xs:List α}{j:Nat}{x:α}(h:xs[j]? =some x):j<xs.length:=by
 rcases Nat.lt_or_ge j xs.length with h' | h'
 ·exact h'
 ·simp[List.getElem?_eq_none h'] at h
theorem cH{α:Type}{xs:List α}{j:Nat}(h:j<xs.length):∃x,xs[j]? =some x∧xs.drop j=x::xs.drop (j+1):=
 ⟨xs[j],by simp[h],by simp⟩
def fj{α A B:Type}(step:α→A→B⊕A):List α→A→B⊕A
 | [],a=> .inr a
 |x::xs,a=>Sum.elim Sum.inl (fj step xs) (step x a)
theorem td{α A B R:Type}{xs:List α}{F:Nat→Nat→A→Option R}{step:α→A→B⊕A}{out:B→Option R}{good:A→Option R}(inv:A→Prop)
 (hinv:∀x a a',x∈xs→inv a→step x a = .inr a'→inv a')
 (hs:∀m (j:Nat) a x,xs[j]? =some x→inv a→F (m+1) j a=Sum.elim out (fun a'=>F m (j+1) a') (step x a)) (he:∀m a,inv a→F (m+1) xs.length a=good a):
    ∀(d j m:Nat)(a:A),j+d=xs.length→d<m→inv a→F m j a=Sum.elim out good (fj step (xs.drop j) a):=by
 intro d
 induction d with
 |zero=>
  intro j m a hj hm hi
  obtain⟨m,rfl⟩:∃m',m=m'+1:=⟨m-1,by omega⟩
  have:j=xs.length:=by omega
  subst this
  rw[he m a hi,List.drop_length];rfl
 |succ d ih=>
  intro j m a hj hm hi
  obtain⟨m,rfl⟩:∃m',m=m'+1:=⟨m-1,by omega⟩
  obtain⟨x,hx,hd⟩:=cH (show j<xs.length by omega)
  rw[hs m j a x hx hi,hd]
  simp only[fj]
  cases jh:step x a with
  |inl b=>rfl
  |inr a'=>exact ih (j+1) m a' (by omega) (by omega) (hinv x a a' (List.mem_of_getElem? hx) hi jh)
open Classical in
noncomputable def iM{α:Type}(x y:α):Bool:=decide (x=y)
theorem lY{α:Type}{x y:α}:iM x y=true↔x=y:=by simp[iM]
theorem rG{α:Type}(x:α):iM x x=true:=lY.2 rfl
theorem A7{α:Type}{x y:α}(h:x≠y):iM x y=false:=by simp[iM,h]
theorem A8(x y:BA):iM x y=cy x y:=by rw[Bool.eq_iff_iff,c9,lY]
theorem rH{α:Type}{xs ys:List α}(hl:xs.length=ys.length){p:Nat→Bool}(h:∀(j:Nat) x y,xs[j]? =some x→ys[j]? =some y→p j=iM x y):rE p 0 xs.length=iM xs ys:=by
 rw[Bool.eq_iff_iff,rF,lY]
 constructor
 ·intro h1
  apply List.ext_getElem?
  intro j
  rcases Nat.lt_or_ge j xs.length with hj | hj
  ·obtain⟨x,hx,_⟩:=cH hj
   obtain⟨y,hy,_⟩:=cH (show j<ys.length by omega)
   have:=h1 j (Nat.zero_le _) (by omega)
   rw[h j x y hx hy,lY] at this
   rw[hx,hy,this]
  ·simp[List.getElem?_eq_none hj,List.getElem?_eq_none (show ys.length≤j by omega)]
 ·rintro rfl j _ hj
  obtain⟨x,hx,_⟩:=cH (show j<xs.length by omega)
  rw[h j x x hx hx];exact rG x
def TG:Nat:=9223372036854775807
def oO(s:BA):Bool:=Nat.ble s.size TG
def okL{α:Type}(f:α→Bool)(xs:List α):Bool:=Nat.ble xs.length TG&&xs.all f
theorem A9{m n:Nat}(h:m≠n):((m:Int) !=(n:Int))=true:=by rw[bne_iff_ne];omega
def fT{α:Type}(f:α→Nat)(xs:List α):Nat:=xs.length+(xs.map f).sum
theorem qz{α:Type}(f:α→Nat)(xs:List α):xs.length≤fT f xs:=Nat.le_add_right _ _
def Zc:Cv→Ty
 | .v (.int k _)=> .i k
 | .v (.bool _)=> .bool
 | .v (.string _)=> .str
 | .l t _=> .sl t
 |_=> .bool
def sig(t:Ty):List Ty:=(enc t (zero t)).map Zc
def CTy:Ty→Cv→Prop
 | .i k,c=>∃n,c = .v (.int k n)
 | .bool,c=>∃b,c = .v (.bool b)
 | .str,c=>∃s,c = .v (.string s)
 | .sl e,c=>∃xs,c = .l e xs
 |_,_=>False
def kI:List Ty→List Cv→Prop
 | [],[]=>True
 |a::l,c::cs=>CTy a c∧kI l cs
 |_,_=>False
theorem kI.cons{a:Ty}{l:List Ty}:∀{cs:List Cv},kI (a::l) cs→∃c sK,cs=c::sK∧CTy a c∧kI l sK
 |c::cs,h=>⟨c,cs,rfl,h.1,h.2⟩
theorem kI.nil:∀{cs:List Cv},kI [] cs→cs=[]
 | [],_=>rfl
theorem kI.append:∀{l m:List Ty}{cs ds:List Cv},kI l cs→kI m ds→kI (l++m) (cs++ds)
 | [],_,[],_,_,h=>h
 | [],_,_::_,_,h,_=>h.elim
 |_::_,_,[],_,h,_=>h.elim
 |_::_,_,_::_,_,h,h'=>⟨h.1,kI.append h.2 h'⟩
theorem kI.len:∀{l:List Ty}{cs:List Cv},kI l cs→cs.length=l.length
 | [],[],_=>rfl
 | [],_::_,h=>h.elim
 |_::_,[],h=>h.elim
 |_::_,_::_,h=>by simp[kI.len h.2]
theorem C2(x:ae):kI (sig .node) (enc .node x):=⟨⟨_,rfl⟩,⟨_,rfl⟩,⟨_,rfl⟩,⟨_,rfl⟩,⟨_,rfl⟩,trivial⟩
theorem Jn{cs:List Cv}(h0:kI (sig .node) cs):∃x:ae,enc .node x=cs:=by
 obtain⟨_,_,rfl,⟨a0,rfl⟩,h1⟩:=kI.cons h0
 obtain⟨_,_,rfl,⟨a1,rfl⟩,h2⟩:=kI.cons h1
 obtain⟨_,_,rfl,⟨a2,rfl⟩,h3⟩:=kI.cons h2
 obtain⟨_,_,rfl,⟨a3,rfl⟩,h4⟩:=kI.cons h3
 obtain⟨_,_,rfl,⟨a4,rfl⟩,h5⟩:=kI.cons h4
 cases kI.nil h5
 exact⟨⟨a0,a1,a2,a3,a4⟩,rfl⟩
theorem Fb(x:ai):kI (sig .pop) (enc .pop x):=⟨⟨_,rfl⟩,⟨_,rfl⟩,⟨_,rfl⟩,⟨_,rfl⟩,⟨_,rfl⟩,⟨_,rfl⟩,⟨_,rfl⟩,⟨_,rfl⟩,trivial⟩
theorem L9{cs:List Cv}(h0:kI (sig .pop) cs):∃x:ai,enc .pop x=cs:=by
 obtain⟨_,_,rfl,⟨a0,rfl⟩,h1⟩:=kI.cons h0
 obtain⟨_,_,rfl,⟨a1,rfl⟩,h2⟩:=kI.cons h1
 obtain⟨_,_,rfl,⟨a2,rfl⟩,h3⟩:=kI.cons h2
 obtain⟨_,_,rfl,⟨a3,rfl⟩,h4⟩:=kI.cons h3
 obtain⟨_,_,rfl,⟨a4,rfl⟩,h5⟩:=kI.cons h4
 obtain⟨_,_,rfl,⟨a5,rfl⟩,h6⟩:=kI.cons h5
 obtain⟨_,_,rfl,⟨a6,rfl⟩,h7⟩:=kI.cons h6
 obtain⟨_,_,rfl,⟨a7,rfl⟩,h8⟩:=kI.cons h7
 cases kI.nil h8
 exact⟨⟨a0,a1,a2,⟨a3,a4,a5,a6,a7⟩⟩,rfl⟩
theorem Fc(x:aj):kI (sig .cur) (enc .cur x):=⟨⟨_,rfl⟩,⟨_,rfl⟩,⟨_,rfl⟩,trivial⟩
theorem Ma{cs:List Cv}(h0:kI (sig .cur) cs):∃x:aj,enc .cur x=cs:=by
 obtain⟨_,_,rfl,⟨a0,rfl⟩,h1⟩:=kI.cons h0
 obtain⟨_,_,rfl,⟨a1,rfl⟩,h2⟩:=kI.cons h1
 obtain⟨_,_,rfl,⟨a2,rfl⟩,h3⟩:=kI.cons h2
 cases kI.nil h3
 exact⟨⟨a0,a1,a2⟩,rfl⟩
theorem Mb:∀(t:Ty)(x:El t),kI (sig t) (enc t x)
 | .i _,_=>⟨⟨_,rfl⟩,trivial⟩
 | .bool,_=>⟨⟨_,rfl⟩,trivial⟩
 | .str,_=>⟨⟨_,rfl⟩,trivial⟩
 | .sl _,_=>⟨⟨_,rfl⟩,trivial⟩
 | .node,x=>C2 x
 | .pop,x=>Fb x
 | .cur,x=>Fc x
theorem full:∀(t:Ty){cs:List Cv},kI (sig t) cs→∃x:El t,enc t x=cs
 | .i k,_,h=>by obtain⟨_,_,rfl,⟨a,rfl⟩,h2⟩:=kI.cons h;cases kI.nil h2;exact⟨a,rfl⟩
 | .bool,_,h=>by obtain⟨_,_,rfl,⟨a,rfl⟩,h2⟩:=kI.cons h;cases kI.nil h2;exact⟨a,rfl⟩
 | .str,_,h=>by obtain⟨_,_,rfl,⟨a,rfl⟩,h2⟩:=kI.cons h;cases kI.nil h2;exact⟨a,rfl⟩
 | .sl e,_,h=>by obtain⟨_,_,rfl,⟨a,rfl⟩,h2⟩:=kI.cons h;cases kI.nil h2;exact⟨a,rfl⟩
 | .node,_,h=>Jn h
 | .pop,_,h=>L9 h
 | .cur,_,h=>Ma h
inductive nX:Cv→Prop
 | int {k:IntKind} {n:Int} (h:(Lit.int k n).wf=true):nX (.v (.int k n))
 | bool {b:Bool}:nX (.v (.bool b))
 | str {s:BA} (h:s.size≤maxLen):nX (.v (.string s))
 | lst {t:Ty} {xs:List (El t)} (h:xs.length≤maxLen) (hx:∀x∈xs,∀c∈enc t x,nX c):nX (.l t xs)
def C3(code:List (Nat×Ty)):Nat→List (Nat×Nat)→Option (List Ty)
 |_,[]=>some []
 |o,(off,ft)::r=>(au code ft).bind fun t=>cond (Nat.beq off o) ((C3 code (o+ar t) r).bind fun l=>some (sig t++l)) none
def u7(t:Ek):Bool:=t.code.all fun x=> !iZ x.2||(match au t.yq x.1 with | some L=>decide (C3 t.code 0 L=some (sig x.2)) | none=>false)
variable {H : Type} {en : TypeId × Value → H} {P : Program} {w : World} {tb : Ek}
theorem Ek.Ok.cells(h:tb.Ok P){T:Nat}{t:Ty}(hT:au tb.code T=some t):P.cellsOf T=ar t:=by
 obtain⟨i,zv,h1,h2,_⟩:=h.info (T,t) (e9 hT)
 simp[Program.cellsOf,h1,h2]
def od(w:World)(k:Nat):Prop:=k<w.heap.size
theorem jg.append{Pr:Nat→Prop}:∀{cs ds:List Cv}{us vs:List Value},jg w Pr cs us→jg w Pr ds vs→jg w Pr (cs++ds) (us++vs)
 | [],_,[],_,_,h=>h
 | [],_,_::_,_,h,_=>h.elim
 |_::_,_,[],_,h,_=>h.elim
 |_::_,_,_::_,_,h,h'=>⟨h.1,jg.append h.2 h'⟩
theorem zK{fuel:Nat}(Em:tb.Ok P) (IH:∀(T:Nat)(t:Ty)(cs:List Value)(y:DataW H×List MemPlace),au tb.code T=some t→DataW.trod en P w 0 (fun _=>true) true fuel T cs=some y→
      ∃x:El t,jg w (od w) (enc t x) cs∧∀c∈enc t x,nX c) (cs:List Value):
    ∀(fs:List Field)(o:Nat)(l:List Ty),C3 tb.code o (fs.map fun f=>(f.offset,f.type))=some l→(∀ f∈fs,∃y,DataW.trod en P w 0 (fun _=>true) true fuel f.type ((cs.drop f.offset).take (P.cellsOf f.type))=some y)→
      cs.length=o+l.length→∃Cl,kI l Cl∧jg w (od w) Cl (cs.drop o)∧∀c∈Cl,nX c
 | [],o,l,ht,_,hl=>by
  simp only[List.map_nil,C3,Option.some.injEq] at ht
  subst ht
  refine⟨[],trivial,?_,fun c h=>by cases h⟩
  rw[List.drop_of_length_le (by simpa using Nat.le_of_eq hl)]
  trivial
 |f::fs,o,l,ht,hm,hl=>by
  simp only[List.map_cons,C3] at ht
  obtain⟨t,hft,ht⟩:=aT ht
  obtain⟨ho,ht⟩:=bh ht
  obtain⟨l',ht3,CY⟩:=aT ht
  have ho:=iC ho
  simp only[Option.some.injEq] at CY
  subst CY
  obtain⟨y,hy⟩:=hm f (by simp)
  rw[Em.cells hft,ho] at hy
  obtain⟨x,KH,mV⟩:=IH f.type t _ y hft hy
  have dy:(sig t).length=ar t:=by
   have:=(Mb t x).len
   rw[← this,bl]
  obtain⟨Cl,h1,h2,h3⟩:=zK Em IH cs fs (o+ar t) l' ht3 (fun f h=>hm f (by simp[h])) (by simp at hl;omega)
  refine⟨enc t x++Cl,(Mb t x).append h1,?_,fun c hc=>(List.mem_append.1 hc).elim (mV c) (h3 c)⟩
  have e:cs.drop o=(cs.drop o).take (ar t)++cs.drop (o+ar t):=by
   rw[← List.drop_drop,List.take_append_drop]
  rw[e]
  exact KH.append h2
end Go.Gm
namespace Go.Gm
open Go
variable {H : Type} {en : TypeId × Value → H} {P : Program} {w : World} {tb : Ek}
open Classical in
theorem gC.mk{Pr:Nat→Prop}{t:Ty}{xs:List (El t)}{b o cap:Nat}{cs:Array Value}{el:Nat}{fz:Nat×Nat}(dr:xs.length≤cap)(hP:Pr b)(hb:w.heap[b]? =some (.cells cs el fz))
 (hr:∀(i:Nat) x (j:Nat) c,xs[i]? =some x→(enc t x)[j]? =some c→∃u,cs[o+i*ar t+j]? =some u∧pL w Pr c u):gC w Pr t xs (.slice (some ⟨b,o,none⟩) xs.length cap):=by
  let Good:Nat→Nat→(Path→Value)→Prop:=fun i j f=>∀x (t':Ty) (ys:List (El t')),xs[i]? =some x→(enc t x)[j]? =some (.l t' ys)→cs[o+i*ar t+j]? =some (f [])∧ep w Pr t' ys f
  have Xy:∀i j,∃f,Good i j f:=by
    intro i j
    by_cases h:∃(x:El t)(t':Ty)(ys:List (El t')),xs[i]? =some x∧(enc t x)[j]? =some (.l t' ys)
    · obtain⟨x,t',ys,hx,hc⟩:=h
      obtain⟨u,hu,TH⟩:=hr i x j _ hx hc
      obtain⟨av,h0,h1⟩:=TH
      refine⟨av,fun x2 t2 ys2 mV EC=> ?_⟩
      rw[hx] at mV;cases mV
      rw[hc] at EC;cases EC
      exact⟨by rw[h0];exact hu,h1⟩
    · exact⟨fun _=> .nilFunc,fun x t' ys hx hc=>(h ⟨x,t',ys,hx,hc⟩).elim⟩
  let fH:Nat→Nat→Path→Value:=fun i j=>Classical.choose (Xy i j)
  have Jo:∀i j,Good i j (fH i j):=fun i j=>Classical.choose_spec (Xy i j)
  let av:Path→Value
    | []=> .slice (some ⟨b,o,none⟩) xs.length cap
    | (i,j)::q=>fH i j q
  refine⟨av,rfl,fun p s hs=> ?_⟩
  cases p with
  |nil=>
    simp only[aQ,Option.some.injEq] at hs
    subst hs
    refine⟨_,cap,rfl,dr,fun _=>⟨b,o,cs,el,fz,rfl,hP,hb,fun i x j c hx hc=> ?_⟩⟩
    obtain⟨u,hu,TH⟩:=hr i x j c hx hc
    refine⟨u,hu,?_⟩
    cases c with
    |v y=>exact TH
    |l t' ys=>
      have:=(Jo i j x t' ys hx hc).1
      rw[hu] at this
      show u=fH i j []
      exact (Option.some.inj this)
  |cons ij q=>
    obtain⟨i,j⟩:=ij
    simp only[aQ] at hs
    split at hs
    · rename_i x hx
      split at hs
      · rename_i t' ys hc
        exact (Jo i j x t' ys hx hc).2 q s hs
      · cases hs
    · cases hs
theorem gC.nil{Pr:Nat→Prop}(t:Ty)(a:Option Addr)(cap:Nat):gC w Pr t [] (.slice a 0 cap):=by
 refine⟨fun _=> .slice a 0 cap,rfl,fun p s hs=> ?_⟩
 cases p with
 |nil=>simp only[aQ,Option.some.injEq] at hs;subst hs;exact⟨a,cap,rfl,Nat.zero_le _,fun h=>(h rfl).elim⟩
 |cons ij q=>simp[aQ] at hs
theorem wz{α:Type}{xs:List α}{j:Nat}{x:α}(h:xs[j]? =some x):j<xs.length:=by
 rcases Nat.lt_or_ge j xs.length with h' | h'
 ·exact h'
 ·simp[List.getElem?_eq_none h'] at h
theorem Mc(Em:tb.Ok P)(hT:u7 tb=true):∀(fuel:Nat)(T:Nat)(t:Ty)(cs:List Value)(y:DataW H×List MemPlace),au tb.code T=some t→DataW.trod en P w 0 (fun _=>true) true fuel T cs=some y→
    ∃x:El t,jg w (od w) (enc t x) cs∧∀c∈enc t x,nX c:=by
  intro fuel
  induction fuel with
  |zero=>intro T t cs y _ h;simp[DataW.trod] at h
  |succ fuel IH=>
    intro T t cs y hc h
    have hu:=Em.vv (T,t) (e9 hc)
    have str:iZ t=true→∃x:El t,jg w (od w) (enc t x) cs∧∀c∈enc t x,nX c:=by
      intro hs
      have h1:=List.all_eq_true.1 hT (T,t) (e9 hc)
      simp only[hs,Bool.not_true,Bool.false_or] at h1
      split at h1
      · rename_i L hL
        have h1:=of_decide_eq_true h1
        obtain⟨fs,hf1,hf2,_,_⟩:=Em.yq (T,L) (e9 hL)
        have hf2:L=fs.toList.map (fun f=>(f.offset,f.type)):=hf2
        obtain⟨xs,n,hn,_,hlen,yt,eV⟩:=DataW.trod_struct hf1 h
        have hn:fuel=n:=by omega
        subst hn
        rw[Em.cells hc] at hlen
        have amR:(sig t).length=ar t:=by simp[sig,bl]
        obtain⟨Cl,h2,h3,h4⟩:=zK Em IH cs fs.toList 0 (sig t) (by rw[← hf2];exact h1) (fun f hf=>by
          obtain⟨i,hi⟩:=List.mem_iff_getElem?.1 hf
          have nz:fs[i]? =some f:=by simpa using hi
          have bU:i<xs.length:=by
            rw[yt]
            rcases Nat.lt_or_ge i fs.size with h' | h'
            · exact h'
            · simp[Array.getElem?_eq_none h'] at nz
          exact⟨xs[i],by rw[eV i f nz];simp[bU]⟩) (by omega)
        obtain⟨x,hx⟩:=full t h2
        subst hx
        exact⟨x,by simpa using h3,h4⟩
      · cases h1
    cases t with
    |i k=>
      have hu:P.underlying T=some (.int k):=hu
      obtain⟨n,rfl,_,hw⟩:=DataW.trod_int hu h
      exact⟨n,⟨rfl,trivial⟩,fun c hc=>by (have:c = .v (.int k n):=by simpa [enc] using hc);subst this;exact .int hw⟩
    |bool=>
      have hu:P.underlying T=some .bool:=hu
      obtain⟨b,rfl,_⟩:=DataW.trod_bool hu h
      exact⟨b,⟨rfl,trivial⟩,fun c hc=>by (have:c = .v (.bool b):=by simpa [enc] using hc);subst this;exact .bool⟩
    |str=>
      have hu:P.underlying T=some .string:=hu
      obtain⟨s,rfl,_,hs⟩:=DataW.trod_string hu h
      exact⟨s,⟨rfl,trivial⟩,fun c hc=>by (have:c = .v (.string s):=by simpa [enc] using hc);subst this;exact .str hs⟩
    |sl e=>
      obtain⟨el,hu,pg⟩:=(hu:∃el,P.underlying T=some (.slice el)∧(tb.env []).code el=some e)
      have pg:au tb.code el=some e:=pg
      rcases DataW.trod_slice hu h with ⟨rfl,_⟩ | ⟨a,len,cap,elems,rest,n,hn,rfl,_,_,hl,hm,hlen,eV,_,_⟩
      · exact⟨[],⟨gC.nil e none 0,trivial⟩,fun c hc=>by
          have:c = .l e []:=by simpa [enc] using hc
          subst this;exact .lst (by simp) (fun x hx=>by cases hx)⟩
      · have hn:fuel=n:=by omega
        subst hn
        rw[Em.cells pg] at eV
        have yH:∀i,i<len→∃(x:El e)(us:List Value),w.cells? 0 (a.add (i*ar e)) (ar e)=some us∧jg w (od w) (enc e x) us∧∀c∈enc e x,nX c:=by
          intro i hi
          have h1:=eV i hi
          have:elems[i]? =some (elems[i]'(by omega)):=by simp
          rw[this] at h1
          obtain⟨us,tG,hy⟩:=Option.bind_eq_some_iff.1 h1
          obtain⟨x,KH,mV⟩:=IH el e us _ pg hy
          exact⟨x,us,tG,KH,mV⟩
        have hch:∃f:Nat→El e,∀i,i<len→∃us:List Value,w.cells? 0 (a.add (i*ar e)) (ar e)=some us∧jg w (od w) (enc e (f i)) us∧∀c∈enc e (f i),nX c:=
          ⟨fun i=>if h:i<len then Classical.choose (yH i h) else zero e,fun i hi=>by
            simp only[dif_pos hi];exact Classical.choose_spec (yH i hi)⟩
        obtain⟨f,hf⟩:=hch
        let xs:List (El e):=(List.range len).map f
        have hxl:xs.length=len:=by simp[xs]
        have hxi:∀(i:Nat) x,xs[i]? =some x→i<len∧x=f i:=fun i x hx=>by
          have hi:i<len:=by have:=wz hx;omega
          refine⟨hi,?_⟩
          simp only[xs,List.getElem?_map,List.getElem?_range hi,Option.map_some,Option.some.injEq] at hx
          exact hx.symm
        refine⟨xs,⟨?_,trivial⟩,fun c hc=> ?_⟩
        · show gC w (od w) e xs (.slice (some a) len cap)
          by_cases h0:len=0
          · have:xs=[]:=List.length_eq_zero_iff.1 (by omega)
            rw[this,h0];exact gC.nil e _ _
          · have he:0<ar e:=eW e
            have kG:∀i j,i<len→j<ar e→∀us:List Value,w.cells? 0 (a.add (i*ar e)) (ar e)=some us→w.cell? ((a.add (i*ar e)).add j)=us[j]? :=fun i j _ hj us tG=>(World.cells?_some tG).2.2 j hj
            obtain⟨EP,adS,hr0,_⟩:=hf 0 (by omega)
            have Ey:∃c,w.cell? a=some c:=by
              have h1:=kG 0 0 (by omega) he EP adS
              have hl0:=(World.cells?_some adS).2.1
              have:EP[0]? =some (EP[0]'(by omega)):=by simp
              rw[this] at h1
              exact⟨_,by simpa [Addr.add] using h1⟩
            obtain⟨c0,W9⟩:=Ey
            obtain⟨b,o,sp⟩:=a
            have hb:∃cs pM fz,w.heap[b]? =some (.cells cs pM fz)∧sp=none:=by
              unfold World.cell? at W9
              simp only at W9
              split at W9
              · rename_i cs pM fz C4
                split at W9
                · cases W9
                · rename_i K1
                  exact⟨cs,pM,fz,C4,by cases sp<;>simp_all⟩
              · cases W9
            obtain⟨cs,pM,fz,C4,rfl⟩:=hb
            have S2:b<w.heap.size:=(Array.getElem?_eq_some_iff.1 C4).1
            have:=gC.mk (w:=w) (Pr:=od w) (t:=e) (xs:=xs) (b:=b) (o:=o) (cap:=cap) (cs:=cs) (el:=pM) (fz:=fz) (by omega) S2 C4 (fun i x j c hx B7=>by
              obtain⟨hi,rfl⟩:=hxi i x hx
              obtain⟨us,tG,e8,_⟩:=hf i hi
              obtain⟨z,hz,TH⟩:=e8.get j c B7
              have hj:j<ar e:=by
                have:=wz B7
                rw[bl] at this;exact this
              have h1:=kG i j hi hj us tG
              rw[hz] at h1
              refine⟨z,?_,TH⟩
              have ha:((⟨b,o,none⟩:Addr).add (i*ar e)).add j=⟨b,o+i*ar e+j,none⟩:=by rw[eA,eA]
              rw[ha,lx C4] at h1
              exact h1)
            rw[hxl] at this
            exact this
        · have:c = .l e xs:=by simpa [enc] using hc
          subst this
          refine .lst (by omega) (fun x hx c hc=> ?_)
          obtain⟨i,hi⟩:=List.mem_iff_getElem?.1 hx
          obtain⟨bU,rfl⟩:=hxi i x hi
          obtain⟨_,_,_,h3⟩:=hf i bU
          exact h3 c hc
    |_=>exact str rfl
end Go.Gm
namespace Go.Gm
open Go Go.ChangeShapes Go.WideShapes Go.RowKit
variable {H : Type} {en : TypeId × Value → H} {P : Program} {w : World} {tb : Ek}
inductive Me:List Ty→List Dt→Prop
 | nil:Me [] []
 | cons {t:Ty} {ts:List Ty} {x:El t} {ds:List Dt} (hx:∀c∈enc t x,nX c) (h:Me ts ds):Me (t::ts) (.d t x::ds)
def Mg(tb:Ek):List Nat→List Ty→Prop
 | [],[]=>True
 |T::Ts,t::ts=>au tb.code T=some t∧Mg tb Ts ts
 |_,_=>False
theorem TI(Em:tb.Ok P){T:Nat}{t:Ty}(hc:au tb.code T=some t){base:Nat}{v:Value}(hv:Value.okWide P w .any base T v){us:List Value}(tG:v.cells.toList=us){x:El t}(hr:jg w (od w) (enc t x) us):ox w (od w) t x v:=by
 have e8:Cj w (od w) (enc t x) us.toArray:=⟨by simpa using hr.len,fun j c hj=>by simpa using hr.get j c hj⟩
 have hu:=Em.vv (T,t) (e9 hc)
 refine⟨us.toArray,?_,e8⟩
 have ea:v.cells=us.toArray:=by rw[← tG]
 have str:iZ t=true→(∃ fs,P.underlying T=some (.struct fs))→Form t v us.toArray:=by
  intro hs ⟨fs,hfs⟩
  simp only[Value.okWide,hfs] at hv
  obtain⟨cs,rfl,_,_⟩:=hv
  simp only[Form,hs,if_true]
  rw[← ea];rfl
 have one:iZ t=false→(∀ c∈enc t x,∀z,pL w (od w) c z→cR z=true)→us.length=1→(∀ cs,v≠ .agg cs)→Form t v us.toArray:=by
  intro hs pN hl B6
  have hv1:v.cells = #[v]:=by cases v<;>first | rfl | exact absurd rfl (B6 _)
  rw[hv1] at ea
  simp only[Form,hs,Bool.false_eq_true,if_false]
  refine⟨ea.symm,?_⟩
  cases us with
  |nil=>simp at hl
  |cons u us=>
   have hlen:=hr.len
   obtain⟨c,mP⟩:∃c,(enc t x)[0]? =some c:=by
    cases he:enc t x with
    |nil=>rw[he] at hlen;simp at hlen
    |cons c cs=>exact⟨c,rfl⟩
   obtain⟨z,hz,TH⟩:=hr.get 0 c mP
   simp only[List.getElem?_cons_zero,Option.some.injEq] at hz
   subst hz
   have:v=u:=by
    have:=congrArg (fun a=>a[0]?) ea
    simpa using this
   rw[this]
   exact pN c (List.mem_of_getElem? mP) u TH
 have hlen:=hr.len
 cases t with
 |i k=>
  have hu:P.underlying T=some (.int k):=hu
  refine one rfl (fun c hc z hz=> ?_) (by simpa [enc] using hlen) (fun cs e=> ?_)
  ·have:c = .v (.int k x):=by simpa [enc] using hc
   subst this;cases hz;rfl
  ·subst e;simp[Value.okWide,hu,Cell.okWide,Cell.ok] at hv
 |bool=>
  have hu:P.underlying T=some .bool:=hu
  refine one rfl (fun c hc z hz=> ?_) (by simpa [enc] using hlen) (fun cs e=> ?_)
  ·have:c = .v (.bool x):=by simpa [enc] using hc
   subst this;cases hz;rfl
  ·subst e;simp[Value.okWide,hu,Cell.okWide,Cell.ok] at hv
 |str=>
  have hu:P.underlying T=some .string:=hu
  refine one rfl (fun c hc z hz=> ?_) (by simpa [enc] using hlen) (fun cs e=> ?_)
  ·have:c = .v (.string x):=by simpa [enc] using hc
   subst this;cases hz;rfl
  ·subst e;simp[Value.okWide,hu,Cell.okWide,Cell.ok] at hv
 |sl e=>
  obtain⟨el,hu,_⟩:=(hu:∃el,P.underlying T=some (.slice el)∧(tb.env []).code el=some e)
  refine one rfl (fun c hc z hz=> ?_) (by simpa [enc] using hlen) (fun cs e'=> ?_)
  ·have:c = .l e x:=by simpa [enc] using hc
   subst this
   obtain⟨av,h0,h1⟩:=hz
   obtain⟨a,cap,e1,_⟩:=h1 [] _ rfl
   rw[← h0,e1];rfl
  ·subst e';simp[Value.okWide,hu,Cell.okWide,Cell.ok] at hv
 |_=>exact str rfl hu
theorem zL{wl:World}(Em:tb.Ok P)(hT:u7 tb=true){base:Nat}:∀{Ts:List Nat}{ts:List Ty}{vs:List Value}{dd:List (DataW H)}{ps:List MemPlace},Mg tb Ts ts→(∀(j:Nat) T v,Ts[j]? =some T→vs[j]? =some v→Value.okWide P w .any base T v)→
    DataW.TrodAll en P w 0 (fun _=>true) true Ts vs dd ps→∃ds:List Dt,cP wl w (od w) (ts.map fun _=> .ro) ds vs (ts.map fun _ _=>False)∧Me ts ds
 | [],[],vs,dd,ps,_,_,h=>by
  obtain⟨rfl,_,_⟩:=trodAll_nil h
  exact⟨[],.nil,.nil⟩
 | [],_::_,_,_,_,h,_,_=>h.elim
 |_::_,[],_,_,_,h,_,_=>h.elim
 |T::Ts,t::ts,vs,dd,ps,hc,hv,h=>by
  obtain⟨v,vs',d,ds',p,q,rfl,rfl,rfl,h1,h2⟩:=trodAll_cons h
  obtain⟨fuel,hf⟩:=h1
  obtain⟨x,KH,mV⟩:=Mc Em hT fuel T t _ _ hc.1 hf
  obtain⟨ds,h3,h4⟩:=zL Em hT hc.2 (fun j T' v' hj Es=>hv (j+1) T' v' (by simpa using hj) (by simpa using Es)) h2
  exact⟨.d t x::ds,cP.cons (m:= .ro) (F:=fun _=>False) (show vp wl w (od w) .ro (.d t x) v _ from TI Em hc.1 (hv 0 T v rfl rfl) rfl KH) h3,.cons mV h4⟩
theorem p4(hl:laidOutB P=true){W W':World}(hb:Below W.heap.size W W'):∀{Ts:List Nat}{vs:List Value}{dd:List (DataW H)}{ps:List MemPlace},(∀ T∈Ts,P.readableRec T=true∧T<P.types.size)→
    DataW.TrodAll en P W 0 (fun _=>true) true Ts vs dd ps→(∀ x∈ps,x.block<W.heap.size)→DataW.TrodAll en P W' 0 (fun b=>decide (b<W.heap.size)) true Ts vs dd ps
 | [],vs,dd,ps,_,h,_=>by
  obtain⟨rfl,rfl,rfl⟩:=trodAll_nil h
  exact trodAll_mk0
 |T::Ts,vs,dd,ps,hr,h,bU=>by
  obtain⟨v,vs',d,ds',p,q,rfl,rfl,rfl,h1,h2⟩:=trodAll_cons h
  exact⟨p,q,Below.trod hl (hr T (by simp)).1 (hr T (by simp)).2 h1 hb (fun x hx=>bU x (by simp[hx])),p4 hl hb (fun T' GO=>hr T' (by simp[GO])) h2 (fun x hx=>bU x (by simp[hx])),rfl⟩
theorem cP.kept{w:World}:∀{ts:List Ty}{ds:List Dt}{us:List Value}{Fs:List (Nat→Prop)},cP w w (od w) (ts.map fun _=> .ro) ds us Fs→cP w w (od w) (ts.map fun _=> .kp) ds us Fs
 | [],_,_,_,h=>by cases h;exact .nil
 |t::ts,_,_,_,h=>by
  cases h with
  |cons h hs=>
   rename_i d ds u us F Fs
   refine cP.cons (m:= .kp) ?_ (cP.kept hs)
   cases d with
   |fi _ _=>exact h
   |d t x=>
    obtain⟨us,hf,hr⟩:=h
    refine⟨us,hf,hr.1,fun j c hj=> ?_⟩
    obtain⟨z,hz,hc⟩:=hr.2 j c hj
    refine⟨z,hz,?_⟩
    cases c with
    |v x=>exact hc
    |l t xs=>exact gC.mono (fun _ _=>trivial) hc
theorem A'(Em:tb.Ok P)(hT:u7 tb=true)(hl:laidOutB P=true){f:Nat}{fn:Func}{Ts:List Nat}{ts:List Ty}(hp:fn.params.toList=Ts)(hc:Mg tb Ts ts){q:Qt}{m:Am}(hm:m = .ro∨m = .kp)
 (hs:bW P f (Spec.of (ts.map fun _=>m) [false] true q)) (hq:∀ds,Me ts ds→q ds=some (true,[.d .bool true])) {Tb:Nat} (vF:fn.resultTypes = #[Tb]) (hTb:P.underlying Tb=some .bool)
    (TH:Ts.all (fun T=>P.readableRec T&&decide (T<P.types.size))=true) {s:ChangeSpec} (Xz:s.vars=[]) (hfn:∀ds:List (DataW H),ds.length=Ts.length→s.fn H ds={ results:=[.lit (.bool true)],args:=ds })
    {apart:Bool} (W:World) (base:Nat) (args:Array Value) (dd gs:List (DataW H)) (before:List MemPlace)
 (Mh:∀(j:Nat) t v,fn.params[j]? =some t→args[j]? =some v→Value.okWide P W .any base t v) (hW:DataW.Whole en P fn.params.toList s.vars apart W args.toList dd gs before) (TE:W.ShapedOpen P):
    Calls P f args W fun e W'=>∃v,e = .returned v∧s.post en P fn apart true false false W args v W':=by
 have TJ:=hW
 obtain⟨p,q',hA,hV,Lh,yv,Eu⟩:=hW
 rw[Xz] at hV
 obtain⟨hgs,hq'⟩:=trodVars_none hV
 subst hgs hq'
 rw[hp] at hA
 obtain⟨ds,ik,hds⟩:=zL Em hT (base:=base) hc (fun j T v hj Es=>Mh j T v (by
  have:fn.params.toList[j]? =some T:=by rw[hp];exact hj
  simpa using this) (by simpa using Es)) hA
 replace ik:cP W W (od W) (ts.map fun _=>m) ds args.toList (ts.map fun _ _=>False):=by
  rcases hm with rfl | rfl
  ·exact ik
  ·exact ik.kept
 have hap:bS (ts.map fun _ _=>False:List (Nat→Prop)):=by
  unfold bS
  rw[List.pairwise_map]
  exact List.pairwise_iff_getElem.2 fun _ _ _ _ _ k h=>h.elim
 have yD:=hs (R:=List Dt) ds some [.d .bool true] (by
  show (match q ds with | some (g,outs)=>cond g (some outs) none | none=>none)=some [.d .bool true]
  rw[hq ds hds];rfl) W W args.toList (fun _=>False) (od W) _ TE (fun b o hb=>⟨Array.getElem?_eq_some_iff.1 hb |>.1,hb⟩) ik hap (fun F hF k hk=>by
   obtain⟨_,_,rfl⟩:=List.mem_map.1 hF;exact hk) (fun k _ h=>h) (fun k hk=>hk) (fun k hk=>hk.elim)
 have jH:args.toList.toArray=args:=by simp
 replace yD:Calls P f args.toList.toArray W _:=yD
 rw[jH] at yD
 refine yD.mono ?_
 rintro e W' ⟨outs,ho,hA'⟩
 have ho:outs=[.d .bool true]:=Option.some.inj ho
 subst ho
 obtain⟨rs,Gs,Bs,he,yK,_⟩:=hA'.out
 have hv:e = .returned (.bool true):=by
  have yK:iB W W' true [false] [.d .bool true] rs Gs:=yK
  cases yK with
  |val h eK=>
   rename_i u us F Fs
   cases eK
   simp only[if_true] at h
   obtain⟨us,eU,e8⟩:=h
   obtain⟨e1,_⟩:=eU.size rfl
   obtain⟨Fs',_,_,_,hr⟩:=e8
   obtain⟨z,hz,n8⟩:=hr 0 (.v (.bool true)) rfl
   subst e1
   have n8:z = .bool true:=n8
   subst n8
   have hz:=(Option.some.inj hz)
   rw[he]
   show Ending.returned (vq [_])=_
   rw[show vq [_]=_ from rfl]
   exact congrArg Ending.returned hz
 have hB:Below W.heap.size W W':=⟨hA'.kept.os,hA'.kept.tape,hA'.kept.output,hA'.kept.same.1,fun k hk=>hA'.kept.same.2 k hk (fun h=>h)⟩
 refine⟨_,hv,?_⟩
 have hlen:dd.length=Ts.length:=(trodAll_length hA).2
 have Mi:=hfn (dd++[]) (by simpa using hlen)
 refine⟨dd,[],before,[],p,[],TJ,?_,?_,?_,hB.frame _,fun h=>by cases h⟩
 ·rw[Mi,vF]
  exact trodAll_mk1 ⟨1,by simp[DataW.trod,Value.cells,hTb]⟩
 ·rw[Mi,hp]
  simp only[List.append_nil]
  exact p4 hl hB (fun T GO=>by simpa using List.all_eq_true.1 TH T GO) hA (fun x hx=>TJ.lt x (by rw[Lh];simp[hx]))
 ·rw[Xz,Mi]
  exact rfl
end Go.Gm
namespace Go.Gm
open Go
def om(x lo hi:Int):Bool:=decide (x≥lo)&&decide (x≤hi)
def tf(s:BA)(j:Nat):Int:=(((ByteArray.data s).getD j 0).toNat:Int)
theorem ain{n j:Nat}(h:j<n)(h0:0<j)(hb:n≤9223372036854775807):IntKind.wrap .i64 ((j:Int)-(1:Int))=((j-1:Nat):Int):=by
 rw[cn (by omega) (by omega)];omega
theorem Mj{xs:List BA}(h:xs.all oO=true){j:Nat}(hj:j<xs.length):oO (al (t:= .str) xs j)=true:=by
 obtain⟨x,hx,_⟩:=cH hj
 rw[bm (t:= .str) hx];exact List.all_eq_true.1 h x (List.mem_of_getElem? hx)
def gj(n:Int):Bool:=decide (-9223372036854775808≤n)&&decide (n≤9223372036854775807)
theorem lZ{n:Int}:gj n=true↔ -9223372036854775808≤n∧n≤9223372036854775807:=by simp[gj]
def bH(s:BA):Bool:=Nat.ble s.size 1048576
def dS{α:Type}(f:α→Bool)(xs:List α):Bool:=Nat.ble xs.length 1048576&&xs.all f
theorem nf{s:BA}(h:s.size≤1048576):bH s=true:=Nat.ble_eq_true_of_le h
theorem w4{α:Type}(g:α→Nat):∀{xs:List α}{x:α},x∈xs→g x≤(xs.map g).sum
 |y::ys,x,h=>by
  simp only[List.map_cons,List.sum_cons]
  rcases List.mem_cons.1 h with rfl | h
  ·exact Nat.le_add_right _ _
  ·exact Nat.le_trans (w4 g h) (Nat.le_add_left _ _)
theorem C5{s:BA}(h:bH s=true):oO s=true:=Nat.ble_eq_true_of_le (Nat.le_trans (iD h) (by decide))
theorem Zd{α:Type}{f g:α→Bool}{xs:List α}(h:dS f xs=true)(hf:∀x,f x=true→g x=true):okL g xs=true:=by
 simp only[dS,Bool.and_eq_true] at h
 unfold okL
 rw[Nat.ble_eq_true_of_le (Nat.le_trans (iD h.1) (by decide:1048576≤TG)),Bool.true_and,List.all_eq_true]
 exact fun x hx=>hf x (List.all_eq_true.1 h.2 x hx)
theorem aR{α:Type}{f:α→Bool}{xs:List α}(h:dS f xs=true):xs.length≤1048576:=by
 simp only[dS,Bool.and_eq_true] at h;exact iD h.1
theorem kR{α:Type}{f:α→Bool}{xs:List α}(h:dS f xs=true):xs.all f=true:=by
 simp only[dS,Bool.and_eq_true] at h;exact h.2
def same{α:Type}(x:α):α:=x
def pQ{α:Type}(f:α→Bool)(x y:α):Bool:=f x&&f y
theorem w5{t:Ty}{f:El t→Bool}{xs:List (El t)}(h:dS f xs=true){j:Nat}(hj:j<xs.length):f (al xs j)=true:=by
 obtain⟨x,hx,_⟩:=cH hj
 rw[bm hx];exact List.all_eq_true.1 (kR h) x (List.mem_of_getElem? hx)
def aZ(p:Nat→Bool):Nat→Nat→Option Nat
 |_,0=>none
 |j,d+1=>cond (p j) (some j) (aZ p (j+1) d)
theorem jM{R:Type}{F:Nat→Int→Option R}{n:Nat}{p:Nat→Bool}{hit:Int→Option R}{miss:Option R}(hs:∀m j,j<n→F (m+1) (j:Int)=cond (p j) (hit (j:Int)) (F m ((j+1:Nat):Int)))
 (he:∀m,F (m+1) (n:Int)=miss):∀d j m,j+d=n→d<m→F m (j:Int)=(aZ p j d).elim miss (fun i=>hit (i:Int)):=by
 intro d
 induction d with
 |zero=>
  intro j m hj hm
  obtain⟨m,rfl⟩:∃m',m=m'+1:=⟨m-1,by omega⟩
  have:j=n:=by omega
  subst this
  rw[he];rfl
 |succ d ih=>
  intro j m hj hm
  obtain⟨m,rfl⟩:∃m',m=m'+1:=⟨m-1,by omega⟩
  rw[hs m j (by omega),ih (j+1) m (by omega) (by omega)]
  simp only[aZ]
  cases p j<;>rfl
theorem ct{p:Nat→Bool}:∀{d j i:Nat},aZ p j d=some i→j≤i∧i<j+d∧p i=true∧∀k,j≤k→k<i→p k=false
 |0,_,_,h=>by cases h
 |d+1,j,i,h=>by
  simp only[aZ] at h
  cases hp:p j with
  |true=>rw[hp] at h;cases h;exact⟨Nat.le_refl _,by omega,hp,fun k h1 h2=>by omega⟩
  |false=>
   rw[hp] at h
   obtain⟨h1,h2,h3,h4⟩:=ct h
   refine⟨by omega,by omega,h3,fun k hk tF=> ?_⟩
   by_cases e:k=j
   ·subst e;exact hp
   ·exact h4 k (by omega) tF
theorem dU{p:Nat→Bool}:∀{d j:Nat},aZ p j d=none→∀k,j≤k→k<j+d→p k=false
 |0,_,_,k,h1,h2=>by omega
 |d+1,j,h,k,h1,h2=>by
  simp only[aZ] at h
  cases hp:p j with
  |true=>rw[hp] at h;cases h
  |false=>
   rw[hp] at h
   by_cases e:k=j
   ·subst e;exact hp
   ·exact dU h k (by omega) (by omega)
def oP(o:Option Nat):Int:=o.elim (-1) fun i=>(i:Int)
end Go.Gm
namespace Go.Gm
open Go
variable {wl : World} {w w' : World} {Mf ROa : Nat → Prop}
end Go.Gm
namespace Go.Gm
open Go
abbrev Q:=Qt
def qA(μ:List Dt→Nat)(N:Nat)(q:Q):Q:=fun ds=>match q ds with | some (g,outs)=>some (g&&Nat.blt (μ ds) N,outs) | none=>none
def zM(μ:List Dt→Nat)(N:Nat)(q:Q):Q:=fun ds=>match q ds with | some (g,outs)=>some (g&&Nat.beq (μ ds) N,outs) | none=>none
theorem iN{P:Program}{f:Nat}{bR:List Am}{res:List Bool}{own:Bool}{q:Q}(h:∀ds outs,q ds=some (true,outs)→∃q0:Q,bW P f (Spec.of bR res own q0)∧q0 ds=some (true,outs)):bW P f (Spec.of bR res own q):=by
 intro R ds k r hr
 obtain⟨outs,hq,hk⟩:=Spec.rD hr
 obtain⟨q0,hs,h0⟩:=h ds outs hq
 have hr0:(Spec.of bR res own q0).fn ds k=some r:=by
  show (match q0 ds with | some (g,outs)=>cond g (k outs) none | none=>none)=some r
  rw[h0];exact hk
 intro wl w us Mf ROa Fs TE Za hA hp E' Xx C0 pP
 exact Calls.mono (hs ds k r hr0 wl w us Mf ROa Fs TE Za hA hp E' Xx C0 pP) fun e w' ⟨outs,h1,h2⟩=>⟨outs,h1,⟨h2.out,h2.kept⟩⟩
theorem dg{μ:List Dt→Nat}{N:Nat}{q:Q}{ds:List Dt}{outs:List Dt}(h:zM μ N q ds=some (true,outs)):q ds=some (true,outs)∧μ ds=N:=by
 unfold zM at h
 cases hq:q ds with
 |none=>rw[hq] at h;cases h
 |some go=>
  obtain⟨g,o⟩:=go
  rw[hq] at h
  simp only[Option.some.injEq,Prod.mk.injEq,Bool.and_eq_true] at h
  obtain⟨⟨h1,h2⟩,h3⟩:=h
  exact⟨by rw[h1,h3],iC h2⟩
theorem C6{μ:List Dt→Nat}{N:Nat}{q:Q}{ds:List Dt}{outs:List Dt}(h:qA μ N q ds=some (true,outs)):q ds=some (true,outs)∧μ ds<N:=by
 unfold qA at h
 cases hq:q ds with
 |none=>rw[hq] at h;cases h
 |some go=>
  obtain⟨g,o⟩:=go
  rw[hq] at h
  simp only[Option.some.injEq,Prod.mk.injEq,Bool.and_eq_true] at h
  obtain⟨⟨h1,h2⟩,h3⟩:=h
  rw[Nat.blt_eq] at h2
  exact⟨by rw[h1,h3],h2⟩
theorem rI{μ:List Dt→Nat}{q:Q}{ds:List Dt}{outs:List Dt}(h:q ds=some (true,outs)):zM μ (μ ds) q ds=some (true,outs):=by
 unfold zM;rw[h];simp
theorem gJ{P:Program}{f:Nat}{bR:List Am}{res:List Bool}{own:Bool}{q:Q}(μ:List Dt→Nat)
 (h:∀N,bW P f (Spec.of bR res own (qA μ N q))→bW P f (Spec.of bR res own (zM μ N q))):bW P f (Spec.of bR res own q):=by
 have all:∀N,bW P f (Spec.of bR res own (zM μ N q)):=by
  intro N
  induction N using Nat.strongRecOn with
  |_ N ih=>
   refine h N (iN fun ds outs hq=> ?_)
   obtain⟨h1,h2⟩:=C6 hq
   exact⟨zM μ (μ ds) q,ih (μ ds) h2,rI h1⟩
 intro R
 exact iN fun ds outs hq=>⟨zM μ (μ ds) q,all (μ ds),rI hq⟩
structure Rc where
 f:Nat
 ms:List Am
 rs:List Bool
 ow:Bool
 mu:List Dt→Nat
 q:Q
theorem tg{P:Program}(L:List Rc)
 (h:∀N,(∀ x∈L,bW P x.f (Spec.of x.ms x.rs x.ow (qA x.mu N x.q)))→∀x∈L,bW P x.f (Spec.of x.ms x.rs x.ow (zM x.mu N x.q))):
    ∀x∈L,bW P x.f (Spec.of x.ms x.rs x.ow x.q):=by
 have all:∀N,∀x∈L,bW P x.f (Spec.of x.ms x.rs x.ow (zM x.mu N x.q)):=by
  intro N
  induction N using Nat.strongRecOn with
  |_ N ih=>
   refine h N fun x hx=>iN fun ds outs hq=> ?_
   obtain⟨h1,h2⟩:=C6 hq
   exact⟨zM x.mu (x.mu ds) x.q,ih (x.mu ds) h2 x hx,rI h1⟩
 intro x hx R
 exact iN fun ds outs hq=>⟨zM x.mu (x.mu ds) x.q,all (x.mu ds) x hx,rI hq⟩
section ev
variable {wl : World} {R : Type}
end ev
variable {R : Type} {P : Program} {E : Env} {w0 w w' : World} {Mf : Nat → Prop} {g : Gh} {st : St} {a : Act}
end Go.Gm
namespace Go.Gm
open Go
variable {wl : World} {P : Program} {w w' : World} {Mf ROa : Nat → Prop}
theorem w6:∀{ms:List Am}{ds:List Dt}{us:List Value},ms.all (fun m=> !(gI m))=true→ms.length=us.length→ds.length=us.length→ey wl w ms ds us [] []
 | [],[],[],_,_,_=> .nil
 |m::ms,d::ds,u::us,h,h1,h2=>by
  simp only[List.all_cons,Bool.and_eq_true] at h
  refine .skip ?_ (w6 h.2 (by simpa using h1) (by simpa using h2))
  cases m<;>first | trivial | exact absurd h.1 (by simp[gI])
 | [],_::_,[],_,_,h=>by simp at h
 | [],_,_::_,_,h,_=>by simp at h
 |_::_,_,[],_,h,_=>by simp at h
 |_::_,[],_::_,_,_,h=>by simp at h
theorem pV.aio{s:Spec}(ez:s.own=true)(vF:s.res=[false])(hm:s.bR.all (fun m=> !(gI m))=true){ds:List Dt}{us:List Value}(h1:s.bR.length=us.length)(h2:ds.length=us.length){t:Ty}{x:El t}{v:Value}
    {G:Nat→Prop} (hv:je w' G t x v) (hG:∀k,G k→(Mf k∨w.heap.size≤k)∧k<w'.heap.size) (hk:Kept w w' Mf):pV wl w w' Mf ROa s ds us [.d t x] (.returned v):=by
 refine⟨⟨[v],[G],[],rfl,?_,?_,List.Pairwise.nil,fun B hB=>by simp at hB,fun _=>⟨List.pairwise_singleton _ _,fun G' qT k hk=> ?_⟩,fun e=>absurd (ez.symm.trans e) (by simp),fun G hG B hB=>by simp at hB,fun G' qT k hk=> ?_,fun B hB=>by simp at hB⟩,hk⟩
 ·rw[ez,vF];exact .val (by simpa using hv) .nil
 ·rw[vF];exact w6 hm h1 h2
 ·have:G'=G:=by simpa using qT
  subst this;exact (hG k hk).1
 ·have:G'=G:=by simpa using qT
  subst this;exact (hG k hk).2
theorem pB{f:Nat}{bR:List Am}{q:Qt}(hm:bR.all (fun m=> !(gI m))=true)
 (h:∀ds outs,q ds=some (true,outs)→∃t x,outs=[.d t x]∧∀{wl:World}(w:World)(us:List Value)(Mf ROa:Nat→Prop)(Fs:List (Nat→Prop)),cP wl w ROa bR ds us Fs→bS Fs→(∀ F∈Fs,∀k,F k→Mf k)→
 (∀ k,ROa k→ ¬Mf k)→(∀ k,ROa k→k<w.heap.size)→(∀ k,Mf k→k<w.heap.size)→
      Calls P f us.toArray w fun e w'=>∃v G,e = .returned v∧Kept w w' Mf∧je w' G t x v∧∀k,G k→(Mf k∨w.heap.size≤k)∧k<w'.heap.size):bW P f (Spec.of bR [false] true q):=by
 intro R ds k r hr wl w us Mf ROa Fs TE Za hA hp E' Xx C0 pP
 obtain⟨outs,hq,hk⟩:=Spec.rD hr
 obtain⟨t,x,rfl,hc⟩:=h ds outs hq
 refine Calls.mono (hc w us Mf ROa Fs hA hp E' Xx C0 pP) ?_
 rintro e w' ⟨v,G,rfl,h1,h2,h3⟩
 obtain⟨pZ,hl2,_⟩:=hA.len
 exact⟨_,hk,pV.aio rfl rfl hm pZ hl2 h2 h3 h1⟩
theorem jN{G:Nat→Prop}{t:Ty}{xs:List (El t)}{v:Value}(h:jB w G t xs v):je w G (.sl t) xs v:=by
 refine⟨#[v],by simp[Form,iZ,h.flat],fun j=>if j=0 then G else fun _=>False,fun j k hk=> ?_,fun j j' k hk tF=> ?_,by simp[enc],fun j c hc=> ?_⟩
 ·dsimp only at hk
  split at hk
  ·exact hk
  ·exact hk.elim
 ·dsimp only at hk tF
  by_cases e1:j=0
  ·by_cases e2:j'=0
   ·omega
   ·simp[e2] at tF
  ·simp[e1] at hk
 ·cases j with
  |zero=>
   simp only[enc,List.getElem?_cons_zero,Option.some.injEq] at hc
   subst hc
   exact⟨v,rfl,by simpa [gX] using h⟩
  |succ j=>simp[enc] at hc
theorem Ml{Pr:Nat→Prop}{t:Ty}{xs:List (El t)}{u:Value}(h:ox w Pr (.sl t) xs u):gC w Pr t xs u:=by
 obtain⟨us,hf,hr⟩:=h
 obtain⟨e,_⟩:=hf.size rfl
 subst e
 obtain⟨z,hz,hc⟩:=hr.2 0 (.l t xs) rfl
 have hz:u=z:=by simpa using hz
 subst hz;exact hc
theorem nI{F:Nat→Prop}{t:Ty}{xs:List (El t)}{u:Value}(h:je w F (.sl t) xs u):∃G,(∀ k,G k→F k)∧jB w G t xs u:=by
 obtain⟨us,hf,Fs,h1,h2,h3,h4⟩:=h
 obtain⟨e,_⟩:=hf.size rfl
 subst e
 obtain⟨z,hz,hc⟩:=h4 0 (.l t xs) rfl
 have hz:u=z:=by simpa using hz
 subst hz
 exact⟨Fs 0,h1 0,hc⟩
def Mm(P:Program)(f:Nat):Prop:=∀(a:Option Addr)(c:Nat)(w:World),Calls P f #[.slice a 0 c] w fun e w'=>
 (e = .returned (.slice none 0 0)∧w'=w)∨∃el,e = .returned (.slice (some ⟨w.heap.size,0,none⟩) 0 0)∧w'=w.alloc (.cells #[] el)
theorem Jp(w:World)(F:Nat→Prop)(t:Ty){v:Value}(h:bA w F t [] v fun _ _=>v):jB w F t [] v:=by
 refine⟨fun _=>v,rfl,fun p s hs=> ?_,fun p q s s' b hp hq _ _=> ?_⟩
 ·cases p with
  |nil=>simp only[aQ,Option.some.injEq] at hs;subst hs;exact h
  |cons ij p=>simp[aQ] at hs
 ·cases p with
  |nil=>cases q with
   |nil=>rfl
   |cons ij q=>simp[aQ] at hq
  |cons ij p=>simp[aQ] at hp
theorem C7{f:Nat}{t:Ty}(h:Mm P f){q:Qt}(hq:∀ds outs,q ds=some (true,outs)→ds=[.d (.sl t) []]∧outs=[.d (.sl t) []]):bW P f (Spec.of [.ro] [false] true q):=by
 refine pB rfl fun ds outs TL=> ?_
 obtain⟨rfl,rfl⟩:=hq ds outs TL
 refine⟨_,_,rfl,fun w us Mf ROa Fs hA _ _ _ _ _=> ?_⟩
 cases hA with
 |cons h1 hA=>
  cases hA
  obtain⟨av,h0,fX⟩:=Ml h1
  obtain⟨a,cap,e1,_,_⟩:=fX [] ⟨t,[]⟩ rfl
  rw[h0] at e1
  subst e1
  refine Calls.mono (h a cap w) ?_
  rintro e w' (⟨rfl,rfl⟩ | ⟨el,rfl,rfl⟩)
  ·exact⟨_,fun _=>False,rfl,⟨rfl,rfl,rfl,Nat.le_refl _,fun _ _ _=>rfl⟩,jN (vG _ _ _),fun _ h=>h.elim⟩
  ·refine⟨_,fun k=>k=w.heap.size,rfl,⟨rfl,rfl,rfl,by simp,fun b hb _=>heap_alloc_old w _ hb⟩,jN (Jp _ _ _ ?_),fun k hk=> ?_⟩
   ·exact .inr ⟨w.heap.size,0,0,#[],el,rfl,rfl,heap_alloc_new w _,Nat.le_refl _,by simp,fun i y j c h=>by simp at h⟩
   ·subst hk;exact⟨.inr (Nat.le_refl _),by simp⟩
theorem Fe{f:Nat}{q qa qb:Qt}(ha:bW P f (Spec.of [.ro] [false] true qa))(hb:bW P f (Spec.of [.ro] [false] true qb))(h:∀ds outs,q ds=some (true,outs)→qa ds=some (true,outs)∨qb ds=some (true,outs)):
    bW P f (Spec.of [.ro] [false] true q):=
  iN fun ds outs hq=>(h ds outs hq).elim (fun h=>⟨qa,ha,h⟩) fun h=>⟨qb,hb,h⟩
end Go.Gm
namespace Go.Gm
open Go
variable {wl : World} {P : Program} {E : Env} {w w' : World}
theorem yN(t ty e:TypeId)(i:TypeInfo)(ht:P.underlying t=some (.slice e))(hi:P.info? e=some i)(b off n cap:Nat)(a:Addr)(m c:Nat)(news:List Value)(hl:news.length=m*i.size)
 (adT:∀j u,news[j]? =some u→w.cell? (a.add j)=some u) (h1:∀u∈news,u.oneCell'=true) (kH:n+m≤cap) (cs:Array Value) (el:TypeId) (hb:w.heap[b]? =some (.cells cs el (0,0))) (da:off+n*i.size+news.length≤cs.size):
 (Builtin.append_ #[t,t] ty #[.slice (some ⟨b,off,none⟩) n cap,.slice (some a) m c]).run P w = .ok (.slice (some ⟨b,off,none⟩) (n+m) cap) (w.setRow b (putAt cs (off+n*i.size) news.toArray)):=by
 have hfc:=run_firstCells_some (P:=P) w i.size m a m c news hl adT
 have jh:=run_storeCells_at P b (off+n*i.size) el news 0 cs w hb (by simpa using da) h1
 simp only[Nat.add_zero] at jh
 rw[← k8 (by simpa using da)]
 simp[Builtin.append_,run_underlying ht,sizeOf,typeInfo,hi,Builtin.lenOf,kH,hfc,eA,jh]
theorem oQ{ops:Array Oper}{o:Oper}{a:Act}{K:Act→World→Prop}{Q:Exit→Act→World→Prop}{R:Prop}
    (hg:o.guard=none) (s x:Operand) (t:TypeId) (b9:o.op=Op.call { callee:=Callee.builtin Builtin.append,args:= #[s,x],argTypes:= #[t,t] })
 (e:TypeId) (i:TypeInfo) (size:Nat) (h1:P.underlying t=some (.slice e)) (h2:P.info? e=some i) (h4:i.size=size)
 (b off n cap:Nat) (hs:a.eval s = .slice (some ⟨b,off,none⟩) n cap)
 (ad:Addr) (m c:Nat) (news:List Value) (hx:a.eval x = .slice (some ad) m c) (hn:news.length=m*size) (hc:∀j u,news[j]? =some u→w.cell? (ad.add j)=some u) (h1c:∀u∈news,u.oneCell'=true)
 (kH:n+m≤cap) (cs:Array Value) (el:TypeId) (hb:w.heap[b]? =some (.cells cs el (0,0))) (da:off+n*size+news.length≤cs.size)
 (hK:K (a.put o.dst (.slice (some ⟨b,off,none⟩) (n+m) cap)) (w.setRow b (putAt cs (off+n*size) news.toArray))):
    if Region.wanted o (yielded ops a.tmps)=true then Oper.wp P o a w K Q else R:=by
 have hw:Region.wanted o (yielded ops a.tmps)=true:=by simp[Region.wanted,hg]
 rw[if_pos hw]
 subst h4
 have df:=yN (P:=P) (w:=w) t o.type e i h1 h2 b off n cap ad m c news hn hc h1c kH cs el hb da
 unfold Oper.wp
 simp[execOp,b9,resolve,invoke,builtin,hs,hx,df,Result.andThen]
 exact hK
def Ba(w w':World)(b o n i j sz:Nat)(cs:Array Value)(el:TypeId):Prop:=
  Kept w w' (fun k=>k=b)∧∃sK,w'.heap[b]? =some (.cells sK el (0,0))∧sK.size=cs.size∧∀k,k<(n-(j-i))*sz→sK[o+k]? =cs[o+if k<i*sz then k else k+(j-i)*sz]?
def Ze(P:Program)(f sz:Nat):Prop:=
 (∀(a:Option Addr)(n cap i:Nat)(w:World),i≤n→n≤cap→Calls P f #[.slice a n cap,.int .i64 i,.int .i64 i] w fun e w'=>e = .returned (.slice a n cap)∧w'=w)∧
  ∀(b o n cap i j:Nat)(cs:Array Value)(el:TypeId)(w:World),i<j→j≤n→n≤cap→w.heap[b]? =some (.cells cs el (0,0))→o+cap*sz≤cs.size→(∀ k u,k<n*sz→cs[o+k]? =some u→u.oneCell'=true)→
    Calls P f #[.slice (some ⟨b,o,none⟩) n cap,.int .i64 i,.int .i64 j] w fun e w'=>e = .returned (.slice (some ⟨b,o,none⟩) (n-(j-i)) cap)∧Ba w w' b o n i j sz cs el
theorem C8(hE:E.Ok P){T:TypeId}{e:Ty}(hT:E.code T=some (.sl e)){sz:Nat}(dy:ar e=sz){b o n cap i j:Nat}{cs:Array Value}{el:TypeId}(zq:i<j)(hj:j≤n)(hn:n≤cap)
 (hb:w.heap[b]? =some (.cells cs el (0,0))) (hs:o+cap*sz≤cs.size) (h1:∀k u,k<n*sz→cs[o+k]? =some u→u.oneCell'=true):
    ∃(eT:TypeId)(ii:TypeInfo)(news:List Value)(W1 W2:World),P.underlying T=some (.slice eT)∧P.info? eT=some ii∧ii.size=sz∧news.length=(n-j)*sz∧(∀ u∈news,u.oneCell'=true)∧
 (∀ A:Addr,A=⟨b,o+j*sz,none⟩∨n=j→∀t u,news[t]? =some u→w.drew.cell? (A.add t)=some u)∧o+i*sz+news.length≤cs.size∧W1=w.drew.setRow b (putAt cs (o+i*sz) news.toArray)∧
 (∀ ty,(Builtin.clear_ #[T] ty #[.slice (some ⟨b,o+(i+(n-j))*sz,none⟩) (n-(i+(n-j))) (cap-(i+(n-j)))]).run P W1 = .ok (.tuple #[]) W2)∧Ba w W2 b o n i j sz cs el:=by
 subst dy
 obtain⟨eT,hu,pg⟩:=hE.slice hT
 obtain⟨ii,zv,hi,dy,Ys,hz,vA⟩:=hE.info eT e pg
 have n9:=eW e
 have IM:zv.cells.size=ar e:=by rw[vA];simp[dP,bl]
 have hzf:∀v∈zv.cells.toList,v.oneCell'=true:=by
  rw[vA]
  intro v hv
  simp only[dP] at hv
  obtain⟨c,hc,rfl⟩:=List.mem_map.1 (by simpa using hv)
  obtain⟨m,hm⟩:=List.getElem?_of_mem hc
  cases c with
  |v x=>exact oC (fu (P':=fun _=>True) (w:=w) hm rfl)
  |l t ys=>rfl
 have SJ:j*ar e≤n*ar e:=Nat.mul_le_mul_right _ hj
 have G7:n*ar e≤cap*ar e:=Nat.mul_le_mul_right _ hn
 have hm3:i*ar e≤j*ar e:=Nat.mul_le_mul_right _ (Nat.le_of_lt zq)
 have hm4:(n-j)*ar e=n*ar e-j*ar e:=Nat.sub_mul _ _ _
 have hm5:(j-i)*ar e=j*ar e-i*ar e:=Nat.sub_mul _ _ _
 have hm6:(i+(n-j))*ar e=i*ar e+(n*ar e-j*ar e):=by rw[Nat.add_mul,hm4]
 have hm7:(n-(i+(n-j)))*ar e=j*ar e-i*ar e:=by rw[show n-(i+(n-j))=j-i by omega,hm5]
 have hm8:(n-(j-i))*ar e=i*ar e+(n*ar e-j*ar e):=by rw[show n-(j-i)=i+(n-j) by omega,hm6]
 have hlen:((cs.toList.drop (o+j*ar e)).take ((n-j)*ar e)).length=(n-j)*ar e:=by simp;omega
 have kO:∀t,t<(n-j)*ar e→((cs.toList.drop (o+j*ar e)).take ((n-j)*ar e))[t]? =cs[o+j*ar e+t]? :=by
  intro t ht
  rw[List.getElem?_take,if_pos ht,List.getElem?_drop,Array.getElem?_toList]
 generalize (cs.toList.drop (o+j*ar e)).take ((n-j)*ar e)=news at hlen kO
 have Xe:∀t u,news[t]? =some u→t<(n-j)*ar e:=fun t u hu=>by
  have:=(List.getElem?_eq_some_iff.1 hu).1
  omega
 have da:o+i*ar e+news.length≤cs.size:=by omega
 have zu:(w.drew.setRow b (putAt cs (o+i*ar e) news.toArray)).heap[b]? =some (.cells (putAt cs (o+i*ar e) news.toArray) el (0,0)):=setRow_heap w.drew b cs _ el (0,0) hb
 have Bb:(putAt cs (o+i*ar e) news.toArray).size=cs.size:=cG (by simpa using da)
 have uT:=fun ty=>rh (P:=P) T eT ty zv hu (fun w=>by simp[zeroValue,typeInfo,hi,hz]) hzf (by omega) b (o+(i+(n-j))*ar e) (n-(i+(n-j))) (cap-(i+(n-j))) (by omega) _ el zu (by rw[Bb,IM,hm7];omega)
 have Xh:(Builtin.zeroCells zv.cells (n-(i+(n-j)))).size=j*ar e-i*ar e:=by rw[size_zeroCells,IM,hm7]
 have Zf:(putAt (putAt cs (o+i*ar e) news.toArray) (o+(i+(n-j))*ar e) (Builtin.zeroCells zv.cells (n-(i+(n-j))))).size=cs.size:=by rw[cG (by rw[Bb,Xh];omega),Bb]
 refine⟨eT,ii,news,_,_,hu,hi,dy,hlen,fun u hu=> ?_,fun A hA t u hu=> ?_,da,rfl,uT,⟨rfl,rfl,rfl,?_⟩,_,setRow_heap _ b _ _ el (0,0) zu,Zf,fun k hk=> ?_⟩
 ·obtain⟨t,ht⟩:=List.getElem?_of_mem hu
  have bU:=Xe t u ht
  rw[kO t bU] at ht
  exact h1 (j*ar e+t) u (by omega) (by rw[← Nat.add_assoc];exact ht)
 ·have bU:=Xe t u hu
  rcases hA with rfl | h
  ·rw[kO t bU] at hu
   rw[eA,lx (w:=w.drew) hb]
   exact hu
  ·subst h;simp at bU
 ·exact bD.trans (Y:=fun k=>k=b) (Z:=fun k=>k=b) (dQ w.drew b _) (dQ _ b _) (fun _ h=>h) (fun _ _ h=>h)
 ·rw[hm8] at hk
  rw[e7 (by rw[Bb,Xh];omega),if_neg (by omega),e7 (by simpa using da)]
  have B6:news.toArray.size=news.length:=by simp
  by_cases h:k<i*ar e
  ·rw[if_neg (by omega),if_pos h]
  ·rw[if_pos (by omega),if_neg h,List.getElem?_toArray,show o+k-(o+i*ar e)=k-i*ar e by omega,kO _ (by omega),hm5]
   congr 1
   omega
theorem a8.pick{F:Nat→Prop}{t:Ty}{xs ys:List (El t)}{av:Path→Value}(h:a8 w F t xs av)(σ:Nat→Nat)(hσ:∀i y,ys[i]? =some y→xs[σ i]? =some y)(hinj:∀i i',σ i=σ i'→i=i')
 (ca:bD (fun k=>qR (av [])=some k) w w') {v:Value} (AF:∀k,qR v=some k→qR (av [])=some k) (hn:bA w' F t ys v fun i j=>av [(σ i,j)]):jB w' F t ys v:=by
 have eC:∀i j p s,aQ t ys ((i,j)::p)=some s→aQ t xs ((σ i,j)::p)=some s:=by
  intro i j p s hs
  simp only[aQ] at hs ⊢
  split at hs
  ·rename_i y hy
   rw[hσ i y hy];exact hs
  ·cases hs
 refine⟨fun p=>match p with | []=>v | (i,j)::p=>av ((σ i,j)::p),rfl,fun p s hs=> ?_,fun p q s s' k hp hq hk tF=> ?_⟩
 ·cases p with
  |nil=>simp only[aQ,Option.some.injEq] at hs;subst hs;exact hn
  |cons x p=>
   obtain⟨i,j⟩:=x
   have eK:=eC i j p s hs
   exact (h.1 _ s eK).here ca fun k hk e=>by have:=h.2 _ [] s ⟨t,xs⟩ k eK rfl hk e;cases this
 ·cases p with
  |nil=>cases q with
   |nil=>rfl
   |cons y q=>
    obtain⟨i,j⟩:=y
    have:=h.2 [] _ ⟨t,xs⟩ s' k rfl (eC i j q s' hq) (AF k hk) tF
    cases this
  |cons x p=>
   obtain⟨i,j⟩:=x
   cases q with
   |nil=>
    have:=h.2 _ [] s ⟨t,xs⟩ k (eC i j p s hp) rfl hk (AF k tF)
    cases this
   |cons y q=>
    obtain⟨i',j'⟩:=y
    have:=h.2 _ _ s s' k (eC i j p s hp) (eC i' j' q s' hq) hk tF
    simp only[List.cons.injEq,Prod.mk.injEq] at this
    obtain⟨⟨h1,rfl⟩,rfl⟩:=this
    rw[hinj _ _ h1]
theorem a8.Hw{F:Nat→Prop}{t:Ty}{xs:List (El t)}{av:Path→Value}(h:a8 w F t xs av){cs:Array Value}{o:Nat}(hr:RowsIn t xs cs o fun i j=>av [(i,j)]):∀k u,k<xs.length*ar t→cs[o+k]? =some u→u.oneCell'=true:=by
 intro k u hk hu
 have n9:=eW t
 have hi:k/ar t<xs.length:=Nat.div_lt_of_lt_mul (by rw[Nat.mul_comm];exact hk)
 have hj:k%ar t<ar t:=Nat.mod_lt _ n9
 have hc:=List.getElem?_eq_getElem (l:=enc t xs[k/ar t]) (i:=k%ar t) (by rw[bl];exact hj)
 obtain⟨z,hz,n8⟩:=hr (k/ar t) xs[k/ar t] (k%ar t) _ (List.getElem?_eq_getElem hi) hc
 have:k/ar t*ar t+k%ar t=k:=by rw[Nat.mul_comm];exact Nat.div_add_mod k (ar t)
 rw[Nat.add_assoc,this,hu] at hz;cases hz
 generalize (enc t xs[k/ar t])[k%ar t]'(by rw[bl];exact hj)=c at hc n8
 cases c with
 |v x=>exact oC (fu (P':=fun _=>True) (w:=w) hc n8)
 |l t' ys=>
  have hs:=h.1 [(k/ar t,k%ar t)] ⟨t',ys⟩ (ke (List.getElem?_eq_getElem hi) hc)
  simp only[eI] at n8
  subst n8
  rcases hs with ⟨_,e⟩ | ⟨b,o,cap,cs,el,e,_⟩<;>rw[e]<;>rfl
theorem C9{f:Nat}{t:Ty}{sz:Nat}(dy:ar t=sz)(h:Ze P f sz){q:Qt}
 (hq:∀ds outs,q ds=some (true,outs)→∃(xs:List (El t))(i j:Nat),ds=[.d (.sl t) xs,.d (.i .i64) (i:Int),.d (.i .i64) (j:Int)]∧i≤j∧j≤xs.length∧outs=[.d (.sl t) (xs.take i++xs.drop j)]):
    bW P f (Spec.of [.oh,.ro,.ro] [false] true q):=by
 subst dy
 refine pB rfl fun ds outs TL=> ?_
 obtain⟨xs,i,j,rfl,zq,hj,rfl⟩:=hq ds outs TL
 refine⟨_,_,rfl,fun w us Mf ROa Fs hA _ E' _ _ pP=> ?_⟩
 cases hA with
 | @cons _ _ _ _ u1 us F Fs h1 hA=>
  cases hA with
  |cons h2 hA=>
   cases hA with
   |cons h3 hA=>
    cases hA
    have e2:=A6 (t:= .i .i64) (v:= .int .i64 i) rfl rfl h2
    have e3:=A6 (t:= .i .i64) (v:= .int .i64 j) rfl rfl h3
    subst e2;subst e3
    obtain⟨G,hG,ez⟩:=nI h1
    have TM:∀k,G k→Mf k:=fun k hk=>E' F (by simp) k (hG k hk)
    have same:i=j→∀(a:Option Addr)(cap:Nat),u1 = .slice a xs.length cap→xs.length≤cap→Calls P f #[u1,.int .i64 i,.int .i64 j] w fun e w'=>∃v G,e = .returned v∧Kept w w' Mf∧je w' G (.sl t) (xs.take i++xs.drop j) v∧∀k,G k→(Mf k∨w.heap.size≤k)∧k<w'.heap.size:=by
     rintro rfl a cap rfl dr
     refine Calls.mono (h.1 a xs.length cap i w hj dr) ?_
     rintro e w' ⟨rfl,rfl⟩
     rw[List.take_append_drop]
     exact⟨_,G,rfl,⟨rfl,rfl,rfl,Nat.le_refl _,fun _ _ _=>rfl⟩,jN ez,fun k hk=>⟨.inl (TM k hk),pP k (TM k hk)⟩⟩
    obtain⟨av,h0,hT⟩:=ez
    have fK:=hT.1 [] ⟨t,xs⟩ rfl
    rw[h0] at fK
    rcases fK with ⟨e,rfl⟩ | ⟨b,o,cap,cs,el,rfl,hF,hb,dr,eh,du⟩
    ·have e:xs=[]:=e
     subst e
     exact same (by simp at hj;omega) none 0 rfl (Nat.le_refl _)
    ·have dr:xs.length≤cap:=dr
     have eh:o+cap*ar t≤cs.size:=eh
     have du:RowsIn t xs cs o fun i j=>av [(i,j)]:=du
     by_cases dn:i=j
     ·exact same dn _ cap rfl dr
     ·have bU:i<j:=by omega
      refine Calls.mono (h.2 b o xs.length cap i j cs el w bU hj dr hb eh (hT.Hw du)) ?_
      rintro e w' ⟨rfl,hk,sK,fI,fq,kO⟩
      have hlen:(xs.take i++xs.drop j).length=xs.length-(j-i):=by simp;omega
      refine⟨_,G,rfl,⟨hk.os,hk.tape,hk.output,hk.same.1,fun k AN Ee=>hk.same.2 k AN fun e=>by subst e;exact Ee (TM _ hF)⟩,?_,fun k tF=>⟨.inl (TM k tF),Nat.lt_of_lt_of_le (pP k (TM k tF)) hk.same.1⟩⟩
      have hσ:∀m y,(xs.take i++xs.drop j)[m]? =some y→xs[if m<i then m else m+(j-i)]? =some y:=by
       intro m y hy
       by_cases hm:m<i
       ·rw[List.getElem?_append_left (by simp;omega),List.getElem?_take,if_pos hm] at hy
        rw[if_pos hm];exact hy
       ·rw[List.getElem?_append_right (by simp;omega),List.getElem?_drop] at hy
        rw[if_neg hm,←hy]
        congr 1
        simp;omega
      refine jN (hT.pick (fun m=>if m<i then m else m+(j-i)) hσ (fun m m' e=>by split at e<;>split at e<;>omega) ⟨hk.same.1,fun k AN Ee=>hk.same.2 k AN fun e=>by subst e;exact Ee (by rw[h0];rfl)⟩ (fun k hk=>by rw[h0];exact hk) (.inr ⟨b,o,cap,sK,el,?_,hF,fI,?_,by omega,?_⟩))
      ·rw[hlen]
      ·rw[hlen];omega
      ·intro m y c z hy hc
       obtain⟨u,hu,lr⟩:=du _ y c z (hσ m y hy) hc
       refine⟨u,?_,lr⟩
       have TA:=mY hy
       have uT:=jI hc
       have h1:m*ar t+ar t≤(xs.length-(j-i))*ar t:=by
        have:(m+1)*ar t≤(xs.length-(j-i))*ar t:=Nat.mul_le_mul_right _ (by omega)
        rw[Nat.add_mul] at this;omega
       rw[Nat.add_assoc,kO (m*ar t+c) (by omega),←hu]
       congr 1
       by_cases hm:m<i
       ·have:m*ar t+ar t≤i*ar t:=by
         have:(m+1)*ar t≤i*ar t:=Nat.mul_le_mul_right _ (by omega)
         rw[Nat.add_mul] at this;omega
        rw[if_pos (by omega),if_pos hm];omega
       ·have:i*ar t≤m*ar t:=Nat.mul_le_mul_right _ (by omega)
        rw[if_neg (by omega),if_neg hm,Nat.add_mul (m) (j-i)];omega
end Go.Gm
namespace Go.Gm
open Go
def gv{α:Type}(xs:List α)(i j:Int):List α:=xs.take i.toNat++xs.drop j.toNat
def Bc{α:Type}(xs:List α)(i j:Int):Bool:=decide (0≤i)&&decide (i≤j)&&decide (j≤(xs.length:Int))
theorem oR{α A R:Type}{xs:List α}{F:Nat→Nat→A→Option R}{f:A→α→A}{good:A→Option R}(inv:Nat→A→Prop)
 (hi:∀(j:Nat) a x,xs[j]? =some x→inv j a→inv (j+1) (f a x))
 (hs:∀m (j:Nat) a x,xs[j]? =some x→inv j a→F (m+1) j a=F m (j+1) (f a x)) (he:∀m a,inv xs.length a→F (m+1) xs.length a=good a):
    ∀(d j m:Nat)(a:A),j+d=xs.length→d<m→inv j a→F m j a=good ((xs.drop j).foldl f a):=by
 intro d
 induction d with
 |zero=>
  intro j m a hj hm hia
  obtain⟨m,rfl⟩:∃m',m=m'+1:=⟨m-1,by omega⟩
  have:j=xs.length:=by omega
  subst this
  rw[he m a hia,List.drop_length];rfl
 |succ d ih=>
  intro j m a hj hm hia
  obtain⟨m,rfl⟩:∃m',m=m'+1:=⟨m-1,by omega⟩
  obtain⟨x,hx,hd⟩:=cH (show j<xs.length by omega)
  rw[hs m j a x hx hia,hd,List.foldl_cons]
  exact ih (j+1) m _ (by omega) (by omega) (hi j a x hx hia)
def ef(n:Nat):List UInt8:=if n<10 then [UInt8.ofNat (48+n)] else ef (n/10)++[UInt8.ofNat (48+n%10)]
termination_by n
decreasing_by omega
theorem hU{n:Nat}(h:n<10):ef n=[UInt8.ofNat (48+n)]:=by rw[ef,if_pos h]
theorem jO{n:Nat}(h : ¬n<10):ef n=ef (n/10)++[UInt8.ofNat (48+n%10)]:=by rw[ef,if_neg h]
theorem qB:∀(k n:Nat),n<10^(k+1)→(ef n).length≤k+1
 |0,n,h=>by rw[hU (by omega)];simp
 |k+1,n,h=>by
  by_cases h1:n<10
  ·rw[hU h1];simp
  ·rw[jO h1,List.length_append]
   have:=qB k (n/10) (by rw[Nat.pow_succ] at h;omega)
   simp only[List.length_cons,List.length_nil];omega
def bw(n:Int):BA:=⟨((if n<0 then [(45:UInt8)] else [])++ef n.natAbs).toArray⟩
theorem ld{n:Int}(h:gj n=true):(bw n).size≤20:=by
 rw[lZ] at h
 have h1:=qB 18 n.natAbs (by have:(10:Nat)^(18+1)=10000000000000000000:=rfl;omega)
 show ((if n<0 then [(45:UInt8)] else [])++ef n.natAbs).toArray.size≤20
 rw[List.size_toArray,List.length_append]
 split<;>simp<;>omega
theorem qC{x y:BA}(h:x.data.toList=y.data.toList):x=y:=by
 cases x;cases y
 congr
 exact Array.toList_inj.1 h
theorem w7(x y:BA):(x++y).data.toList=x.data.toList++y.data.toList:=by simp
theorem Hx:∀d:Nat,d<10→Utf8.encode (IntKind.wrap .i32 (IntKind.wrap .i64 ((48:Int)+(d:Int))))=⟨#[UInt8.ofNat (48+d)]⟩
 |0,_=>rfl | 1,_=>rfl | 2,_=>rfl | 3,_=>rfl | 4,_=>rfl | 5,_=>rfl | 6,_=>rfl | 7,_=>rfl | 8,_=>rfl | 9,_=>rfl
 |d+10,h=>by omega
theorem C'{n:Int}(h:0≤n):Int.tmod n 10=((n.natAbs%10:Nat):Int):=by
 obtain⟨m,rfl⟩:=Int.eq_ofNat_of_zero_le h
 rfl
theorem oS{n:Int}(h:0≤n):Int.tdiv n 10=((n.natAbs/10:Nat):Int):=by
 obtain⟨m,rfl⟩:=Int.eq_ofNat_of_zero_le h
 rfl
theorem tmod_neg{n:Int}(h:n<0):Int.tmod n 10 = -((n.natAbs%10:Nat):Int):=by
 obtain⟨m,rfl⟩:∃m:Nat,n = -(m:Int):=⟨n.natAbs,by omega⟩
 rw[Int.neg_tmod]
 have:(-(m:Int)).natAbs=m:=by omega
 rw[this];rfl
theorem tdiv_neg{n:Int}(h:n<0):Int.tdiv n 10 = -((n.natAbs/10:Nat):Int):=by
 obtain⟨m,rfl⟩:∃m:Nat,n = -(m:Int):=⟨n.natAbs,by omega⟩
 rw[Int.neg_tdiv]
 have:(-(m:Int)).natAbs=m:=by omega
 rw[this];rfl
theorem im(m:Nat):bw (m:Int)=⟨(ef m).toArray⟩:=by
 unfold bw
 rw[if_neg (by omega)];simp
theorem Mn{n:Int}(h0:0≤n)(h:n<10):bw n=Utf8.encode (IntKind.wrap .i32 (IntKind.wrap .i64 ((48:Int)+n))):=by
 obtain⟨m,rfl⟩:=Int.eq_ofNat_of_zero_le h0
 rw[Hx m (by omega),im,hU (by omega)]
theorem Da{n:Int}(h0:n<0)(h:n > -10):bs [45]++bw (IntKind.wrap .i64 (0-n))=bw n:=by
 obtain⟨m,rfl⟩:∃m:Nat,n = -(m:Int):=⟨n.natAbs,by omega⟩
 rw[cn (by omega) (by omega),show (0:Int) - -(m:Int)=(m:Int) by omega,im]
 unfold bw
 rw[if_pos h0]
 apply qC
 rw[w7];simp[bs]
theorem TN{n:Int}(h : ¬n<10):bw (Int.tdiv n 10)++Utf8.encode (IntKind.wrap .i32 (IntKind.wrap .i64 ((48:Int)+(Int.tmod n 10))))=bw n:=by
 rw[oS (by omega),C' (by omega),Hx _ (by omega),im]
 obtain⟨m,rfl⟩:∃m:Nat,n=(m:Int):=⟨n.natAbs,by omega⟩
 rw[im]
 apply qC
 rw[w7]
 simp only[Int.natAbs_natCast]
 rw[jO (n:=m) (by omega)]
theorem TO{n:Int}(h : ¬n > -10):bw (Int.tdiv n 10)++bw (IntKind.wrap .i64 (0-(Int.tmod n 10)))=bw n:=by
 rw[tdiv_neg (by omega),tmod_neg (by omega)]
 rw[show (0:Int) - -((n.natAbs%10:Nat):Int)=((n.natAbs%10:Nat):Int) by omega,cn (by omega) (by omega),im]
 obtain⟨m,rfl⟩:∃m:Nat,n = -(m:Int):=⟨n.natAbs,by omega⟩
 have e:(-(m:Int)).natAbs=m:=by omega
 rw[e]
 unfold bw
 rw[if_pos (by omega),if_pos (by omega)]
 apply qC
 rw[w7]
 have e2:(-((m/10:Nat):Int)).natAbs=m/10:=by omega
 rw[e,e2,jO (n:=m) (by omega),hU (n:=m%10) (by omega)]
 simp
def iq(n:Int):Nat:=2*n.natAbs+if n<0 then 1 else 0
theorem Mp:∀d:Nat,d<10→bytesOf [IntKind.wrap .u8 (IntKind.wrap .i64 ((48:Int)+(d:Int)))]=⟨#[UInt8.ofNat (48+d)]⟩
 |0,_=>rfl | 1,_=>rfl | 2,_=>rfl | 3,_=>rfl | 4,_=>rfl | 5,_=>rfl | 6,_=>rfl | 7,_=>rfl | 8,_=>rfl | 9,_=>rfl
 |d+10,h=>by omega
def Jq(n:Nat)(out:BA):BA:=if n=0 then out else ⟨(ef n).toArray⟩++out
theorem zN{n:Nat}(h:n≠0)(out:BA):Jq (n/10) (⟨#[UInt8.ofNat (48+n%10)]⟩++out)=Jq n out:=by
 unfold Jq
 rw[if_neg h]
 by_cases h1:n<10
 ·rw[if_pos (by omega),hU h1,Nat.mod_eq_of_lt h1]
 ·rw[if_neg (by omega),jO h1]
  apply qC
  simp only[w7];simp
theorem th{a b:BA}(h:a.size+b.size≤9223372036854775807):decide (ByteArray.size a+ByteArray.size b≤9223372036854775807)=true:=decide_eq_true h
theorem Hy{c l h:Int}:om c l h=true↔l≤c∧c≤h:=by unfold om;simp
def fk{α:Type}(x:List α):Bool:=Nat.ble x.length TG
theorem ng{α:Type}{x:List α}(h:fk x=true):x.length≤9223372036854775807:=iD h
theorem w8{α:Type}{x:List α}(h:x.length≤9223372036854775807):fk x=true:=Nat.ble_eq_true_of_le h
theorem lF{α:Type}{f:α→Bool}{x:List α}(h:dS f x=true):fk x=true:=w8 (Nat.le_trans (aR h) (by decide))
theorem tP{t:Ty}{q:El t→Bool}{xs:List (El t)}:∀(d j:Nat),j+d=xs.length→
 (aZ (fun j=>q (al xs j)) j d).isSome=(xs.drop j).any q∧(∀ i,aZ (fun j=>q (al xs j)) j d=some i→(xs.drop j).find? q=some (al xs i))∧(aZ (fun j=>q (al xs j)) j d=none→(xs.drop j).find? q=none)
 |0,j,h=>by
  have:j=xs.length:=by omega
  subst this
  rw[List.drop_length]
  refine⟨rfl,?_,fun _=>rfl⟩
  intro i h;cases h
 |d+1,j,h=>by
  obtain⟨x,hx,hd⟩:=cH (show j<xs.length by omega)
  obtain⟨h1,h2,h3⟩:=tP (q:=q) (xs:=xs) d (j+1) (by omega)
  rw[hd]
  simp only[aZ,bm hx,List.any_cons,List.find?_cons]
  cases hq:q x with
  |true=>exact⟨rfl,fun i hi=>by cases hi;rw[bm hx],fun h=>by cases h⟩
  |false=>exact⟨by simpa using h1,h2,h3⟩
theorem Ff{t:Ty}(q:El t→Bool)(xs:List (El t)):(aZ (fun j=>q (al xs j)) 0 xs.length).isSome=xs.any q:=by
 have:=(tP (q:=q) (xs:=xs) xs.length 0 (by omega)).1
 rwa [List.drop_zero] at this
theorem Zg(o:Option Nat):decide (oP o≥0)=o.isSome:=by
 cases o with
 |none=>rfl
 |some i=>simp[oP]
def rJ{t:Ty}(q:El t→Bool)(xs:List (El t)):Int:=oP (aZ (fun j=>q (al xs j)) 0 xs.length)
theorem Mq{t:Ty}(q:El t→Bool)(xs:List (El t)):decide (rJ q xs≥0)=xs.any q:=by
 unfold rJ;rw[Zg,Ff]
theorem w9(x y:BA):cy x y=cy y x:=by rw[Bool.eq_iff_iff,c9,c9,eq_comm]
def fx(xs:List BA)(s:BA):Int:=rJ (t:= .str) (fun x=>cy s x) xs
theorem TP{α:Type}(q:α→Bool)(xs:List α):(!(xs.any fun x=> !(q x)))=xs.all q:=by
 induction xs with
 |nil=>rfl
 |cons x r ih=>rw[List.any_cons,List.all_cons,←ih];cases q x<;>simp
theorem lG{n:Int}(h0 : -9223372036854775808≤n)(h:n≤9223372036854775807):gj n=true:=lZ.2 ⟨h0,h⟩
theorem TQ{xs:List BA}(h:dS bH xs=true):okL oO xs=true:=Zd h fun _ h=>C5 h
def p5{α:Type}(f:α→Nat)(xs:List α):Nat:=(xs.map f).sum
theorem rK{α:Type}{f:α→Nat}{xs:List α}{x:α}(h:x∈xs):f x≤p5 f xs:=w4 f h
mutual
def ag:ae→Bool
 |⟨kind,n,s,keys,kids⟩=>(gj kind&&(gj n&&(bH s&&(dS bH keys&&(Nat.ble kids.length 1048576&&nh kids)))))
def nh:List ae→Bool
 | []=>true
 |x::xs=>ag x&&nh xs
end
theorem oT:∀xs:List ae,nh xs=xs.all ag
 | []=>by simp[nh]
 |x::xs=>by rw[nh,oT xs,List.all_cons]
theorem bf(x:ae):ag x=(gj x.kind&&(gj x.n&&(bH x.s&&(dS bH x.keys&&dS ag x.kids)))):=by
 cases x;rw[ag,oT];rfl
mutual
def ak:ae→Nat
 |⟨_,_,s,keys,kids⟩=>s.size+fT ByteArray.size keys+(kids.length+oU kids)
def oU:List ae→Nat
 | []=>0
 |x::xs=>ak x+oU xs
end
theorem tQ:∀xs:List ae,oU xs=(xs.map ak).sum
 | []=>by simp[oU]
 |x::xs=>by rw[oU,tQ xs,List.map_cons,List.sum_cons]
theorem aX(x:ae):ak x=x.s.size+fT ByteArray.size x.keys+fT ak x.kids:=by
 cases x;rw[ak,tQ];rfl
mutual
def ao:ae→Nat
 |⟨_,_,_,_,kids⟩=>1+oV kids
def oV:List ae→Nat
 | []=>0
 |x::xs=>ao x+oV xs
end
theorem tS:∀xs:List ae,oV xs=p5 ao xs
 | []=>by simp[oV,p5]
 |x::xs=>by rw[oV,tS xs];simp[p5]
theorem bV(x:ae):ao x=1+p5 ao x.kids:=by
 cases x;rw[ao,tS]
theorem bN{x y:ae}(h:y∈x.kids):ao y<ao x:=by
 have:=rK (f:=ao) h
 rw[bV x];omega
theorem Db(a b:ae):iM a b=((a.kind==b.kind)&&((a.n==b.n)&&(cy a.s b.s&&(iM a.keys b.keys&&iM a.kids b.kids)))):=by
 cases a;cases b
 rw[Bool.eq_iff_iff];simp[lY,c9]
theorem az(x:ae):(⟨x.kind,x.n,x.s,x.keys,x.kids⟩:ae)=x:=by cases x;rfl
abbrev eN(x:ae):ae:=⟨x.kind,x.n,x.s,x.keys,x.kids⟩
theorem aK(x:ae):eN x=x:=az x
def eF(x:ae)(_:ae):Nat:=2*ao x
def kh(x:List ae)(_:List ae):Nat:=2*p5 ao x+1
def jP(s:BA):Bool:=rE (fun j=>om (tf s j) 32 126) 0 s.size&&decide ((s.size:Int)≤400)
def Fg(xs:List BA)(j:Nat):Bool:=jP (al (t:= .str) xs j)&&(!(decide ((j:Int)>(0:Int)))||dE (al (t:= .str) xs (j-1)) (al (t:= .str) xs j))
def xc(xs:List BA):Bool:=rE (Fg xs) 0 xs.length
def Mr(b:Bool):Int:=cond b 1 0
theorem XA{α:Type}{xs:List α}(h:xs.length≤1048576):Nat.ble xs.length bT=true:=Nat.ble_eq_true_of_le (by have:(bT:Nat)=4294967296:=rfl;omega)
theorem oW{α:Type}{f:α→Bool}{x:α}{r:List α}(h:dS f (x::r)=true):dS f r=true:=by
 simp only[dS,Bool.and_eq_true,List.all_cons] at h ⊢
 have:=iD h.1
 rw[List.length_cons] at this
 exact⟨Nat.ble_eq_true_of_le (by omega),h.2.2⟩
theorem xd{α:Type}{f:α→Bool}{x:α}{r:List α}(h:dS f (x::r)=true):f x=true:=by
 simp only[dS,Bool.and_eq_true,List.all_cons] at h;exact h.2.1
theorem xe{α:Type}{f:α→Bool}{x:α}{r:List α}(h:dS f r=true)(hx:f x=true)(hl:r.length<1048576):dS f (r++[x])=true:=by
 simp only[dS,Bool.and_eq_true,List.all_append,List.all_cons,List.all_nil,List.length_append,List.length_cons,List.length_nil] at h ⊢
 exact⟨Nat.ble_eq_true_of_le (by omega),h.2,hx,trivial⟩
theorem TR{α:Type}{f:α→Bool}{xs ys:List α}(h:dS f ys=true)(hs:∀x∈xs,x∈ys)(hl:xs.length≤ys.length):dS f xs=true:=by
 simp only[dS,Bool.and_eq_true] at h ⊢
 exact⟨Nat.ble_eq_true_of_le (Nat.le_trans hl (iD h.1)),List.all_eq_true.2 fun x hx=>List.all_eq_true.1 h.2 x (hs x hx)⟩
def Zh(a b:BA):Bool:=decide ((a.size:Int)≥(b.size:Int))&&cy (a.extract 0 b.size) b
def ours(a:BA):Bool:=Zh a (bs [113,117,97,121,47])
theorem xf{α:Type}(xs out:List α):xs.foldl (fun o x=>o++[x]) out=out++xs:=by
 induction xs generalizing out with
 |nil=>simp
 |cons x r ih=>rw[List.foldl_cons,ih];simp
theorem xg{α:Type}{xs:List α}{i:Nat}(h:i<xs.length):Bc xs (i:Int) ((i+1:Nat):Int)=true:=by
 simp only[Bc,Bool.and_eq_true,decide_eq_true_eq];omega
def Fh(xs:List Int):Bool:=decide ((xs.length:Int)>(1048576:Int))
end Go.Gm
namespace Go.Gm
def aA(c:aj):Bool:=decide (0≤c.i)&&Nat.ble c.b.length 1048576
theorem rL{c:aj}:aA c=true↔0≤c.i∧c.b.length≤1048576:=by
 unfold aA
 rw[Bool.and_eq_true,decide_eq_true_eq,Nat.ble_eq]
def eG(b:List Int):Bool:=Nat.ble b.length 1048576
def eQ(c:aj)(l:List BA):Bool:=aA c&&(!l.isEmpty&&Nat.ble l.length 1048576)
def er(c:aj)(l:List Int):Bool:=aA c&&(!l.isEmpty&&Nat.ble l.length 1048576)
theorem Zi(A:Int):0≤((BitVec.toNat (BitVec.ofInt (IntKind.bits .i64) A &&& BitVec.ofInt (IntKind.bits .i64) (255:Int)):Nat):Int)∧
 ((BitVec.toNat (BitVec.ofInt (IntKind.bits .i64) A &&& BitVec.ofInt (IntKind.bits .i64) (255:Int)):Nat):Int)≤255:=by
 refine⟨Int.natCast_nonneg _,?_⟩
 have h:BitVec.toNat (BitVec.ofInt (IntKind.bits .i64) A &&& BitVec.ofInt (IntKind.bits .i64) (255:Int))≤255:=by
  rw[BitVec.toNat_and]
  exact Nat.le_trans Nat.and_le_right (by decide)
 omega
theorem Hz(A:Int):0≤IntKind.wrap .i64 ((BitVec.toNat (BitVec.ofInt (IntKind.bits .i64) A &&& BitVec.ofInt (IntKind.bits .i64) (255:Int)):Nat):Int)∧
    IntKind.wrap .i64 ((BitVec.toNat (BitVec.ofInt (IntKind.bits .i64) A &&& BitVec.ofInt (IntKind.bits .i64) (255:Int)):Nat):Int)≤255:=by
 have:=Zi A
 rw[cn (by omega) (by omega)];exact this
theorem HA{x n:Int}(h:0≤x)(hn:0<n):0≤Int.tmod x n∧Int.tmod x n<n:=⟨Int.tmod_nonneg n h,Int.tmod_lt_of_pos x hn⟩
theorem Zj{x y z w:Int}(hx:0≤x∧x≤255)(hy:0≤y∧y≤255)(hz:0≤z∧z≤255)(hw:0≤w∧w≤255):
    0≤IntKind.wrap .i64 ((IntKind.wrap .i64 ((IntKind.wrap .i64 ((IntKind.wrap .i64 (x*(16777216:Int)))+(IntKind.wrap .i64 (y*(65536:Int)))))+(IntKind.wrap .i64 (z*(256:Int)))))+w):=by
 rw[cn (x:=x*16777216) (by omega) (by omega),cn (x:=y*65536) (by omega) (by omega),cn (x:=z*256) (by omega) (by omega),cn (x:=x*16777216+y*65536) (by omega) (by omega),
  cn (x:=x*16777216+y*65536+z*256) (by omega) (by omega),cn (by omega) (by omega)]
 omega
theorem rN{t:Ty}{xs:List (El t)}{i:Int}(h0:0≤i)(h:i<(xs.length:Int)):al xs (Int.toNat i)∈xs:=
  List.mem_of_getElem? (dm (by omega))
theorem Ms{α:Type}{xs:List α}{i:Int}(h0:0≤i)(h:i<(xs.length:Int)):(decide ((0:Int)≤i)&&decide (i<(xs.length:Int)))=true:=by
 rw[decide_eq_true h0,decide_eq_true h];rfl
theorem Mt{α:Type}{xs:List α}(h:(!xs.isEmpty)=true):0<(xs.length:Int):=by
 cases xs with
 |nil=>cases h
 |cons x r=>simp
theorem dX{c:aj}{l:List BA}(h:aA c=true)(hl:(!l.isEmpty&&Nat.ble l.length 1048576)=true):eQ c l=true:=by
 unfold eQ;rw[h,hl];rfl
theorem fb{c:aj}{l:List Int}(h:aA c=true)(hl:(!l.isEmpty&&Nat.ble l.length 1048576)=true):er c l=true:=by
 unfold er;rw[h,hl];rfl
theorem fy(c:aj):(⟨c.b,c.i,c.h⟩:aj)=c:=by cases c;rfl
open Classical in
noncomputable def eqB{α:Type}(a b:α):Bool:=decide (a=b)
theorem TS{α:Type}{a b:α}:eqB a b=true↔a=b:=by unfold eqB;simp
noncomputable def xh{α:Type}(f:α→Bool)(a b:α):Bool:=f a&&eqB a b
theorem zO{α:Type}{f:α→Bool}{a b:α}:xh f a b=true↔f a=true∧a=b:=by unfold xh;rw[Bool.and_eq_true,TS]
theorem Fi{α:Type}{f:α→Bool}{a:α}(h:f a=true):xh f a a=true:=zO.2 ⟨h,rfl⟩
theorem Mu{b:List Int}(h:Fh b=false):eG b=true:=by
 unfold Fh at h
 have:=of_decide_eq_false h
 exact Nat.ble_eq_true_of_le (by omega)
theorem Mv(a:BA):(a==a)=true:=by rw[beq_toListBytes];exact beq_self_eq_true _
theorem Mw{l:List BA}{s:BA}(h:s∈l)(hl:(l.all bH)=true):bH s=true:=List.all_eq_true.1 hl s h
theorem TT(x:Int): -9223372036854775808≤IntKind.wrap .i64 x∧IntKind.wrap .i64 x≤9223372036854775807:=by
 have h0:=Int.emod_nonneg x (show (18446744073709551616:Int)≠0 by decide)
 have h1:=Int.emod_lt_of_pos x (show (0:Int)<18446744073709551616 by decide)
 have e:IntKind.wrap .i64 x=if (true&&decide (x%18446744073709551616≥9223372036854775808))=true then x%18446744073709551616-18446744073709551616 else x%18446744073709551616:=rfl
 rw[e]
 split
 ·rename_i h
  have:=of_decide_eq_true (show decide (x%18446744073709551616≥9223372036854775808)=true by simpa using h)
  omega
 ·rename_i h
  have : ¬(x%18446744073709551616≥9223372036854775808):=fun hh=>h (by simp[hh])
  omega
theorem rO(x:Int):gj (IntKind.wrap .i64 x)=true:=by
 have:=TT x
 exact lG this.1 this.2
def qD(s:BA):BA:=cond (!(cy s ByteArray.empty)) (cond ((((ByteArray.data s).getD 0 0).toNat:Int)==(45:Int)) (ByteArray.extract s 1 s.size) s) s
def jr(c:UInt8)(n:Int):Unit⊕Int:=
  cond (decide ((c.toNat:Int)<(48:Int))) (.inl ()) (cond (decide ((c.toNat:Int)>(57:Int))) (.inl ())
 (.inr (IntKind.wrap .i64 ((IntKind.wrap .i64 ((10:Int)*n))+(IntKind.wrap .i64 (IntKind.wrap .u8 ((c.toNat:Int)-(48:Int))))))))
def qE(s t:BA)(m:Int):Int×Bool:=
  let n:=cond (decide ((t.size:Int)<(s.size:Int))) (IntKind.wrap .i64 (0-m)) m
  cond (om n (-1000000000000) 1000000000000) (cond (cy (bw n) s) (n,true) ((0:Int),false)) ((0:Int),false)
def jQ(s:BA):Int×Bool:=
  cond (cy (qD s) ByteArray.empty) ((0:Int),false) (cond (decide (((qD s).size:Int)>13)) ((0:Int),false) (Sum.elim (fun _=>((0:Int),false)) (qE s (qD s)) (fj jr (qD s).data.toList 0)))
def fA(s:BA):Int×Bool:=cond (jQ s).2 ((jQ s).1,decide ((jQ s).1≥(0:Int))) ((jQ s).1,false)
theorem Jr{s t:BA}{m:Int}(h:(qE s t m).2=true):bw (qE s t m).1=s:=by
 unfold qE at h ⊢
 simp only at h ⊢
 generalize cond (decide ((t.size:Int)<(s.size:Int))) (IntKind.wrap .i64 (0-m)) m=n at h ⊢
 cases h1:om n (-1000000000000) 1000000000000
 ·rw[h1] at h;cases h
 ·rw[h1] at h
  cases h2:cy (bw n) s
  ·rw[h2] at h;cases h
  ·exact c9.1 h2
theorem TU{s:BA}(h:(jQ s).2=true):bw (jQ s).1=s:=by
 unfold jQ at h ⊢
 cases h1:cy (qD s) ByteArray.empty
 ·rw[h1] at h
  simp only[cond_false] at h ⊢
  cases h2:decide (((qD s).size:Int)>13)
  ·rw[h2] at h
   simp only[cond_false] at h ⊢
   cases h3:fj jr (qD s).data.toList 0 with
   |inl _=>rw[h3] at h;cases h
   |inr m=>rw[h3] at h;exact Jr h
  ·rw[h2] at h;cases h
 ·rw[h1] at h;cases h
theorem rP{α A B:Type}(step:α→A→B⊕A):∀(xs ys:List α)(a:A),fj step (xs++ys) a=Sum.elim Sum.inl (fj step ys) (fj step xs a)
 | [],ys,a=>rfl
 |x::xs,ys,a=>by
  simp only[List.cons_append,fj]
  cases step x a with
  |inl b=>rfl
  |inr a'=>exact rP step xs ys a'
theorem tT{d:Nat}(hd:d<10){n:Int}(h0:0≤n)(h:n≤1000000000000):jr (UInt8.ofNat (48+d)) n = .inr (10*n+d):=by
 unfold jr
 have e1:((UInt8.ofNat (48+d)).toNat:Int)=48+(d:Int):=by
  rw[UInt8.toNat_ofNat_of_lt' (by show 48+d<256;omega)];omega
 have e2:IntKind.wrap .u8 ((48:Int)+(d:Int)-48)=(d:Int):=by
  have:d=0∨d=1∨d=2∨d=3∨d=4∨d=5∨d=6∨d=7∨d=8∨d=9:=by omega
  rcases this with rfl | rfl | rfl | rfl | rfl | rfl | rfl | rfl | rfl | rfl<;>rfl
 rw[e1,e2,cn (x:=10*n) (by omega) (by omega),cn (x:=(d:Int)) (by omega) (by omega),cn (x:=10*n+(d:Int)) (by omega) (by omega),
  decide_eq_false (show ¬(48+(d:Int)<48) by omega),decide_eq_false (show ¬(48+(d:Int)>57) by omega)]
 rfl
theorem Dc(m:Nat):m≤1000000000000→fj jr (ef m) 0 = .inr (m:Int):=by
 induction m using Nat.strongRecOn with
 |ind m ih=>
  intro hm
  by_cases h:m<10
  ·rw[hU h]
   simp only[fj]
   rw[tT h (by omega) (by omega)]
   show (Sum.inr (10*0+(m:Int)):Unit⊕Int)=_
   congr 1;omega
  ·rw[jO h,rP,ih (m/10) (by omega) (by omega)]
   show fj jr [UInt8.ofNat (48+m%10)] ((m/10:Nat):Int)=_
   simp only[fj]
   rw[tT (by omega) (by omega) (by omega)]
   show (Sum.inr (10*((m/10:Nat):Int)+((m%10:Nat):Int)):Unit⊕Int)=_
   congr 1;omega
theorem tU(m:Nat):∃c r,ef m=c::r∧48≤c.toNat:=by
 induction m using Nat.strongRecOn with
 |ind m ih=>
  by_cases h:m<10
  ·rw[hU h]
   exact⟨_,_,rfl,by rw[UInt8.toNat_ofNat_of_lt' (by show 48+m<256;omega)];omega⟩
  ·obtain⟨c,r,e,hc⟩:=ih (m/10) (by omega)
   rw[jO h,e]
   exact⟨c,_,rfl,hc⟩
theorem Mx{i:Nat}(h:i≤1048576):jQ (bw (i:Int))=((i:Int),true):=by
 obtain⟨c,r,e,hc⟩:=tU i
 have hd:(bw (i:Int)).data.toList=ef i:=by rw[im]
 have dy:(bw (i:Int)).size=(ef i).length:=by rw[← hd];rfl
 have hl:=qB 6 i (by have:(10:Nat)^(6+1)=10000000:=rfl;omega)
 have n9:1≤(ef i).length:=by rw[e];simp
 have dn:cy (bw (i:Int)) ByteArray.empty=false:=by
  rw[Bool.eq_false_iff];intro h
  have:=c9.1 h
  rw[this] at dy
  have h0:ByteArray.empty.size=0:=rfl
  omega
 have hb:((((ByteArray.data (bw (i:Int))).getD 0 0).toNat:Int)==(45:Int))=false:=by
  have:(ByteArray.data (bw (i:Int))).getD 0 0=c:=by
   rw[im,e];rfl
  rw[this,beq_eq_false_iff_ne];omega
 have hT:qD (bw (i:Int))=bw (i:Int):=by unfold qD;rw[dn,hb];rfl
 have h13:decide (((bw (i:Int)).size:Int)>13)=false:=decide_eq_false (by omega)
 have k7:om (i:Int) (-1000000000000) 1000000000000=true:=Hy.2 (by omega)
 unfold jQ
 rw[hT,dn,h13,hd,Dc i (by omega)]
 simp only[cond_false,Sum.elim_inr,qE,Int.lt_irrefl,decide_false]
 rw[k7,jo]
 rfl
theorem xk{i:Nat}(h:i≤1048576):fA (bw (i:Int))=((i:Int),true):=by
 unfold fA;rw[Mx h]
 simp only[cond_true]
 rw[decide_eq_true (show (i:Int)≥0 by omega)]
theorem Js{s:BA}(h:s.size=0):s=ByteArray.empty:=qC (by rw[List.eq_nil_of_length_eq_zero (show s.data.toList.length=0 from h)];rfl)
theorem zP{p:Nat→Bool}{i d:Nat}(hi:i<d)(hp:p i=true)(eV:∀k,k<i→p k=false):aZ p 0 d=some i:=by
 cases h:aZ p 0 d with
 |none=>have:=dU h i (by omega) (by omega);rw[hp] at this;cases this
 |some k=>
  obtain⟨_,h2,h3,h4⟩:=ct h
  rcases Nat.lt_trichotomy k i with h5 | h5 | h5
  ·have:=eV k h5;rw[h3] at this;cases this
  ·rw[h5]
  ·have:=h4 i (by omega) h5;rw[hp] at this;cases this
theorem Fj{p:Nat→Bool}{n m:Nat}:cond (decide (oP (aZ p 0 n)≥(m:Int))) (-1:Int) (oP (aZ p 0 n))=oP (aZ p 0 (min n m)):=by
 cases h:aZ p 0 n with
 |none=>
  have:aZ p 0 (min n m)=none:=by
   cases h2:aZ p 0 (min n m) with
   |none=>rfl
   |some k=>
    obtain⟨_,h3,h4,_⟩:=ct h2
    have:=dU h k (by omega) (by omega)
    rw[h4] at this;cases this
  rw[this]
  cases decide (oP none≥(m:Int))<;>rfl
 |some i=>
  obtain⟨_,h3,h4,h5⟩:=ct h
  by_cases hm:i<m
  ·rw[zP (show i<min n m by omega) h4 fun k hk=>h5 k (by omega) hk,decide_eq_false (show ¬(oP (some i)≥(m:Int)) by show ¬((i:Int)≥(m:Int));omega)]
   rfl
  ·have:aZ p 0 (min n m)=none:=by
    cases h2:aZ p 0 (min n m) with
    |none=>rfl
    |some k=>
     obtain⟨_,h6,h7,_⟩:=ct h2
     have:=h5 k (by omega) (by omega)
     rw[h7] at this;cases this
   rw[this,decide_eq_true (show oP (some i)≥(m:Int) by show (i:Int)≥(m:Int);omega)]
   rfl
theorem tV{s:BA}{n:Nat}(hn:n≤1048577):cond (!((fA s).2)) (-1:Int) (cond (decide ((fA s).1≥(n:Int))) (-1:Int) (fA s).1)=oP (aZ (fun j=>cy (bw (j:Int)) s) 0 n):=by
 cases h:aZ (fun j=>cy (bw (j:Int)) s) 0 n with
 |some i=>
  obtain⟨_,h3,h4,_⟩:=ct h
  have e:=c9.1 h4
  have:fA s=((i:Int),true):=by rw[← e];exact xk (by omega)
  rw[this]
  simp only[Bool.not_true,cond_false]
  rw[decide_eq_false (show ¬((i:Int)≥(n:Int)) by omega)]
  rfl
 |none=>
  have uV:=dU h
  show _=(-1:Int)
  cases h1:(fA s).2
  ·rfl
  simp only[Bool.not_true,cond_false]
  unfold fA at h1 ⊢
  cases h2:(jQ s).2
  ·rw[h2] at h1;cases h1
  ·rw[h2] at h1
   simp only[cond_true] at h1 ⊢
   have h3:(jQ s).1≥0:=of_decide_eq_true h1
   have h4:=TU h2
   by_cases h5:(jQ s).1≥(n:Int)
   ·rw[decide_eq_true h5];rfl
   ·obtain⟨k,hk⟩:=Int.eq_ofNat_of_zero_le h3
    have:=uV k (by omega) (by omega)
    rw[hk] at h4
    rw[h4,jo] at this
    cases this
theorem Fk{s:BA}{n:Nat}(hn:n≤1048576):cond (!((fA s).2)) (-1:Int) (cond (decide ((fA s).1≥(n:Int))) (-1:Int) (fA s).1)=oP (aZ (fun j=>cy (bw (j:Int)) s) 0 n):=tV (by omega)
def bj(t:ae)(s:BA):Int:=cond (t.kind==(5:Int)) (oP (aZ (fun j=>cy (al (t:= .str) t.keys j) s) 0 (min t.keys.length t.kids.length))) (-1)
def aw(t:ae)(s:BA):Int:=cond (t.kind==(5:Int)) (bj t s) (cond (t.kind==(4:Int)) (oP (aZ (fun j=>cy (bw (j:Int)) s) 0 t.kids.length)) (-1))
theorem Fl{p:Nat→Bool}{n:Nat}: -1≤oP (aZ p 0 n)∧oP (aZ p 0 n)<(n:Int)∨oP (aZ p 0 n) = -1:=by
 cases h:aZ p 0 n with
 |none=>exact .inr rfl
 |some i=>
  obtain⟨_,h2,_⟩:=ct h
  exact .inl (by show -1≤(i:Int)∧(i:Int)<n;omega)
theorem rQ{t:ae}{s:BA}(h : ¬aw t s<0):aw t s<(t.kids.length:Int):=by
 revert h
 unfold aw bj
 cases t.kind==(5:Int)
 ·cases t.kind==(4:Int)
  ·intro h;exact (h (by simp only[cond_false];omega)).elim
  ·intro h
   rcases Fl (p:=fun j=>cy (bw (j:Int)) s) (n:=t.kids.length) with h1 | h1
   ·exact h1.2
   ·exact (h (by simp only[cond_true,cond_false];omega)).elim
 ·intro h
  rcases Fl (p:=fun j=>cy (al (t:= .str) t.keys j) s) (n:=min t.keys.length t.kids.length) with h1 | h1
  ·simp only[cond_true];omega
  ·exact (h (by simp only[cond_true];omega)).elim
theorem Fm{t:ae}{s:BA}(hk:(t.kind==(5:Int))=true):cond (decide (fx t.keys s≥(t.kids.length:Int))) (-1:Int) (fx t.keys s)=bj t s:=by
 unfold bj fx rJ
 rw[hk,Fj]
 simp only[cond_true]
 congr 2
 funext j
 exact w9 _ _
theorem Bd{t x:ae}(h:x∈t.kids):ak x≤ak t:=by
 rw[aX t]
 have h1:=w4 ak h
 have:fT ak t.kids=t.kids.length+(t.kids.map ak).sum:=rfl
 omega
theorem dG{t x:ae}(hs:ag t=true)(h:x∈t.kids):ag x=true:=by
 rw[bf] at hs
 simp only[Bool.and_eq_true] at hs
 exact List.all_eq_true.1 (kR hs.2.2.2.2) x h
def fC(p:BA)(t:ae):Unit⊕ae:=cond (decide (aw t p<(0:Int))) (.inl ()) (.inr (al (t:= .node) t.kids (Int.toNat (aw t p))))
def cI:ae:=⟨(0:Int),(0:Int),ByteArray.empty,([]:List BA),([]:List ae)⟩
def br(t:ae)(path:List BA):ae×Bool:=Sum.elim (fun _=>(cI,false)) (fun t=>(t,true)) (fj fC path t)
theorem Jt{t:ae}{p:BA}(h : ¬aw t p<0):al (t:= .node) t.kids (Int.toNat (aw t p))∈t.kids:=by
 have:=rQ h
 exact List.mem_of_getElem? (dm (t:= .node) (xs:=t.kids) (i:=Int.toNat (aw t p)) (by omega))
theorem ti{p:BA}{t t':ae}(h:fC p t = .inr t'):t'∈t.kids:=by
 unfold fC at h
 by_cases hk:aw t p<0
 ·rw[decide_eq_true hk] at h;cases h
 ·rw[decide_eq_false hk] at h
  cases h
  exact Jt hk
theorem xl{Q:ae→Prop}(hQ:∀t x,Q t→x∈t.kids→Q x):∀(path:List BA)(t t':ae),Q t→fj fC path t = .inr t'→Q t'
 | [],t,t',h,e=>by cases e;exact h
 |p::r,t,t',h,e=>by
  simp only[fj] at e
  cases hs:fC p t with
  |inl _=>rw[hs] at e;cases e
  |inr x=>
   rw[hs] at e
   exact xl hQ r x t' (hQ t x h (ti hs)) e
theorem ni{t:ae}{path:List BA}(h:ag t=true):ag (br t path).1=true:=by
 unfold br
 cases e:fj fC path t with
 |inl _=>show ag cI=true;decide
 |inr x=>exact xl (Q:=fun t=>ag t=true) (fun _ _ h hx=>dG h hx) path t x h e
theorem Dd(t:ae)(path:List BA):ak (br t path).1≤ak t:=by
 unfold br
 cases e:fj fC path t with
 |inl _=>exact Nat.zero_le _
 |inr x=>exact xl (Q:=fun y=>ak y≤ak t) (fun _ _ h hx=>Nat.le_trans (Bd hx) h) path t x (Nat.le_refl _) e
def xm(kind:Int)(keys:List BA)(j:Nat):BA:=cond (kind==(5:Int)) (cond (decide ((j:Int)<(keys.length:Int))) (al (t:= .str) keys j) (bw (j:Int))) (bw (j:Int))
mutual
def aN:ae→List (List BA)
 |⟨kind,_,_,keys,kids⟩=>[]::l9 kind keys 0 kids
def l9(kind:Int)(keys:List BA):Nat→List ae→List (List BA)
 |_,[]=>[]
 |j,x::r=>(aN x).map (fun p=>xm kind keys j::p)++l9 kind keys (j+1) r
end
theorem iO(x:ae):aN x=[]::l9 x.kind x.keys 0 x.kids:=by cases x;rw[aN]
theorem zQ(kind:Int)(keys:List BA):∀(r:List ae)(j:Nat),(∀ x∈r,(aN x).length=ao x)→(l9 kind keys j r).length=p5 ao r
 | [],_,_=>by simp[l9,p5]
 |x::r,j,h=>by
  rw[l9,List.length_append,List.length_map,h x (by simp),zQ kind keys r (j+1) fun y hy=>h y (by simp[hy])]
  simp[p5]
theorem oX(x:ae):(aN x).length=ao x:=by
 rw[iO,bV,List.length_cons,zQ _ _ _ _ fun y XB=>oX y];omega
termination_by ao x
decreasing_by exact bN XB
theorem rT(x:ae):ao x≤ak x+1:=by
 rw[bV,aX]
 have h:∀l:List ae,(∀ y∈l,ao y≤ak y+1)→p5 ao l≤fT ak l:=by
  intro l
  induction l with
  |nil=>intro _;simp[p5]
  |cons y r ih=>
   intro h
   have h1:=h y (by simp)
   have h2:=ih fun z hz=>h z (by simp[hz])
   have e1:p5 ao (y::r)=ao y+p5 ao r:=by simp[p5]
   have e2:fT ak (y::r)=1+ak y+fT ak r:=by simp[fT];omega
   omega
 have:=h x.kids fun y XB=>rT y
 omega
termination_by ao x
decreasing_by exact bN XB
theorem tj{Q:List BA→Prop}(kind:Int)(keys:List BA):∀(r:List ae)(j:Nat),(∀ i x,r[i]? =some x→∀p∈aN x,Q (xm kind keys (j+i)::p))→∀p∈l9 kind keys j r,Q p
 | [],_,_,p,hp=>by simp[l9] at hp
 |x::r,j,h,p,hp=>by
  rw[l9] at hp
  rcases List.mem_append.1 hp with hp | hp
  ·obtain⟨q,hq,rfl⟩:=List.mem_map.1 hp
   exact h 0 x rfl q hq
  ·exact tj kind keys r (j+1) (fun i y hy q hq=>by have:=h (i+1) y hy q hq;rwa [show j+(i+1)=j+1+i by omega] at this) p hp
theorem tW(x:ae):∀p∈aN x,p.length+1≤ao x:=by
 rw[iO,bV]
 intro p hp
 rcases List.mem_cons.1 hp with rfl | hp
 ·simp
 ·refine tj (Q:=fun p=>p.length+1≤1+p5 ao x.kids) _ _ _ _ (fun i y hy q hq=> ?_) p hp
  have XB:y∈x.kids:=List.mem_of_getElem? hy
  have h1:=tW y q hq
  have h2:=rK (f:=ao) XB
  simp only[List.length_cons];omega
termination_by ao x
decreasing_by exact bN XB
def B8(t:ae):Bool:=ag t&&Nat.ble (ao t) 1048577
theorem TV{t x:ae}(h:B8 t=true)(hx:x∈t.kids):B8 x=true:=by
 simp only[B8,Bool.and_eq_true] at h ⊢
 have:=iD h.2
 have:=bN hx
 exact⟨dG h.1 hx,Nat.ble_eq_true_of_le (by omega)⟩
theorem My{R:Type}{kids:List ae}{kind:Int}{keys:List BA}{B:Nat}{F:Nat→Nat→List (List BA)→Option R}{good:List (List BA)→Option R}
 (hs:∀m (j:Nat) out x,kids[j]? =some x→out.length+(aN x).length≤B→F (m+1) j out=F m (j+1) (out++(aN x).map fun p=>xm kind keys j::p)) (he:∀m out,F (m+1) kids.length out=good out):
    ∀(d j m:Nat)(out:List (List BA)),j+d=kids.length→d<m→out.length+(l9 kind keys j (kids.drop j)).length≤B→F m j out=good (out++l9 kind keys j (kids.drop j)):=by
 intro d
 induction d with
 |zero=>
  intro j m out hj hm _
  obtain⟨m,rfl⟩:∃m',m=m'+1:=⟨m-1,by omega⟩
  have:j=kids.length:=by omega
  subst this
  rw[he,List.drop_length,l9,List.append_nil]
 |succ d ih=>
  intro j m out hj hm hB
  obtain⟨m,rfl⟩:∃m',m=m'+1:=⟨m-1,by omega⟩
  obtain⟨x,hx,hd⟩:=cH (show j<kids.length by omega)
  rw[hd,l9,List.length_append,List.length_map] at hB
  rw[hs m j out x hx (by omega),ih (j+1) m _ (by omega) (by omega) (by rw[List.length_append,List.length_map];omega),hd,l9,List.append_assoc]
theorem dh{α:Type}(f:α→Nat)(xs ys:List α):fT f (xs++ys)=fT f xs+fT f ys:=by
 simp only[fT,List.length_append,List.map_append,List.sum_append];omega
theorem dI{α:Type}(f:α→Nat)(x:α)(ys:List α):fT f (x::ys)=1+f x+fT f ys:=by
 simp only[fT,List.length_cons,List.map_cons,List.sum_cons];omega
theorem nj{α:Type}{xs:List α}{i:Nat}{x:α}(h:xs[i]? =some x):xs=xs.take i++x::xs.drop (i+1):=by
 obtain⟨y,hy,hd⟩:=cH (aP h)
 rw[h] at hy;cases hy
 conv=>lhs;rw[← List.take_append_drop i xs,hd]
theorem TW{α:Type}{f:α→Nat}{xs:List α}{i:Nat}{x y:α}(h:xs[i]? =some x)(hy:f y≤f x):fT f (xs.set i y)≤fT f xs:=by
 rw[List.set_eq_take_append_cons_drop,if_pos (aP h)]
 conv=>rhs;rw[nj h]
 rw[dh,dh,dI,dI];omega
theorem Be{α:Type}(f:α→Nat)(xs:List α)(i:Nat):fT f (gv xs (i:Int) ((i+1:Nat):Int))≤fT f xs:=by
 simp only[gv,Int.toNat_natCast]
 by_cases h:i<xs.length
 ·conv=>rhs;rw[nj (List.getElem?_eq_getElem h)]
  rw[dh,dh,dI];omega
 ·rw[List.drop_eq_nil_of_le (by omega),List.append_nil,List.take_of_length_le (by omega)]
  exact Nat.le_refl _
theorem Bf{α:Type}{f:α→Bool}{xs:List α}(h:dS f xs=true)(i:Nat):dS f (gv xs (i:Int) ((i+1:Nat):Int))=true:=by
 simp only[gv,Int.toNat_natCast]
 refine TR h (fun x hx=> ?_) (by simp;omega)
 rcases List.mem_append.1 hx with hx | hx
 ·exact List.mem_of_mem_take hx
 ·exact List.mem_of_mem_drop hx
theorem u9{α:Type}{f:α→Bool}{xs:List α}(h:dS f xs=true)(i:Nat){y:α}(hy:f y=true):dS f (xs.set i y)=true:=by
 simp only[dS,Bool.and_eq_true] at h ⊢
 refine⟨by rw[List.length_set];exact h.1,List.all_eq_true.2 fun x hx=> ?_⟩
 rcases List.mem_or_eq_of_mem_set hx with hm | rfl
 ·exact List.all_eq_true.1 h.2 x hm
 ·exact hy
def aE(t:ae):Bool:=cond (t.kind==(5:Int)) ((t.keys.length:Int)==(t.kids.length:Int)) false
def jR(t:ae)(k:Int):ae:=⟨t.kind,t.n,t.s,gv t.keys k (k+1),gv t.kids k (k+1)⟩
def mD(t:ae)(k:Int):ae:=⟨t.kind,t.n,t.s,t.keys,gv t.kids k (k+1)⟩
def bP(t:ae)(k:Int)(x:ae):ae:=⟨t.kind,t.n,t.s,t.keys,t.kids.set (Int.toNat k) x⟩
def fL(t:ae)(s:BA):ae:=cond (aE t) (cond (decide (bj t s<(0:Int))) t (jR t (bj t s))) t
theorem cd{t:ae}(h:aE t=true):(t.kind==(5:Int))=true∧t.keys.length=t.kids.length:=by
 unfold aE at h
 cases h5:t.kind==(5:Int)
 ·rw[h5] at h;cases h
 ·rw[h5] at h
  have:=eq_of_beq (show ((t.keys.length:Int)==(t.kids.length:Int))=true from h)
  exact⟨rfl,by omega⟩
theorem xn{t:ae}(h:aE t=true)(s:BA):fx t.keys s=bj t s:=by
 obtain⟨h5,hl⟩:=cd h
 unfold bj fx rJ
 rw[h5,hl,Nat.min_self,←hl]
 simp only[cond_true]
 congr 2
 funext j
 exact w9 _ _
theorem lH(t:ae)(s:BA)(h : ¬bj t s<0):∃i:Nat,bj t s=(i:Int)∧i<t.keys.length∧i<t.kids.length:=by
 revert h
 unfold bj
 cases t.kind==(5:Int)
 ·intro h;exact (h (by simp only[cond_false];omega)).elim
 ·simp only[cond_true]
  intro h
  rcases Fl (p:=fun j=>cy (al (t:= .str) t.keys j) s) (n:=min t.keys.length t.kids.length) with h1 | h1
  ·exact⟨Int.toNat (oP (aZ (fun j=>cy (al (t:= .str) t.keys j) s) 0 (min t.keys.length t.kids.length))),by omega,by omega,by omega⟩
  ·omega
theorem fM{t:ae}{s:BA}(h : ¬aw t s<0):∃i:Nat,aw t s=(i:Int)∧i<t.kids.length:=by
 have:=rQ h
 exact⟨Int.toNat (aw t s),by omega,by omega⟩
def fD(t:ae)(s:BA):ae×Bool:=cond (decide (aw t s<(0:Int))) (cI,false) (cond (t.kind==(5:Int)) (fL t s,true) (mD t (aw t s),true))
def eo:ae→List BA→ae×Bool
 |_,[]=>(cI,false)
 |t,[p]=>fD t p
 |t,p::q::r=>cond (decide (aw t p<(0:Int))) (cI,false)
   (cond (!((eo (al (t:= .node) t.kids (Int.toNat (aw t p))) (q::r)).2)) (cI,false) (bP t (aw t p) (eo (al (t:= .node) t.kids (Int.toNat (aw t p))) (q::r)).1,true))
def cutAt(t:ae)(path:List BA):ae×Bool:=cond (!((eo t path).2)) (t,false) ((eo t path).1,true)
def aC(t:ae)(path:List BA):ae×Bool:=cond ((path.length:Int)==(0:Int)) (t,false) (cutAt t path)
theorem ki(t:ae)(p:BA)(r:List BA):aC t (p::r)=cutAt t (p::r):=by
 have:(((p::r).length:Int)==(0:Int))=false:=by rw[beq_eq_false_iff_ne,List.length_cons];omega
 unfold aC;rw[this];rfl
theorem kj(t:ae)(p q:BA)(r:List BA)(h : ¬aw t p<0):
    aC t (p::q::r)=cond ((aC (al (t:= .node) t.kids (Int.toNat (aw t p))) (q::r)).2) (bP t (aw t p) (aC (al (t:= .node) t.kids (Int.toNat (aw t p))) (q::r)).1,(aC (al (t:= .node) t.kids (Int.toNat (aw t p))) (q::r)).2) (t,(aC (al (t:= .node) t.kids (Int.toNat (aw t p))) (q::r)).2):=by
 rw[ki,ki]
 unfold cutAt
 rw[eo,decide_eq_false h]
 simp only[cond_false]
 cases (eo (al (t:= .node) t.kids (Int.toNat (aw t p))) (q::r)).2<;>rfl
theorem lI(t:ae)(p:BA)(h : ¬aw t p<0):aC t [p]=cond (t.kind==(5:Int)) (fL t p,true) (mD t (aw t p),true):=by
 rw[ki]
 unfold cutAt
 rw[eo,fD,decide_eq_false h]
 simp only[cond_false]
 cases t.kind==(5:Int)<;>rfl
theorem tk(t:ae)(p:BA)(r:List BA)(h:aw t p<0):aC t (p::r)=(t,false):=by
 rw[ki]
 unfold cutAt
 cases r with
 |nil=>rw[eo,fD,decide_eq_true h];rfl
 |cons q r=>rw[eo,decide_eq_true h];rfl
theorem ch{t:ae}(h:ag t=true):gj t.kind=true∧gj t.n=true∧bH t.s=true∧dS bH t.keys=true∧dS ag t.kids=true:=by
 rw[bf] at h
 simpa only[Bool.and_eq_true] using h
theorem Ju{t:ae}{i:Nat}(h:ag t=true):ag (jR t (i:Int))=true∧ak (jR t (i:Int))≤ak t:=by
 obtain⟨h1,h2,h3,h4,h5⟩:=ch h
 constructor
 ·rw[bf]
  simp only[Bool.and_eq_true]
  exact⟨h1,h2,h3,Bf h4 i,Bf h5 i⟩
 ·rw[aX,aX t]
  have e1:=Be ByteArray.size t.keys i
  have e2:=Be ak t.kids i
  show t.s.size+fT ByteArray.size (gv t.keys (i:Int) ((i+1:Nat):Int))+fT ak (gv t.kids (i:Int) ((i+1:Nat):Int))≤_
  omega
theorem Jv{t:ae}{i:Nat}(h:ag t=true):ag (mD t (i:Int))=true∧ak (mD t (i:Int))≤ak t:=by
 obtain⟨h1,h2,h3,h4,h5⟩:=ch h
 constructor
 ·rw[bf]
  simp only[Bool.and_eq_true]
  exact⟨h1,h2,h3,h4,Bf h5 i⟩
 ·rw[aX,aX t]
  have e2:=Be ak t.kids i
  show t.s.size+fT ByteArray.size t.keys+fT ak (gv t.kids (i:Int) ((i+1:Nat):Int))≤_
  omega
theorem Jw{t x y:ae}{i:Nat}(h:ag t=true)(hx:t.kids[i]? =some x)(hy:ag y=true)(hz:ak y≤ak x):ag (bP t (i:Int) y)=true∧ak (bP t (i:Int) y)≤ak t:=by
 obtain⟨h1,h2,h3,h4,h5⟩:=ch h
 constructor
 ·rw[bf]
  simp only[Bool.and_eq_true]
  exact⟨h1,h2,h3,h4,u9 h5 _ hy⟩
 ·rw[aX,aX t]
  have e2:=TW (f:=ak) hx hz
  show t.s.size+fT ByteArray.size t.keys+fT ak (t.kids.set (Int.toNat (i:Int)) y)≤_
  rw[Int.toNat_natCast]
  omega
theorem Mz{t:ae}{s:BA}(h:ag t=true):ag (fL t s)=true∧ak (fL t s)≤ak t:=by
 unfold fL
 cases aE t
 ·exact⟨h,Nat.le_refl _⟩
 by_cases hk:bj t s<0
 ·rw[decide_eq_true hk];exact⟨h,Nat.le_refl _⟩
 ·rw[decide_eq_false hk]
  obtain⟨i,e,_⟩:=lH t s hk
  simp only[cond_true,cond_false]
  rw[e];exact Ju h
theorem jS(t:ae):ag cI=true∧ak cI≤ak t:=⟨by decide,Nat.zero_le _⟩
theorem Fo{t:ae}{s:BA}(h:ag t=true):ag (fD t s).1=true∧ak (fD t s).1≤ak t:=by
 unfold fD
 by_cases hk:aw t s<0
 ·rw[decide_eq_true hk];exact jS t
 ·rw[decide_eq_false hk]
  obtain⟨i,e,_⟩:=fM hk
  cases t.kind==(5:Int)
  ·simp only[cond_false]
   rw[e];exact Jv h
  ·exact Mz h
theorem De:∀(path:List BA)(t:ae),ag t=true→ag (eo t path).1=true∧ak (eo t path).1≤ak t
 | [],t,_=>jS t
 | [p],t,h=>by rw[eo];exact Fo h
 |p::q::r,t,h=>by
  rw[eo]
  by_cases hk:aw t p<0
  ·rw[decide_eq_true hk];exact jS t
  ·rw[decide_eq_false hk]
   simp only[cond_false]
   obtain⟨i,e,hi⟩:=fM hk
   rw[e,Int.toNat_natCast]
   have hx:=dm (t:= .node) hi
   have ih:=De (q::r) (al (t:= .node) t.kids i) (dG h (List.mem_of_getElem? hx))
   cases (eo (al (t:= .node) t.kids i) (q::r)).2
   ·exact jS t
   ·exact Jw h hx ih.1 ih.2
theorem lf{t:ae}{path:List BA}(h:ag t=true):ag (aC t path).1=true∧ak (aC t path).1≤ak t:=by
 have:=De path t h
 unfold aC cutAt
 cases (path.length:Int)==(0:Int)<;>cases (eo t path).2<;>first | exact this | exact⟨h,Nat.le_refl _⟩
theorem Bg{α:Type}{xs:List α}(h:xs.length≤1048576)(i:Nat):Nat.ble (0+(xs.take i).length) bT=true:=Nat.ble_eq_true_of_le (by
  have:(bT:Nat)=4294967296:=rfl
  rw[List.length_take];omega)
theorem MA{α:Type}{xs:List α}(h:xs.length≤1048576)(i j:Nat):Nat.ble ((xs.take i).length+(xs.drop j).length) bT=true:=Nat.ble_eq_true_of_le (by
  have:(bT:Nat)=4294967296:=rfl
  rw[List.length_take,List.length_drop];omega)
theorem zR{t:ae}{s:BA}(h:bj t s<0):fL t s=t:=by
 unfold fL
 rw[decide_eq_true h]
 cases aE t<;>rfl
theorem MB{t:ae}{s:BA}(h:((t.keys.length:Int) !=(t.kids.length:Int))=true):fL t s=t:=by
 unfold fL aE
 have:((t.keys.length:Int)==(t.kids.length:Int))=false:=by simpa [bne] using h
 rw[this]
 cases t.kind==(5:Int)<;>rfl
theorem MC{t:ae}{s:BA}(hk : ¬bj t s<0)(h:((t.keys.length:Int) !=(t.kids.length:Int))=false):fL t s=jR t (bj t s):=by
 have h1:((t.keys.length:Int)==(t.kids.length:Int))=true:=by simpa [bne] using h
 have h5:(t.kind==(5:Int))=true:=by
  cases h5:t.kind==(5:Int)
  ·exact absurd (show bj t s<0 by unfold bj;rw[h5];simp only[cond_false];omega) hk
  ·rfl
 unfold fL aE
 rw[h1,h5,decide_eq_false hk];rfl
def gW(t:ae)(path:List BA):Bool:=ag t&&(dS bH path&& !path.isEmpty)
theorem Df{t:ae}(h:aE t=true):(t.kind==(4:Int))=false:=by
 have:=eq_of_beq (cd h).1
 rw[this];rfl
theorem Dg{α R:Type}{xs:List α}{f:α→α}{F:Nat→Nat→List α→Option R}{good:List α→Option R}
 (hs:∀m (j:Nat) vr x,xs[j]? =some x→vr.length=xs.length→vr[j]? =some x→F (m+1) j vr=F m (j+1) (vr.set j (f x))) (he:∀m vr,vr.length=xs.length→F (m+1) xs.length vr=good vr):
    ∀(d j m:Nat),j+d=xs.length→d<m→F m j ((xs.take j).map f++xs.drop j)=good (xs.map f):=by
 intro d
 induction d with
 |zero=>
  intro j m hj hm
  obtain⟨m,rfl⟩:∃m',m=m'+1:=⟨m-1,by omega⟩
  have:j=xs.length:=by omega
  subst this
  rw[List.drop_length,List.append_nil,List.take_length]
  exact he m _ (by simp)
 |succ d ih=>
  intro j m hj hm
  obtain⟨m,rfl⟩:∃m',m=m'+1:=⟨m-1,by omega⟩
  obtain⟨x,hx,hd⟩:=cH (show j<xs.length by omega)
  have hlen:((xs.take j).map f).length=j:=by simp;omega
  rw[hs m j _ x hx (by simp;omega) (by rw[List.getElem?_append_right (by omega),hlen,Nat.sub_self,hd];rfl)]
  rw[← ih (j+1) m (by omega) (by omega)]
  congr 1
  rw[hd,List.set_append_right _ _ (by omega),hlen,Nat.sub_self,List.set_cons_zero,List.take_add_one,hx]
  simp
end Go.Gm
namespace Go.Gm
open Go
variable {wl : World} {P : Program} {E : Env} {w w' : World}
theorem ma(dT sT ty e:TypeId)(ii:TypeInfo)(hu:P.underlying dT=some (.slice e))(hi:P.info? e=some ii)(g o adU aiq:Nat)(a:Addr)(Zk adV n:Nat)(cur:Array Value)(el:TypeId)(vs:List Value)
 (hn:Nat.min Zk adU=n) (hl:vs.length=n*ii.size) (hg:w.heap[g]? =some (.cells cur el (0,0))) (gZ:∀j v,vs[j]? =some v→w.cell? (a.add j)=some v) (da:o+vs.length≤cur.size) (h1:∀v∈vs,v.oneCell'=true):
 (Builtin.copy_ #[dT,sT] ty #[.slice (some ⟨g,o,none⟩) adU aiq,.slice (some a) Zk adV]).run P w = .ok (goInt n) (w.setRow g (putAt cur o vs.toArray)):=by
 have CY:=run_firstCells_some (P:=P) w ii.size n a Zk adV vs hl gZ
 have jh:=run_storeCells_at P g o el vs 0 cur w hg (by simpa using da) h1
 simp only[Nat.add_zero] at jh
 rw[← k8 (by simpa using da)]
 simp[Builtin.copy_,run_underlying hu,Builtin.lenOf,sizeOf,typeInfo,hi,hn,CY,jh]
theorem kS{ops:Array Oper}{o:Oper}{a:Act}{K:Act→World→Prop}{Q:Exit→Act→World→Prop}{R:Prop}
    (hg:o.guard=none) (d x:Operand) (dT sT:TypeId) (b9:o.op=Op.call { callee:=Callee.builtin Builtin.copy,args:= #[d,x],argTypes:= #[dT,sT] })
 (v u:Value) (hd:a.eval d=v) (hx:a.eval x=u) {v':Value} (hr:(Builtin.copy_ #[dT,sT] o.type #[v,u]).run P w = .ok v' w') (hK:K (a.put o.dst v') w'):
    if Region.wanted o (yielded ops a.tmps)=true then Oper.wp P o a w K Q else R:=by
 have hw:Region.wanted o (yielded ops a.tmps)=true:=by simp[Region.wanted,hg]
 rw[if_pos hw]
 unfold Oper.wp
 simp[execOp,b9,resolve,invoke,builtin,hd,hx,hr,Result.andThen]
 exact hK
theorem fc{ops:Array Oper}{rest:List Oper}{o:Oper}{a:Act}{Q:Exit→Act→World→Prop}(zE:o.guard=none)(d s:Operand)(t t':TypeId)
    (ho:o.op = .call { callee:= .builtin .copy,args:= #[d,s],argTypes:= #[t,t'] }) (v u:Value) (hd:a.eval d=v) (hs:a.eval s=u) {v':Value}
 (hr:(Builtin.copy_ #[t,t'] o.type #[v,u]).run P w = .ok v' w') (h:wpList P ops Q rest (a.put o.dst v') w'):wpList P ops Q (o::rest) a w:=by
 refine wpList_plain zE fun _ hK=> ?_
 unfold Oper.wp execOp
 simp only[ho,resolve,invoke,builtin,Sem.run_bind,Sem.run_pure,Result.andThen_ok,List.map_toArray,List.map_cons,List.map_nil,hd,hs,hr]
 exact hK _ _ h
def mE(w w':World)(base:Option Addr)(b' o' n' iE sz:Nat)(air:List Value):Prop:=
  Kept w w' (fun k=>∃o,base=some ⟨k,o,none⟩)∧n'≤iE∧((∃ o,base=some ⟨b',o,none⟩)∨w.heap.size≤b')∧
  ∃sK el,w'.heap[b']? =some (.cells sK el (0,0))∧o'+iE*sz≤sK.size∧∀k v,air[k]? =some v→sK[o'+k]? =some v
structure HB (w:World) (base:Option Addr) (n cap i vb vo m sz:Nat) (bX news:List Value):Prop where
 hi:i≤n
 hn:n≤cap
 hm:0<m
 lim:n+m≤bT
 lo:bX.length=n*sz
 ln:news.length=m*sz
 oo:∀v∈bX,v.oneCell'=true
 on:∀v∈news,v.oneCell'=true
 nil:base=none→n=0∧cap=0
 is:∀a,base=some a→∃b o cs el,a=⟨b,o,none⟩∧b≠vb∧w.heap[b]? =some (.cells cs el (0,0))∧o+cap*sz≤cs.size∧∀k v,bX[k]? =some v→cs[o+k]? =some v
 v:∃vcs SK,w.heap[vb]? =some (.cells vcs SK (0,0))∧∀k v,news[k]? =some v→vcs[vo+k]? =some v
def Zl(w:World)(base:Option Addr)(n m i sz:Nat)(bX news:List Value)(e:Ending)(w':World):Prop:=
  ∃b' o' iE,e = .returned (.slice (some ⟨b',o',none⟩) (n+m) iE)∧mE w w' base b' o' (n+m) iE sz (bX.take (i*sz)++news++bX.drop (i*sz))
def Zm(P:Program)(f sz:Nat):Prop:=∀(base:Option Addr)(n cap i vb vo m vc:Nat)(bX news:List Value)(w:World),HB w base n cap i vb vo m sz bX news→
  Calls P f #[.slice base n cap,.int .i64 i,.slice (some ⟨vb,vo,none⟩) m vc] w fun e w'=>Zl w base n m i sz bX news e w'
theorem HC(hE:E.Ok P){T:TypeId}{e:Ty}(hT:E.code T=some (.sl e)){sz:Nat}(dy:ar e=sz){base:Option Addr}{n cap vb vo m:Nat}{bX news:List Value}(h:HB w base n cap n vb vo m sz bX news)(vc:Nat):
    ∃(b' o' iE:Nat)(W:World),(∀ ty,(Builtin.append_ #[T,T] ty #[.slice base n cap,.slice (some ⟨vb,vo,none⟩) m vc]).run P w = .ok (.slice (some ⟨b',o',none⟩) (n+m) iE) W)∧
      mE w W base b' o' (n+m) iE sz (bX.take (n*sz)++news++bX.drop (n*sz)):=by
 subst dy
 obtain⟨vcs,SK,TX,hvr⟩:=h.v
 obtain⟨v',w',df,hos,htp,yD,vF⟩:=vB (ty:=0) hE hT hT (sa:=base) (n:=n) (cap:=cap) (xa:=some ⟨vb,vo,none⟩) (m:=m) (c:=vc) (w:=w) h.lo (by
   cases base with
   |none=>left;have:=(h.nil rfl).1;exact List.eq_nil_of_length_eq_zero (by rw[h.lo,this,Nat.zero_mul])
   |some a=>obtain⟨b,o,cs,el,rfl,_,hb,_,hc⟩:=h.is a rfl;exact .inr ⟨b,o,cs,el,_,rfl,hb,hc⟩) h.ln (.inr ⟨vb,vo,vcs,SK,_,rfl,TX,hvr⟩) h.on h.hn (fun b o e=>by
    obtain⟨b2,o2,cs,el,e2,_,hb,hs,_⟩:=h.is _ e
    simp only[Addr.mk.injEq,and_true] at e2
    obtain⟨rfl,rfl⟩:=e2
    exact⟨cs,el,hb,hs⟩) (fun e=>(h.nil e).2) (fun a e=>by obtain⟨b,o,cs,el,rfl,_⟩:=h.is a e;rfl) h.lim
 have hm:=h.hm
 rcases vF with ⟨_,_,_,h0,_⟩ | ⟨b',o',iE,sK,pM,rfl,fI,Ct,eK,KI,ca,MD⟩
 ·omega
 ·refine⟨b',o',iE,w',fun ty=>df,⟨hos,htp,yD,ca.1,fun k hk hx=> ?_⟩,Ct,?_,sK,pM,fI,eK,?_⟩
  ·rcases MD with ⟨o2,ho2⟩ | hh
   ·exact ca.2 k hk fun e=>hx ⟨o2,by rw[e];exact ho2⟩
   ·exact ca.2 k hk fun e=>by omega
  ·rcases MD with h' | h'
   ·exact .inl h'
   ·exact .inr (Nat.le_of_eq h'.symm)
  ·rw[List.take_of_length_le (by rw[h.lo];exact Nat.le_refl _),List.drop_of_length_le (by rw[h.lo];exact Nat.le_refl _),List.append_nil]
   exact KI
theorem pC{cells:Array Value}{off:Nat}{vs:List Value}(h:off+vs.length≤cells.size)(k:Nat)(hk:k<vs.length):(putAt cells off vs.toArray)[off+k]? =vs[k]? :=by
 rw[e7 (by simpa using h),if_pos ⟨by omega,by simp;omega⟩,List.getElem?_toArray]
 congr 1;omega
theorem jT{cells:Array Value}{off:Nat}{vs:List Value}(h:off+vs.length≤cells.size)(k:Nat)(hk:k<off∨off+vs.length≤k):(putAt cells off vs.toArray)[k]? =cells[k]? :=by
 rw[e7 (by simpa using h),if_neg (by simp;omega)]
theorem Dh(hE:E.Ok P){T:TypeId}{e:Ty}(hT:E.code T=some (.sl e)){sz:Nat}(dy:ar e=sz){b o n cap i vb vo m:Nat}{bX news:List Value}(h:HB w (some ⟨b,o,none⟩) n cap i vb vo m sz bX news)(k7:i<n)(kH:n+m≤cap):
    ∃(W1:World)(XC:Array Value),
 (∀ tR A lb cb vc,A=(⟨b,o+(i+m)*sz,none⟩:Addr)→(Extern.SlicesOverlaps.overlaps #[T,T] #[tR] #[.slice (some ⟨vb,vo,none⟩) m vc,.slice (some A) lb cb]).run P w = .ok (.bool false) w)∧
 (∀ ty dc sc,(Builtin.copy_ #[T,T] ty #[.slice (some ⟨b,o+(i+m)*sz,none⟩) (n+m-(i+m)) dc,.slice (some ⟨b,o+i*sz,none⟩) (n+m-i) sc]).run P w.drew = .ok (goInt (n-i:Nat)) W1)∧
 (∀ W:World,W.heap=W1.heap→∀ty dc vc,(Builtin.copy_ #[T,T] ty #[.slice (some ⟨b,o+i*sz,none⟩) (n+m-i) dc,.slice (some ⟨vb,vo,none⟩) m vc]).run P W = .ok (goInt m) (W.setRow b (putAt XC (o+i*sz) news.toArray)))∧
 (∀ W:World,W.heap=W1.heap→W.os=w.os→W.tape=w.tape→W.output=w.output→mE w (W.setRow b (putAt XC (o+i*sz) news.toArray)) (some ⟨b,o,none⟩) b o (n+m) cap sz (bX.take (i*sz)++news++bX.drop (i*sz)))∧
      W1.os=w.os∧W1.tape=w.tape∧W1.output=w.output:=by
 subst dy
 obtain⟨eT,hu,pg⟩:=hE.slice hT
 obtain⟨ii,zv,hi,dy,Ys,hz,vA⟩:=hE.info eT e pg
 have n9:=eW e
 obtain⟨vcs,SK,TX,hvr⟩:=h.v
 obtain⟨b2,o2,cs,el,e2,dn,hb,hs,hc⟩:=h.is _ rfl
 simp only[Addr.mk.injEq,and_true] at e2
 obtain⟨rfl,rfl⟩:=e2
 have hm:=h.hm
 have yA:=h.lo
 have K0:=h.ln
 have m1:(n+m)*ar e≤cap*ar e:=Nat.mul_le_mul_right _ kH
 have m2:(n+m)*ar e=n*ar e+m*ar e:=Nat.add_mul _ _ _
 have m3:(i+m)*ar e=i*ar e+m*ar e:=Nat.add_mul _ _ _
 have m4:i*ar e+ar e≤n*ar e:=by
  have:(i+1)*ar e≤n*ar e:=Nat.mul_le_mul_right _ k7
  rw[Nat.add_mul] at this;omega
 have m5:(n-i)*ar e=n*ar e-i*ar e:=Nat.sub_mul _ _ _
 have Zn:(bX.drop (i*ar e)).length=(n-i)*ar e:=by rw[List.length_drop,yA,m5]
 have mW:o+(i+m)*ar e+(bX.drop (i*ar e)).length≤cs.size:=by rw[Zn];omega
 have nk:o+i*ar e+news.length≤(putAt cs (o+(i+m)*ar e) (bX.drop (i*ar e)).toArray).size:=by
  rw[cG (by simpa using mW)];omega
 have zu:(w.drew.setRow b (putAt cs (o+(i+m)*ar e) (bX.drop (i*ar e)).toArray)).heap[b]? =some (.cells (putAt cs (o+(i+m)*ar e) (bX.drop (i*ar e)).toArray) el (0,0)):=setRow_heap w.drew b cs _ el (0,0) hb
 refine⟨w.drew.setRow b (putAt cs (o+(i+m)*ar e) (bX.drop (i*ar e)).toArray),putAt cs (o+(i+m)*ar e) (bX.drop (i*ar e)).toArray,fun tR A lb cb vc hA=> ?_,fun ty dc sc=> ?_,fun W hW ty dc vc=> ?_,fun W hW h1 h2 h3=> ?_,rfl,rfl,rfl⟩
 ·subst hA
  have ais:∀w:World,(Go.sizeOf eT).run P w = .ok (ar e) w:=fun w=>by simp[sizeOf,typeInfo,hi,dy]
  refine Lib.run_overlaps_apart w T tR eT hu (ar e) ais ⟨vb,vo,none⟩ ⟨b,o+(i+m)*ar e,none⟩ m vc lb cb (fun e=>dn e.symm) SK el vcs.size cs.size ?_ ?_ (by omega) ?_ ?_
  ·simp[World.shape?,TX]
  ·simp[World.shape?,hb]
  ·simp[World.frozen?,TX]
  ·simp[World.frozen?,TX]
 ·refine ma T T ty eT ii hu hi b _ _ dc ⟨b,o+i*ar e,none⟩ _ sc (n-i) cs el (bX.drop (i*ar e)) (by simp only[Nat.min_def];split<;>omega) (by rw[Zn,dy]) hb (fun j v hj=> ?_) mW (fun v hv=>h.oo v (List.mem_of_mem_drop hv))
  rw[List.getElem?_drop] at hj
  rw[eA,lx (w:=w.drew) hb,Nat.add_assoc]
  exact hc _ v hj
 ·refine ma T T ty eT ii hu hi b _ _ dc ⟨vb,vo,none⟩ _ vc m _ el news (by simp only[Nat.min_def];split<;>omega) (by rw[K0,dy]) (by rw[hW];exact zu) (fun j v hj=> ?_) nk h.on
  have Zo:W.heap[vb]? =some (.cells vcs SK (0,0)):=by
   rw[hW,setRow_other w.drew b vb _ (fun e=>dn e.symm)];exact TX
  rw[eA,lx Zo]
  exact hvr _ v hj
 ·have pv:=setRow_heap W b _ (putAt (putAt cs (o+(i+m)*ar e) (bX.drop (i*ar e)).toArray) (o+i*ar e) news.toArray) el (0,0) (by rw[hW];exact zu)
  refine⟨⟨h1,h2,h3,?_,fun k hk hx=> ?_⟩,kH,.inl ⟨o,rfl⟩,_,el,pv,?_,fun k v hk=> ?_⟩
  ·simp[hW]
  ·have hkb:k≠b:=fun e=>hx ⟨o,by rw[e]⟩
   rw[setRow_other W b k _ hkb,hW,setRow_other w.drew b k _ hkb];rfl
  ·rw[cG (by simpa using nk),cG (by simpa using mW)];exact hs
  ·have Fp:(bX.take (i*ar e)).length=i*ar e:=by rw[List.length_take,yA];omega
   rcases Nat.lt_or_ge k (i*ar e) with AN | AN
   ·rw[List.append_assoc,List.getElem?_append_left (by omega),List.getElem?_take,if_pos AN] at hk
    rw[jT nk _ (.inl (by omega)),jT mW _ (.inl (by omega))]
    exact hc k v hk
   ·rcases Nat.lt_or_ge k (i*ar e+news.length) with Ee | Ee
    ·rw[List.append_assoc,List.getElem?_append_right (by omega),List.getElem?_append_left (by omega),Fp] at hk
     have:=pC nk (k-i*ar e) (by omega)
     rw[show o+k=o+i*ar e+(k-i*ar e) by omega,this]
     exact hk
    ·rw[List.getElem?_append_right (by rw[List.length_append,Fp];omega),List.length_append,Fp] at hk
     have xo:=(List.getElem?_eq_some_iff.1 hk).1
     rw[jT nk _ (.inr (by omega))]
     have:=pC mW (k-(i*ar e+news.length)) xo
     rw[show o+k=o+(i+m)*ar e+(k-(i*ar e+news.length)) by omega,this]
     exact hk
theorem Di(hE:E.Ok P){T Ti:TypeId}{e:Ty}(hT:E.code T=some (.sl e))(hTi:P.underlying Ti=some (.int .i64)){sz:Nat}(dy:ar e=sz){b o n cap i vb vo m:Nat}{bX news:List Value}(h:HB w (some ⟨b,o,none⟩) n cap i vb vo m sz bX news)(k7:i<n)(kH:cap<n+m):
    ∃(W1:World)(G:Nat)(row:Array Value),
 (∀ ty,(Builtin.append_ #[T,Ti] ty #[.slice (some ⟨b,o,none⟩) i cap,.int .i64 ((n:Int)+(m:Int)-(i:Int))]).run P w = .ok (.slice (some ⟨w.heap.size,0,none⟩) (n+m) G) W1)∧n+m≤G∧
 (∀ W:World,W.heap=W1.heap→∀ty dc vc,(Builtin.copy_ #[T,T] ty #[.slice (some ⟨w.heap.size,i*sz,none⟩) (n+m-i) dc,.slice (some ⟨vb,vo,none⟩) m vc]).run P W = .ok (goInt m) (W.setRow w.heap.size (putAt row (i*sz) news.toArray)))∧
 (∀ W0 W:World,W0.heap=W1.heap→W.heap=(W0.setRow w.heap.size (putAt row (i*sz) news.toArray)).heap→∀ty dc sc,(Builtin.copy_ #[T,T] ty #[.slice (some ⟨w.heap.size,(i+m)*sz,none⟩) (n+m-(i+m)) dc,.slice (some ⟨b,o+i*sz,none⟩) (n-i) sc]).run P W=
        .ok (goInt (n-i:Nat)) (W.setRow w.heap.size (putAt (putAt row (i*sz) news.toArray) ((i+m)*sz) (bX.drop (i*sz)).toArray)))∧
 (∀ W0 W:World,W0.heap=W1.heap→W.heap=(W0.setRow w.heap.size (putAt row (i*sz) news.toArray)).heap→W.os=w.os→W.tape=w.tape→W.output=w.output→
        mE w (W.setRow w.heap.size (putAt (putAt row (i*sz) news.toArray) ((i+m)*sz) (bX.drop (i*sz)).toArray)) (some ⟨b,o,none⟩) w.heap.size 0 (n+m) G sz (bX.take (i*sz)++news++bX.drop (i*sz)))∧
      W1.os=w.os∧W1.tape=w.tape∧W1.output=w.output:=by
 subst dy
 obtain⟨eT,hu,pg⟩:=hE.slice hT
 obtain⟨ii,zv,hi,dy,Ys,hz,vA⟩:=hE.info eT e pg
 have n9:=eW e
 have IM:zv.cells.size=ar e:=by rw[vA];simp[dP,bl]
 obtain⟨vcs,SK,TX,hvr⟩:=h.v
 obtain⟨b2,o2,cs,el,e2,dn,hb,hs,hc⟩:=h.is _ rfl
 simp only[Addr.mk.injEq,and_true] at e2
 obtain⟨rfl,rfl⟩:=e2
 have hm:=h.hm
 have yA:=h.lo
 have K0:=h.ln
 have hnc:=h.hn
 have ji:=h.lim
 have m2:(n+m)*ar e=n*ar e+m*ar e:=Nat.add_mul _ _ _
 have m3:(i+m)*ar e=i*ar e+m*ar e:=Nat.add_mul _ _ _
 have m4:i*ar e+ar e≤n*ar e:=by
  have:(i+1)*ar e≤n*ar e:=Nat.mul_le_mul_right _ k7
  rw[Nat.add_mul] at this;omega
 have m5:(n-i)*ar e=n*ar e-i*ar e:=Nat.sub_mul _ _ _
 have hik:i+(n+m-i)=n+m:=by omega
 have hkk:(n:Int)+(m:Int)-(i:Int)=((n+m-i:Nat):Int):=by omega
 have sR:(n+m)*ii.bytes≤140737488355328:=by
  have:(n+m)*ii.bytes≤bT*1024:=Nat.mul_le_mul ji Ys
  unfold bT at this;omega
 have agW:(n+m-i)*ii.bytes≤(n+m)*ii.bytes:=Nat.mul_le_mul_right _ (by omega)
 have Fp:(bX.take (i*ar e)).length=i*ar e:=by rw[List.length_take,yA];omega
 have hold:(Builtin.firstCells ii.size i (.slice (some ⟨b,o,none⟩) i cap)).run P w.drew = .ok (bX.take (i*ar e)).toArray w.drew:=by
  refine run_firstCells_some w.drew ii.size i ⟨b,o,none⟩ i cap (bX.take (i*ar e)) (by rw[Fp,dy]) fun j v hj=> ?_
  rw[List.getElem?_take] at hj
  split at hj
  ·rw[eA,lx (w:=w.drew) hb];exact hc j v hj
  ·cases hj
 have am7:n+m≤4294967296:=by unfold bT at ji;exact ji
 have XD:=fun ty=>Lib.run_append_grow_zeros w T Ti ty eT ii zv .i64 .i64 hu hTi hi hz (some ⟨b,o,none⟩) i cap (bX.take (i*ar e)) hold (n+m-i) (by omega) (by rw[dy];exact n9) (by omega) (by omega) (by omega)
  (by rw[hik];have:=growslice_fits (need:=n+m) (old:=cap) (by omega) sR;omega)
 rw[hik] at XD
 have ED:=grownCap_ge w (n+m) cap eT
 have Zn:(bX.drop (i*ar e)).length=(n-i)*ar e:=by rw[List.length_drop,yA,m5]
 have Xu:((bX.take (i*ar e)).toArray++Builtin.zeroCells zv.cells (n+m-i)++Builtin.zeroCells zv.cells (grownCap w (n+m) cap eT-(n+m))).size=grownCap w (n+m) cap eT*ar e:=by
  simp only[Array.size_append,List.size_toArray,size_zeroCells,IM,Fp,←Nat.add_mul]
  congr 1;omega
 have hrt:∀k,k<i*ar e→((bX.take (i*ar e)).toArray++Builtin.zeroCells zv.cells (n+m-i)++Builtin.zeroCells zv.cells (grownCap w (n+m) cap eT-(n+m)))[k]? =bX[k]? :=fun k hk=>by
  rw[Array.getElem?_append_left (by simp only[Array.size_append,List.size_toArray,Fp];omega),Array.getElem?_append_left (by simp only[List.size_toArray,Fp];omega),List.getElem?_toArray,List.getElem?_take,if_pos hk]
 generalize hR:(bX.take (i*ar e)).toArray++Builtin.zeroCells zv.cells (n+m-i)++Builtin.zeroCells zv.cells (grownCap w (n+m) cap eT-(n+m))=row at Xu hrt XD
 generalize grownCap w (n+m) cap eT=G at ED Xu XD
 have hGm:(n+m)*ar e≤G*ar e:=Nat.mul_le_mul_right _ ED
 have Jx:b<w.heap.size:=by
  rcases Nat.lt_or_ge b w.heap.size with h' | h'
  ·exact h'
  ·simp[Array.getElem?_eq_none h'] at hb
 have hvl:vb<w.heap.size:=by
  rcases Nat.lt_or_ge vb w.heap.size with h' | h'
  ·exact h'
  ·simp[Array.getElem?_eq_none h'] at TX
 have hN:(w.drew.alloc (.cells row eT)).heap[w.heap.size]? =some (.cells row eT (0,0)):=heap_alloc_new w.drew _
 have hO:∀k,k<w.heap.size→(w.drew.alloc (.cells row eT)).heap[k]? =w.heap[k]? :=fun k hk=>by first | exact heap_alloc_old w.drew _ hk | exact heap_alloc_old w.drew _ k hk
 have mW:i*ar e+news.length≤row.size:=by rw[Xu];omega
 have nk:(i+m)*ar e+(bX.drop (i*ar e)).length≤(putAt row (i*ar e) news.toArray).size:=by rw[cG (by simpa using mW),Xu,Zn];omega
 refine⟨w.drew.alloc (.cells row eT),G,row,fun ty=>by rw[hkk];exact XD ty,ED,fun W hW ty dc vc=> ?_,fun W0 W TJ hW ty dc sc=> ?_,fun W0 W TJ hW h1 h2 h3=> ?_,rfl,rfl,rfl⟩
 ·refine ma T T ty eT ii hu hi w.heap.size _ _ dc ⟨vb,vo,none⟩ _ vc m row eT news (by simp only[Nat.min_def];split<;>omega) (by rw[K0,dy]) (by rw[hW];exact hN) (fun j v hj=> ?_) mW h.on
  have Zo:W.heap[vb]? =some (.cells vcs SK (0,0)):=by rw[hW,hO vb hvl];exact TX
  rw[eA,lx Zo]
  exact hvr _ v hj
 ·have hN1:=setRow_heap W0 w.heap.size row (putAt row (i*ar e) news.toArray) eT (0,0) (by rw[TJ];exact hN)
  refine ma T T ty eT ii hu hi w.heap.size _ _ dc ⟨b,o+i*ar e,none⟩ _ sc (n-i) _ eT (bX.drop (i*ar e)) (by simp only[Nat.min_def];split<;>omega) (by rw[Zn,dy]) (by rw[hW];exact hN1) (fun j v hj=> ?_) nk (fun v hv=>h.oo v (List.mem_of_mem_drop hv))
  have zu:W.heap[b]? =some (.cells cs el (0,0)):=by rw[hW,setRow_other W0 _ b _ (by omega),TJ,hO b Jx];exact hb
  rw[List.getElem?_drop] at hj
  rw[eA,lx zu,Nat.add_assoc]
  exact hc _ v hj
 ·have hN1:=setRow_heap W0 w.heap.size row (putAt row (i*ar e) news.toArray) eT (0,0) (by rw[TJ];exact hN)
  have pv:=setRow_heap W w.heap.size _ (putAt (putAt row (i*ar e) news.toArray) ((i+m)*ar e) (bX.drop (i*ar e)).toArray) eT (0,0) (by rw[hW];exact hN1)
  refine⟨⟨h1,h2,h3,?_,fun k hk hx=> ?_⟩,ED,.inr (Nat.le_refl _),_,eT,pv,?_,fun k v hk=> ?_⟩
  ·have hz:(w.drew.alloc (.cells row eT)).heap.size=w.heap.size+1:=by simp
   simp[hW,TJ]
  ·rw[setRow_other W _ k _ (by omega),hW,setRow_other W0 _ k _ (by omega),TJ,hO k hk]
  ·rw[cG (by simpa using nk),cG (by simpa using mW),Xu];omega
  ·rw[Nat.zero_add]
   rcases Nat.lt_or_ge k (i*ar e) with AN | AN
   ·rw[List.append_assoc,List.getElem?_append_left (by omega),List.getElem?_take,if_pos AN] at hk
    rw[jT nk _ (.inl (by omega)),jT mW _ (.inl (by omega)),hrt k AN]
    exact hk
   ·rcases Nat.lt_or_ge k (i*ar e+news.length) with Ee | Ee
    ·rw[List.append_assoc,List.getElem?_append_right (by omega),List.getElem?_append_left (by omega),Fp] at hk
     have:=pC mW (k-i*ar e) (by omega)
     rw[jT nk _ (.inl (by omega)),show k=i*ar e+(k-i*ar e) by omega,this]
     exact hk
    ·rw[List.getElem?_append_right (by rw[List.length_append,Fp];omega),List.length_append,Fp] at hk
     have xo:=(List.getElem?_eq_some_iff.1 hk).1
     have:=pC nk (k-(i*ar e+news.length)) xo
     rw[show k=(i+m)*ar e+(k-(i*ar e+news.length)) by omega,this]
     exact hk
theorem a8.Dj{F:Nat→Prop}{t:Ty}{xs:List (El t)}{av:Path→Value}(h:a8 w F t xs av):∃(base:Option Addr)(cap:Nat)(bX:List Value),av [] = .slice base xs.length cap∧xs.length≤cap∧bX.length=xs.length*ar t∧
 (∀ v∈bX,v.oneCell'=true)∧(base=none→xs.length=0∧cap=0)∧
 (∀ a,base=some a→∃b o cs el,a=⟨b,o,none⟩∧F b∧w.heap[b]? =some (.cells cs el (0,0))∧o+cap*ar t≤cs.size∧∀k v,bX[k]? =some v→cs[o+k]? =some v)∧
    ∀k x j c,xs[k]? =some x→(enc t x)[j]? =some c→∃u,bX[k*ar t+j]? =some u∧gX w (dR t xs av [(k,j)]) c u:=by
 have fK:=h.1 [] ⟨t,xs⟩ rfl
 rcases fK with ⟨e,e2⟩ | ⟨b,o,cap,cs,el,e,hF,hb,dr,eh,du⟩
 ·have e:xs=[]:=e
  subst e
  exact⟨none,0,[],e2,Nat.le_refl _,by simp,by simp,(fun _=>⟨rfl,rfl⟩),(fun a e=>by cases e),fun k x j c hk=>by simp at hk⟩
 ·have dr:xs.length≤cap:=dr
  have eh:o+cap*ar t≤cs.size:=eh
  have du:RowsIn t xs cs o fun i j=>av [(i,j)]:=du
  have hm:xs.length*ar t≤cap*ar t:=Nat.mul_le_mul_right _ dr
  have hlen:((cs.toList.drop o).take (xs.length*ar t)).length=xs.length*ar t:=by simp;omega
  have kO:∀k v,((cs.toList.drop o).take (xs.length*ar t))[k]? =some v→k<xs.length*ar t∧cs[o+k]? =some v:=fun k v hk=>by
   have xo:=(List.getElem?_eq_some_iff.1 hk).1
   rw[hlen] at xo
   rw[List.getElem?_take,if_pos xo,List.getElem?_drop,Array.getElem?_toList] at hk
   exact⟨xo,hk⟩
  refine⟨some ⟨b,o,none⟩,cap,(cs.toList.drop o).take (xs.length*ar t),e,dr,hlen,fun v hv=> ?_,(fun e=>by cases e),fun a ha=> ?_,fun k x j c hx B7=> ?_⟩
  ·obtain⟨k,hk⟩:=List.getElem?_of_mem hv
   obtain⟨xo,hk⟩:=kO k v hk
   exact h.Hw du k v xo hk
  ·cases ha
   exact⟨b,o,cs,el,rfl,hF,hb,eh,fun k v hk=>(kO k v hk).2⟩
  ·obtain⟨u,hu,_,ho⟩:=(h.pieces (ro:=fun _=>False) du).rows k x j c hx B7
   have hk:=mY hx
   have hj:=jI B7
   have hmul:k*ar t+ar t≤xs.length*ar t:=by
    have:(k+1)*ar t≤xs.length*ar t:=Nat.mul_le_mul_right _ hk
    rw[Nat.add_mul] at this;omega
   exact⟨u,by rw[List.getElem?_take,if_pos (by omega),List.getElem?_drop,Array.getElem?_toList,←Nat.add_assoc];exact hu,ho rfl⟩
theorem a8.xp{F:Nat→Prop}{t:Ty}{xs:List (El t)}{av:Path→Value}(h:a8 w F t xs av){k j n:Nat}(hu:dR t xs av [(k,j)] n):qR (av [])≠some n:=by
 intro hb
 obtain⟨q,s,hs,hbq⟩:=hu
 have:=h.2 _ [] s ⟨t,xs⟩ n hs rfl hbq hb
 simp at this
theorem a8.zS{F:Nat→Prop}{t:Ty}{xs:List (El t)}{av:Path→Value}(h:a8 w F t xs av){k j k' j' n:Nat}(h1:dR t xs av [(k,j)] n)(h2:dR t xs av [(k',j')] n):k=k'∧j=j':=by
 obtain⟨q,s,hs,hb⟩:=h1
 obtain⟨q',s',eK,fI⟩:=h2
 have:=h.2 _ _ s s' n hs eK hb fI
 simp only[List.singleton_append,List.cons.injEq,Prod.mk.injEq] at this
 exact this.1
theorem Dk{f:Nat}{t:Ty}{sz:Nat}(dy:ar t=sz)(h:Zm P f sz){q:Qt}
 (hq:∀ds outs,q ds=some (true,outs)→∃(xs ys:List (El t))(i:Nat),ds=[.d (.sl t) xs,.d (.i .i64) (i:Int),.d (.sl t) ys]∧i≤xs.length∧0<ys.length∧xs.length+ys.length≤bT∧outs=[.d (.sl t) (xs.take i++ys++xs.drop i)]):
    bW P f (Spec.of [.oh,.ro,.oh] [false] true q):=by
 subst dy
 refine pB rfl fun ds outs TL=> ?_
 obtain⟨xs,ys,i,rfl,hi,hy,ji,rfl⟩:=hq ds outs TL
 refine⟨_,_,rfl,fun w us Mf ROa Fs hA hp E' _ _ pP=> ?_⟩
 cases hA with
 | @cons _ _ _ _ u1 us F1 Fs h1 hA=>
  cases hA with
  | @cons _ _ _ _ u2 us F2 Fs h2 hA=>
   cases hA with
   | @cons _ _ _ _ u3 us F3 Fs h3 hA=>
    cases hA
    have e2:=A6 (t:= .i .i64) (v:= .int .i64 i) rfl rfl h2
    subst e2
    obtain⟨G1,Xd,av,h0,hT⟩:=nI h1
    obtain⟨G3,hG3,av3,h03,hT3⟩:=nI h3
    have hM1:∀k,G1 k→Mf k:=fun k hk=>E' F1 (by simp) k (Xd k hk)
    have hM3:∀k,G3 k→Mf k:=fun k hk=>E' F3 (by simp) k (hG3 k hk)
    have yE:∀k,G1 k→G3 k→False:=fun k hk hk3=>by
     have:=(List.pairwise_cons.1 hp).1 F3 (by simp)
     exact this k (Xd k hk) (hG3 k hk3)
    obtain⟨base,cap,bX,e1,dr,yA,hoo,qt,his,kG⟩:=hT.Dj
    obtain⟨adX,aiw,news,e3,akN,K0,YY,adY,aix,Zp⟩:=hT3.Dj
    rw[h0] at e1;rw[h03] at e3
    subst e1;subst e3
    cases adX with
    |none=>have:=(adY rfl).1;omega
    |some a3=>
    obtain⟨vb,vo,vcs,SK,rfl,hF3,G6,IS,hc3⟩:=aix _ rfl
    refine Calls.mono (h base xs.length cap i vb vo ys.length aiw bX news w ⟨hi,dr,hy,ji,yA,K0,hoo,YY,qt,fun a ha=> ?_,vcs,SK,G6,hc3⟩) ?_
    ·obtain⟨b,o,cs,el,rfl,hF,hb,hs,hc⟩:=his a ha
     exact⟨b,o,cs,el,rfl,fun e=>yE b hF (e▸hF3),hb,hs,hc⟩
    ·rintro e w' ⟨b',o',iE,rfl,hk,Ct,MD,sK,pM,fI,eK,KI⟩
     have hlen:(xs.take i++ys++xs.drop i).length=xs.length+ys.length:=by simp;omega
     have Fp:(bX.take (i*ar t)).length=i*ar t:=by
      have:i*ar t≤xs.length*ar t:=Nat.mul_le_mul_right _ hi
      rw[List.length_take,yA];omega
     have Zq:∀b o,base=some ⟨b,o,none⟩→qR (av [])=some b:=fun b o e=>by rw[h0,e];rfl
     have hX:∀k,(∃ o,base=some ⟨k,o,none⟩)→G1 k:=fun k ⟨o,e⟩=>by
      obtain⟨b,o2,cs,el,e2,hF,_⟩:=his _ e
      cases e2;exact hF
     have YH:∀k j n,dR t xs av [(k,j)] n→ ¬∃o,base=some ⟨n,o,none⟩:=fun k j n hu ⟨o,e⟩=>hT.xp hu (Zq n o e)
     have hu3:∀k j n,dR t ys av3 [(k,j)] n→ ¬∃o,base=some ⟨n,o,none⟩:=fun k j n hu he=>yE n (hX n he) (hT3.jj hu)
     let G:Nat→Nat→Nat→Prop:=fun k j=>if k<i then dR t xs av [(k,j)] else if k<i+ys.length then dR t ys av3 [(k-i,j)] else dR t xs av [(k-ys.length,j)]
     have TY:∀k j n,G k j n→(∃ k',dR t xs av [(k',j)] n∧(k'=if k<i then k else k-ys.length)∧ ¬(i≤k∧k<i+ys.length))∨(dR t ys av3 [(k-i,j)] n∧i≤k∧k<i+ys.length):=by
      intro k j n hg
      simp only[G] at hg
      by_cases c1:k<i
      ·rw[if_pos c1] at hg;exact .inl ⟨k,hg,by rw[if_pos c1],by omega⟩
      ·rw[if_neg c1] at hg
       by_cases c2:k<i+ys.length
       ·rw[if_pos c2] at hg;exact .inr ⟨hg,by omega,c2⟩
       ·rw[if_neg c2] at hg;exact .inl ⟨_,hg,by rw[if_neg c1],by omega⟩
     have TM:∀k j n,G k j n→Mf n:=fun k j n hg=>by
      rcases TY k j n hg with ⟨k',h',_⟩ | ⟨h',_⟩
      ·exact hM1 n (hT.jj h')
      ·exact hM3 n (hT3.jj h')
     have hP:dN w' (fun _=>False) true t (xs.take i++ys++xs.drop i) sK o' G:=by
      refine⟨fun k x j c hx B7=> ?_,fun k j k' j' n hg pY=> ?_⟩
      ·have hj:=jI B7
       have fin:∀(H:Nat→Prop) u,gX w H c u→(∀ n,H n→ ¬∃o,base=some ⟨n,o,none⟩)→(bX.take (i*ar t)++news++bX.drop (i*ar t))[k*ar t+j]? =some u→(∀ n,H n↔G k j n)→
         ∃u,sK[o'+k*ar t+j]? =some u∧pL w' (fun n=>G k j n∨False) c u∧(true=true→gX w' (G k j) c u):=by
        intro H u ho hn hu hHG
        have yr:gX w' (G k j) c u:=(ho.same hk.same hn).mono fun n hn=>(hHG n).1 hn
        exact⟨u,by rw[Nat.add_assoc];exact KI _ u hu,yr.rd.mono fun n hn=> .inl hn,fun _=>yr⟩
       by_cases c1:k<i
       ·rw[List.append_assoc,List.getElem?_append_left (by simp;omega),List.getElem?_take,if_pos c1] at hx
        obtain⟨u,hu,ho⟩:=kG k x j c hx B7
        have hmul:k*ar t+ar t≤i*ar t:=by
         have:(k+1)*ar t≤i*ar t:=Nat.mul_le_mul_right _ c1
         rw[Nat.add_mul] at this;omega
        refine fin _ u ho (YH k j) ?_ (fun n=>by simp only[G,if_pos c1])
        rw[List.append_assoc,List.getElem?_append_left (by omega),List.getElem?_take,if_pos (by omega)];exact hu
       ·have hmi:i*ar t≤k*ar t:=Nat.mul_le_mul_right _ (by omega)
        by_cases c2:k<i+ys.length
        ·rw[List.append_assoc,List.getElem?_append_right (by simp;omega),List.getElem?_append_left (by simp;omega)] at hx
         have lg:k-(xs.take i).length=k-i:=by rw[List.length_take,Nat.min_eq_left hi]
         rw[lg] at hx
         obtain⟨u,hu,ho⟩:=Zp (k-i) x j c hx B7
         have hul:=(List.getElem?_eq_some_iff.1 hu).1
         refine fin _ u ho (hu3 (k-i) j) ?_ (fun n=>by simp only[G,if_neg c1,if_pos c2])
         have e4:(k-i)*ar t=k*ar t-i*ar t:=Nat.sub_mul _ _ _
         rw[List.append_assoc,List.getElem?_append_right (by omega),Fp,show k*ar t+j-i*ar t=(k-i)*ar t+j by omega,List.getElem?_append_left hul];exact hu
        ·rw[List.getElem?_append_right (by simp;omega),List.length_append,List.length_take,Nat.min_eq_left hi,List.getElem?_drop] at hx
         have lg:i+(k-(i+ys.length))=k-ys.length:=by omega
         rw[lg] at hx
         obtain⟨u,hu,ho⟩:=kG (k-ys.length) x j c hx B7
         refine fin _ u ho (YH (k-ys.length) j) ?_ (fun n=>by simp only[G,if_neg c1,if_neg c2])
         have e4:(k-ys.length)*ar t=k*ar t-ys.length*ar t:=Nat.sub_mul _ _ _
         have e5:(i+ys.length)*ar t≤k*ar t:=Nat.mul_le_mul_right _ (by omega)
         rw[Nat.add_mul] at e5
         rw[List.getElem?_append_right (by rw[List.length_append,Fp,K0];omega),List.length_append,Fp,K0,List.getElem?_drop,←hu]
         congr 1
         omega
      ·rcases TY k j n hg with ⟨a,h1,e1,n1⟩ | ⟨h1,l1,l2⟩<;>rcases TY k' j' n pY with ⟨a',uU,e1',n1'⟩ | ⟨uU,l1',l2'⟩
       ·obtain⟨e,ej⟩:=hT.zS h1 uU
        refine⟨?_,ej⟩
        rw[e1,e1'] at e
        split at e<;>split at e<;>omega
       ·exact (yE n (hT.jj h1) (hT3.jj uU)).elim
       ·exact (yE n (hT.jj uU) (hT3.jj h1)).elim
       ·obtain⟨e,ej⟩:=hT3.zS h1 uU
        exact⟨by omega,ej⟩
     have S8:∀k j,¬G k j b':=fun k j hg=>by
      rcases MD with he | he
      ·rcases TY k j b' hg with ⟨a,h',_⟩ | ⟨h',_⟩
       ·exact YH _ _ _ h' he
       ·exact hu3 _ _ _ h' he
      ·have:=pP b' (TM k j b' hg);omega
     obtain⟨pW,h0',GO⟩:=hP.own fI (by rw[hlen];exact Ct) eK S8
     rw[hlen] at h0'
     have hKM:Kept w w' Mf:=⟨hk.os,hk.tape,hk.output,hk.same.1,fun n h1 h2=>hk.same.2 n h1 fun he=>h2 (hM1 n (hX n he))⟩
     refine⟨_,fun n=>n=b'∨∃i j,G i j n,rfl,hKM,jN ⟨pW,h0',GO⟩,fun n hn=> ?_⟩
     have Jx:b'<w'.heap.size:=by
      rcases Nat.lt_or_ge b' w'.heap.size with h' | h'
      ·exact h'
      ·simp[Array.getElem?_eq_none h'] at fI
     rcases hn with rfl | ⟨k,j,hg⟩
     ·refine⟨?_,Jx⟩
      rcases MD with he | he
      ·exact .inl (hM1 _ (hX _ he))
      ·exact .inr he
     ·exact⟨.inl (TM k j n hg),Nat.lt_of_lt_of_le (pP n (TM k j n hg)) hk.same.1⟩
end Go.Gm
namespace Go.Gm
open Go
def fN{α:Type}(xs:List α)(i:Int)(ys:List α):List α:=xs.take i.toNat++ys++xs.drop i.toNat
def qF{α:Type}(xs:List α)(i:Int)(ys:List α):Bool:=decide (0≤i)&&(decide (i≤(xs.length:Int))&&(Nat.blt 0 ys.length&&Nat.ble (xs.length+ys.length) bT))
theorem xr{α:Type}{xs ys:List α}{i:Int}:qF xs i ys=true↔0≤i∧i≤(xs.length:Int)∧0<ys.length∧xs.length+ys.length≤bT:=by
 simp only[qF,Bool.and_eq_true,decide_eq_true_eq,Nat.blt_eq,Nat.ble_eq]
theorem rU{p q:Nat→Bool}:∀{d j:Nat},(∀ k,j≤k→k<j+d→p k=q k)→aZ p j d=aZ q j d
 |0,_,_=>rfl
 |d+1,j,h=>by
  simp only[aZ]
  rw[h j (by omega) (by omega),rU (d:=d) (j:=j+1) fun k h1 h2=>h k (by omega) (by omega)]
def Zr(n:Nat)(o:Option Nat):Int:=o.elim (n:Int) fun i=>(i:Int)
theorem T3{p:Nat→Bool}{n:Nat}:∃i:Nat,Zr n (aZ p 0 n)=(i:Int)∧i≤n:=by
 cases h:aZ p 0 n with
 |none=>exact⟨n,rfl,Nat.le_refl _⟩
 |some i=>obtain⟨_,h2,_⟩:=ct h;exact⟨i,rfl,by omega⟩
theorem ME(n:Nat)(o:Option Nat):cond (decide (oP o<(0:Int))) (n:Int) (oP o)=Zr n o:=by
 cases o with
 |none=>rfl
 |some i=>rw[decide_eq_false (show ¬(oP (some i)<0) by show ¬((i:Int)<0);omega)];rfl
def tX(s key:BA):Bool:= !((dE s key)||(cy s key))
def xt(keys:List BA)(key:BA):Int:=rJ (t:= .str) (fun s=>tX s key) keys
def fE(keys:List BA)(key:BA):Int:=Zr keys.length (aZ (fun j=> !(dE (al (t:= .str) keys j) key)) 0 keys.length)
theorem Fq(keys:List BA)(key:BA):∃i:Nat,fE keys key=(i:Int)∧i≤keys.length:=T3
theorem Ft{t:ae}{key:BA}(hm:aE t=true)(h:bj t key<0):cond (decide (xt t.keys key<(0:Int))) (t.keys.length:Int) (xt t.keys key)=fE t.keys key:=by
 unfold xt fE rJ
 rw[ME]
 congr 1
 refine rU fun j _ hj=> ?_
 obtain⟨h5,hl⟩:=cd hm
 have dn:cy (al (t:= .str) t.keys j) key=false:=by
  unfold bj at h
  rw[h5,←hl,Nat.min_self] at h
  simp only[cond_true] at h
  cases hf:aZ (fun j=>cy (al (t:= .str) t.keys j) key) 0 t.keys.length with
  |none=>exact dU hf j (by omega) hj
  |some i=>
   rw[hf] at h
   exact absurd h (by show ¬((i:Int)<0);omega)
 simp only[tX,dn,Bool.or_false]
def putKey(t:ae)(k:Int)(key:BA)(x:ae):ae:=⟨t.kind,t.n,t.s,fN t.keys k [key],fN t.kids k [x]⟩
def dA(t:ae)(k:Int)(x:ae):ae:=⟨t.kind,t.n,t.s,t.keys,fN t.kids k [x]⟩
def gK(t:ae)(key:BA)(x:ae):ae:=cond (aE t) (cond (decide (bj t key<(0:Int))) (putKey t (fE t.keys key) key x) (bP t (bj t key) x)) t
def dash:BA:=bs [45]
def rV(p:BA)(n j:Nat):Bool:=cond (cy (bw (j:Int)) p) true (cond (cy p dash) ((j:Int)==(n:Int)) false)
def kD(t:ae)(p:BA):Int:=oP (aZ (rV p t.kids.length) 0 (t.kids.length+1))
def dx(t:ae)(p:BA)(x:ae):ae×Bool:=
  cond (aE t) (gK t p x,true) (cond (t.kind==(4:Int)) (cond (decide (kD t p<(0:Int))) (cI,false) (dA t (kD t p) x,true)) (cI,false))
def dB:ae→List BA→ae→ae×Bool
 |_,[],_=>(cI,false)
 |t,[p],x=>dx t p x
 |t,p::q::r,x=>cond (decide (aw t p<(0:Int))) (cI,false)
   (cond (!((dB (al (t:= .node) t.kids (Int.toNat (aw t p))) (q::r) x).2)) (cI,false) (bP t (aw t p) (dB (al (t:= .node) t.kids (Int.toNat (aw t p))) (q::r) x).1,true))
def gL(t:ae)(path:List BA)(x:ae):ae×Bool:=cond (!((dB t path x).2)) (t,false) ((dB t path x).1,true)
def aW(t:ae)(path:List BA)(x:ae):ae×Bool:=cond ((path.length:Int)==(0:Int)) (x,true) (gL t path x)
theorem gM(t:ae)(p:BA)(r:List BA)(x:ae):aW t (p::r) x=gL t (p::r) x:=by
 have:(((p::r).length:Int)==(0:Int))=false:=by rw[beq_eq_false_iff_ne,List.length_cons];omega
 unfold aW;rw[this];rfl
theorem nJ(t:ae)(p:BA)(x:ae):aW t [p] x=cond ((dx t p x).2) ((dx t p x).1,true) (t,false):=by
 rw[gM]
 unfold gL
 rw[dB]
 cases (dx t p x).2<;>rfl
theorem Jy(t:ae)(p q:BA)(r:List BA)(x:ae)(h:aw t p<0):aW t (p::q::r) x=(t,false):=by
 rw[gM]
 unfold gL
 rw[dB,decide_eq_true h];rfl
theorem mb(t:ae)(p q:BA)(r:List BA)(x:ae)(h : ¬aw t p<0):
    aW t (p::q::r) x=cond ((aW (al (t:= .node) t.kids (Int.toNat (aw t p))) (q::r) x).2) (bP t (aw t p) (aW (al (t:= .node) t.kids (Int.toNat (aw t p))) (q::r) x).1,true) (t,false):=by
 rw[gM,gM]
 unfold gL
 rw[dB,decide_eq_false h]
 simp only[cond_false]
 cases (dB (al (t:= .node) t.kids (Int.toNat (aw t p))) (q::r) x).2<;>rfl
theorem xu(j:Nat):cy (bw (j:Int)) dash=false:=by
 rw[Bool.eq_false_iff]
 intro h
 have e:=c9.1 h
 obtain⟨c,r,e2,hc⟩:=tU j
 have hd:(bw (j:Int)).data.toList=ef j:=by rw[im]
 rw[e,e2] at hd
 have h45:(dash.data.toList)=[45]:=by rfl
 rw[h45] at hd
 cases hd
 exact absurd hc (by decide)
theorem Jz{p:BA}{n:Nat}(h:cy p dash=true):aZ (rV p n) 0 (n+1)=some n:=by
 have e:=c9.1 h
 subst e
 refine zP (by omega) ?_ fun k hk=> ?_
 ·unfold rV;rw[xu,h];simp
 ·unfold rV;rw[xu,h]
  simp only[cond_true,cond_false]
  rw[beq_eq_false_iff_ne];omega
theorem Dm{p:BA}{n:Nat}(h:cy p dash=false):aZ (rV p n) 0 (n+1)=aZ (fun j=>cy (bw (j:Int)) p) 0 (n+1):=by
 congr 1
 funext j
 unfold rV;rw[h]
 cases cy (bw (j:Int)) p<;>rfl
theorem JA{t:ae}{p:BA}(hn:t.kids.length≤1048576)(h:cy p dash=false):
    cond (!((fA p).2)) (-1:Int) (cond (decide ((fA p).1>(t.kids.length:Int))) (-1:Int) (fA p).1)=kD t p:=by
 unfold kD
 rw[Dm h,←tV (by omega)]
 have:decide ((fA p).1>(t.kids.length:Int))=decide ((fA p).1≥((t.kids.length+1:Nat):Int)):=by
  rw[Bool.eq_iff_iff];simp only[decide_eq_true_eq];omega
 rw[this]
theorem lJ{t:ae}{s:BA}{x:ae}(hm:aE t=true)(h:bj t s<0):gK t s x=putKey t (fE t.keys s) s x:=by
 unfold gK;rw[hm,decide_eq_true h];rfl
theorem oY{t:ae}{s:BA}{x:ae}(hm:aE t=true)(h : ¬bj t s<0):gK t s x=bP t (bj t s) x:=by
 unfold gK;rw[hm,decide_eq_false h];rfl
theorem Bh{α:Type}(f:α→Nat)(xs:List α)(i:Int)(y:α):fT f (fN xs i [y])=fT f xs+1+f y:=by
 unfold fN
 conv=>rhs;rw[← List.take_append_drop i.toNat xs]
 rw[dh,dh,dh,dI]
 simp only[fT,List.length_nil,List.map_nil,List.sum_nil];omega
theorem Bi{α:Type}{f:α→Bool}{xs:List α}(h:dS f xs=true)(i:Int){y:α}(hy:f y=true)(hl:xs.length+1≤1048576):dS f (fN xs i [y])=true:=by
  have h':=h
  simp only[dS,Bool.and_eq_true] at h' ⊢
  refine⟨?_,List.all_eq_true.2 fun x hx=> ?_⟩
  · have hlen:(fN xs i [y]).length=xs.length+1:=by
      unfold fN
      conv=>rhs;rw[← List.take_append_drop i.toNat xs]
      simp only[List.length_append,List.length_cons,List.length_nil];omega
    rw[hlen]
    first | exact decide_eq_true hl | exact Nat.ble_eq_true_of_le hl
  · unfold fN at hx
    rcases List.mem_append.1 hx with hx | hx
    · rcases List.mem_append.1 hx with hx | hx
      · exact List.all_eq_true.1 h'.2 x (List.mem_of_mem_take hx)
      · have:x=y:=by simpa using hx
        rw[this];exact hy
    · exact List.all_eq_true.1 h'.2 x (List.mem_of_mem_drop hx)
theorem JB{t x:ae}{k:Int}{s:BA}(h:ag t=true)(hs:bH s=true)(hx:ag x=true)(hk:t.keys.length+1≤1048576)(hd:t.kids.length+1≤1048576):
    ag (putKey t k s x)=true∧ak (putKey t k s x)=ak t+2+s.size+ak x:=by
 obtain⟨h1,h2,h3,h4,h5⟩:=ch h
 constructor
 ·rw[bf]
  simp only[Bool.and_eq_true]
  exact⟨h1,h2,h3,Bi h4 k hs hk,Bi h5 k hx hd⟩
 ·rw[aX,aX t]
  have e1:=Bh ByteArray.size t.keys k s
  have e2:=Bh ak t.kids k x
  show t.s.size+fT ByteArray.size (fN t.keys k [s])+fT ak (fN t.kids k [x])=_
  omega
theorem JC{t x:ae}{k:Int}(h:ag t=true)(hx:ag x=true)(hd:t.kids.length+1≤1048576):
    ag (dA t k x)=true∧ak (dA t k x)=ak t+1+ak x:=by
 obtain⟨h1,h2,h3,h4,h5⟩:=ch h
 constructor
 ·rw[bf]
  simp only[Bool.and_eq_true]
  exact⟨h1,h2,h3,h4,Bi h5 k hx hd⟩
 ·rw[aX,aX t]
  have e2:=Bh ak t.kids k x
  show t.s.size+fT ByteArray.size t.keys+fT ak (fN t.kids k [x])=_
  omega
theorem MF{α:Type}{f:α→Nat}{xs:List α}{i:Nat}{x y:α}(h:xs[i]? =some x):fT f (xs.set i y)+f x=fT f xs+f y:=by
 rw[List.set_eq_take_append_cons_drop,if_pos (aP h)]
 conv=>rhs;rw[nj h]
 rw[dh,dh,dI,dI];omega
theorem xv{t x y:ae}{i:Nat}(h:ag t=true)(hx:t.kids[i]? =some x)(hy:ag y=true):ag (bP t (i:Int) y)=true∧ak (bP t (i:Int) y)+ak x=ak t+ak y:=by
 obtain⟨h1,h2,h3,h4,h5⟩:=ch h
 constructor
 ·rw[bf]
  simp only[Bool.and_eq_true]
  exact⟨h1,h2,h3,h4,u9 h5 _ hy⟩
 ·rw[aX (bP t (i:Int) y),aX t]
  have e2:=MF (f:=ak) (y:=y) hx
  show t.s.size+fT ByteArray.size t.keys+fT ak (t.kids.set (Int.toNat (i:Int)) y)+_=_
  rw[Int.toNat_natCast]
  omega
theorem jU{t:ae}:t.keys.length≤ak t∧t.kids.length≤ak t:=by
 rw[aX t]
 have e1:fT ByteArray.size t.keys=t.keys.length+(t.keys.map ByteArray.size).sum:=rfl
 have e2:fT ak t.kids=t.kids.length+(t.kids.map ak).sum:=rfl
 omega
theorem HD{t x:ae}{s:BA}(h:ag t=true)(hs:bH s=true)(hx:ag x=true)(hz:ak t+1≤1048576):
    ag (gK t s x)=true∧ak (gK t s x)≤ak t+2+s.size+ak x:=by
 have hl:= @jU t
 cases hm:aE t
 ·unfold gK;rw[hm];exact⟨h,by simp only[cond_false];omega⟩
 by_cases hk:bj t s<0
 ·rw[lJ hm hk]
  have:=JB (k:=fE t.keys s) h hs hx (by omega) (by omega)
  exact⟨this.1,by omega⟩
 ·rw[oY hm hk]
  obtain⟨i,e,h1,h2⟩:=lH t s hk
  rw[e]
  have:=xv h (List.getElem?_eq_getElem h2) hx
  exact⟨this.1,by omega⟩
theorem Fu{t x:ae}{s:BA}(h:ag t=true)(hs:bH s=true)(hx:ag x=true)(hz:ak t+1≤1048576):
    ag (dx t s x).1=true∧ak (dx t s x).1≤ak t+2+s.size+ak x:=by
 have hl:= @jU t
 have uV:ag cI=true∧ak cI≤ak t+2+s.size+ak x:=⟨by decide,by have:=(jS t).2;omega⟩
 unfold dx
 cases aE t
 ·cases t.kind==(4:Int)
  ·exact uV
  ·by_cases hk:kD t s<0
   ·rw[decide_eq_true hk];exact uV
   ·rw[decide_eq_false hk]
    have:=JC (k:=kD t s) h hx (by omega)
    exact⟨this.1,by simp only[cond_true,cond_false];omega⟩
 ·exact HD h hs hx hz
theorem Dn:∀(path:List BA)(t x:ae),ag t=true→dS bH path=true→ag x=true→ak t+1≤1048576→ag (dB t path x).1=true∧ak (dB t path x).1≤ak t+1+fT ByteArray.size path+ak x
 | [],t,x,_,_,_,_=>⟨(by decide:ag cI=true),by have:=(jS t).2;show ak cI≤_;omega⟩
 | [p],t,x,h,hp,hx,hz=>by
  rw[dB]
  have:=Fu h (xd hp) hx hz
  have e:fT ByteArray.size [p]=1+p.size:=by rw[dI];rfl
  exact⟨this.1,by omega⟩
 |p::q::r,t,x,h,hp,hx,hz=>by
  rw[dB]
  have e:fT ByteArray.size (p::q::r)=1+p.size+fT ByteArray.size (q::r):=dI _ _ _
  have uV:ag cI=true∧ak cI≤ak t+1+fT ByteArray.size (p::q::r)+ak x:=⟨by decide,by have:=(jS t).2;omega⟩
  by_cases hk:aw t p<0
  ·rw[decide_eq_true hk];exact uV
  ·rw[decide_eq_false hk]
   simp only[cond_false]
   obtain⟨i,e1,hi⟩:=fM hk
   rw[e1,Int.toNat_natCast]
   have KH:=dm (t:= .node) hi
   have hm:=List.mem_of_getElem? KH
   have dy:=Bd hm
   have ih:=Dn (q::r) (al (t:= .node) t.kids i) x (dG h hm) (oW hp) hx (by omega)
   cases (dB (al (t:= .node) t.kids i) (q::r) x).2
   ·exact uV
   ·have:=xv h KH ih.1
    exact⟨this.1,by simp only[Bool.not_true,cond_false];omega⟩
theorem pD{t x:ae}{path:List BA}(h:ag t=true)(hp:dS bH path=true)(hx:ag x=true)(hz:ak t+fT ByteArray.size path≤1048576):
    ag (aW t path x).1=true∧ak (aW t path x).1≤ak t+1+fT ByteArray.size path+ak x:=by
 cases path with
 |nil=>exact⟨hx,by show ak x≤_;omega⟩
 |cons p r=>
  rw[gM]
  unfold gL
  have e:fT ByteArray.size (p::r)=1+p.size+fT ByteArray.size r:=dI _ _ _
  have:=Dn (p::r) t x h hp hx (by omega)
  cases (dB t (p::r) x).2
  ·exact⟨h,by simp only[Bool.not_false,cond_true];omega⟩
  ·exact this
def gP(t:ae)(path:List BA)(x:ae):Bool:=ag t&&(dS bH path&&ag x)
def JD(t:ae)(path:List BA)(x:ae):Bool:=gP t path x&& !path.isEmpty
def uv(t:ae)(s:BA)(x:ae):Bool:=ag t&&(bH s&&ag x)
def rW(t:ae)(k:Int)(x:ae):Bool:=ag t&&(ag x&&(decide (0≤k)&&decide (k≤(t.kids.length:Int))))
def rX(t:ae)(p:BA)(x:ae):ae×Bool:=aW t [p] x
theorem rY{α:Type}{xs:List α}{k:Int}{i:Nat}{y:α}(e:k=(i:Int))(hi:i≤xs.length)(n:xs.length≤1048576):qF xs k [y]=true:=
  xr.2 ⟨by omega,by omega,by simp,by have:(bT:Nat)=4294967296:=rfl;simp only[List.length_cons,List.length_nil];omega⟩
theorem Dp{s:BA}(h:(fA s).2=true):0≤(fA s).1:=by
 unfold fA at h ⊢
 cases h2:(jQ s).2
 ·rw[h2] at h;cases h
 ·rw[h2] at h
  exact of_decide_eq_true h
theorem zT{α:Type}{xs:List α}(h:xs.length≤1048576)(i:Nat):Nat.ble ((xs.take i).length+1) bT=true:=Nat.ble_eq_true_of_le (by
  have:(bT:Nat)=4294967296:=rfl
  rw[List.length_take];omega)
theorem tm{α:Type}{xs:List α}(h:xs.length≤1048576)(i j:Nat)(y:α):Nat.ble ((xs.take i++[y]).length+(xs.drop j).length) bT=true:=Nat.ble_eq_true_of_le (by
  have:(bT:Nat)=4294967296:=rfl
  simp only[List.length_append,List.length_take,List.length_drop,List.length_cons,List.length_nil];omega)
theorem aiz{n:Int}(h:(n==(5:Int))=true):(n !=(4:Int))=true∧(n==(4:Int))=false:=by
 have:=eq_of_beq h
 subst this;exact⟨rfl,rfl⟩
def lK(x:ai):Bool:=(gj x.kind&&(dS bH x.path&&(dS bH x.src&&ag x.x)))
theorem Bj(x:ai):(⟨x.kind,x.path,x.src,x.x⟩:ai)=x:=rfl
noncomputable def kT(src path:List BA):Bool:=cond (decide ((path.length:Int)>(src.length:Int))) (iM (path.take src.length) src) false
noncomputable def cB(t:ae)(p:ai):ae×Bool:=
  cond (p.kind==(1:Int)) (aW t p.path p.x)
 (cond (p.kind==(2:Int)) (aC t p.path)
 (cond (p.kind==(3:Int)) (cond ((p.path.length:Int)==(0:Int)) (p.x,true) (cond (!((aC t p.path).2)) (cI,false) (aW (aC t p.path).1 p.path p.x)))
 (cond (p.kind==(4:Int)) (t,cond ((br t p.path).2) (iM (br t p.path).1 p.x) false)
 (cond (!((br t p.src).2)) (cI,false)
 (cond (p.kind==(5:Int)) (cond (kT p.src p.path) (cI,false) (cond (!((aC t p.src).2)) (cI,false) (aW (aC t p.src).1 p.path (br t p.src).1)))
 (cond (p.kind==(6:Int)) (aW t p.path (br t p.src).1) (cI,false)))))))
noncomputable def aU(t:ae)(p:ai):ae×Bool:=cond (!((cB t p).2)) (t,false) ((cB t p).1,true)
theorem Bl{t x:ae}{path:List BA}(h:(aW t path x).2=false):(aW t path x).1=t:=by
 cases path with
 |nil=>cases h
 |cons p r=>
  rw[gM] at h ⊢
  unfold gL at h ⊢
  cases hc:(dB t (p::r) x).2
  ·rfl
  ·rw[hc] at h;cases h
theorem Bm{t:ae}{path:List BA}(h:(aC t path).2=false):(aC t path).1=t:=by
 cases path with
 |nil=>rfl
 |cons p r=>
  rw[ki] at h ⊢
  unfold cutAt at h ⊢
  cases hc:(eo t (p::r)).2
  ·rfl
  ·rw[hc] at h;cases h
theorem xw{t x:ae}{path:List BA}:cond (!((aW t path x).2)) (t,false) ((aW t path x).1,true)=aW t path x:=by
 cases h:(aW t path x).2
 ·exact Prod.ext (Bl h).symm h.symm
 ·exact Prod.ext rfl h.symm
theorem Fv{t:ae}{path:List BA}:cond (!((aC t path).2)) (t,false) ((aC t path).1,true)=aC t path:=by
 cases h:(aC t path).2
 ·exact Prod.ext (Bm h).symm h.symm
 ·exact Prod.ext rfl h.symm
theorem MG:∀{path:List BA}{t:ae},(aC t path).2=true→(br t path).2=true
 | [],t,_=>rfl
 |p::r,t,h=>by
  by_cases hk:aw t p<0
  ·rw[tk t p r hk] at h;cases h
  ·have e:br t (p::r)=br (al (t:= .node) t.kids (Int.toNat (aw t p))) r:=by
    unfold br
    simp only[fj]
    rw[show fC p t = .inr (al (t:= .node) t.kids (Int.toNat (aw t p))) by unfold fC;rw[decide_eq_false hk];rfl]
    rfl
   rw[e]
   cases r with
   |nil=>rfl
   |cons q r=>
    rw[kj t p q r hk] at h
    refine MG (path:=q::r) ?_
    cases hc:(aC (al (t:= .node) t.kids (Int.toNat (aw t p))) (q::r)).2
    ·rw[hc] at h;cases h
    ·rfl
theorem Zs{path:List BA}{t:ae}(h:(br t path).2=false):(aC t path).2=false:=by
 cases hc:(aC t path).2
 ·rfl
 ·rw[MG hc] at h;cases h
theorem rZ{p:ai}(h:lK p=true):dS bH p.path=true∧dS bH p.src=true∧ag p.x=true:=by
 simp only[lK,Bool.and_eq_true] at h;exact h.2
noncomputable def tn(t:ae)(path:List BA)(x was:ae):ae×Bool:=cond (!((aW t path x).2)) (was,false) ((aW t path x).1,true)
def r3(t:ae)(path:List BA)(x was:ae):Bool:=gP t path x&&ag was
def gFr(a b:List BA):Bool:=fk a&&fk b
theorem MH{α:Type}(a b:α):iM a b=iM b a:=by rw[Bool.eq_iff_iff,lY,lY];exact eq_comm
theorem Fw{a b:List BA}(h:a.length≤b.length):rE (fun j=>cy (al (t:= .str) a j) (al (t:= .str) b j)) 0 a.length=iM (b.take a.length) a:=by
 rw[MH]
 refine rH (by rw[List.length_take];omega) fun j x y hx hy=> ?_
 rw[List.getElem?_take] at hy
 split at hy
 ·rw[bm (t:= .str) hx,bm (t:= .str) hy,←A8]
 ·cases hy
def B9(t:ae)(p:ai):Bool:=ag t&&lK p
theorem Dq:∀l:List UInt8,Op.bytesLess l l=false
 | []=>rfl
 |a::l=>by
  have h:decide (a<a)=false:=decide_eq_false (by simp)
  simp[Op.bytesLess,Dq l,h]
theorem HE:∀{a b c:List UInt8},Op.bytesLess a b=true→Op.bytesLess b c=true→Op.bytesLess a c=true
 |_,[],_,h,_=>by cases ‹List UInt8› <;>simp[Op.bytesLess] at h
 |_,_::_,[],_,h=>by simp[Op.bytesLess] at h
 | [],_::_,_::_,_,_=>rfl
 |x::a,y::b,z::c,h1,h2=>by
  simp only[Op.bytesLess,Bool.or_eq_true,Bool.and_eq_true,decide_eq_true_eq,beq_iff_eq] at h1 h2 ⊢
  rcases h1 with h1 | ⟨rfl,h1⟩<;>rcases h2 with h2 | ⟨rfl,h2⟩
  ·exact .inl (UInt8.lt_trans h1 h2)
  ·exact .inl h1
  ·exact .inl h2
  ·exact .inr ⟨rfl,HE h1 h2⟩
theorem Dr:∀{a b:List UInt8},Op.bytesLess a b=false→a≠b→Op.bytesLess b a=true
 | [],[],_,h=>absurd rfl h
 | [],_::_,h,_=>by simp[Op.bytesLess] at h
 |_::_,[],_,_=>rfl
 |x::a,y::b,h,hn=>by
  simp only[Op.bytesLess,Bool.or_eq_false_iff,Bool.and_eq_false_iff,decide_eq_false_iff_not,beq_eq_false_iff_ne] at h
  simp only[Op.bytesLess,Bool.or_eq_true,Bool.and_eq_true,decide_eq_true_eq,beq_iff_eq]
  by_cases e:x=y
  ·subst e
   refine .inr ⟨rfl,Dr (h.2.resolve_left (fun h=>h rfl)) fun e=>hn (by rw[e])⟩
  ·have h1:=h.1
   have h1 : ¬x.toNat<y.toNat:=h1
   have h2:x.toNat≠y.toNat:=fun h=>e (UInt8.toNat_inj.1 h)
   exact .inl (show y.toNat<x.toNat by omega)
theorem MI{a b:BA}(h:a≠b):a.toList≠b.toList:=fun e=>h (by
  apply c9.1;unfold cy;rw[e];exact beq_self_eq_true _)
theorem mc(a:BA):dE a a=false:=Dq _
theorem qG{a b c:BA}(h1:dE a b=true)(h2:dE b c=true):dE a c=true:=HE h1 h2
theorem Bn{a b:BA}(h:dE a b=false)(hn:a≠b):dE b a=true:=Dr h (MI hn)
theorem xx{a b:BA}(h:dE a b=true):dE b a=false:=by
 cases hb:dE b a with
 |false=>rfl
 |true=>have:=qG h hb;rw[mc] at this;cases this
def oq(ks:List BA):Prop:=ks.Pairwise fun a b=>dE a b=true
theorem oq.inj{ks:List BA}(h:oq ks){i j:Nat}{a:BA}(hi:ks[i]? =some a)(hj:ks[j]? =some a):i=j:=by
 have hp:=List.pairwise_iff_getElem.1 h
 obtain⟨h1,e1⟩:=List.getElem?_eq_some_iff.1 hi
 obtain⟨h2,e2⟩:=List.getElem?_eq_some_iff.1 hj
 rcases Nat.lt_trichotomy i j with bU | heq | bU
 ·have:=hp i j h1 h2 bU
  rw[e1,e2,mc] at this;cases this
 ·exact heq
 ·have:=hp j i h2 h1 bU
  rw[e1,e2,mc] at this;cases this
inductive Wf:ae→Prop where
 | mk {t:ae} (h5:t.kind=5→t.keys.length=t.kids.length∧oq t.keys) (h0:t.kind≠4→t.kind≠5→t.kids=[]) (hk:t.kind≠5→t.keys=[]) (hs:∀x∈t.kids,Wf x):Wf t
theorem Wf.map{t:ae}(h:Wf t):t.kind=5→t.keys.length=t.kids.length∧oq t.keys:=by cases h;assumption
theorem Wf.leaf{t:ae}(h:Wf t):t.kind≠4→t.kind≠5→t.kids=[]:=by cases h;assumption
theorem Wf.Fy{t:ae}(h:Wf t):t.kind≠5→t.keys=[]:=by cases h;assumption
theorem Wf.kids{t:ae}(h:Wf t):∀x∈t.kids,Wf x:=by cases h;assumption
theorem Wf.va(t:ae)(h:t.kids=[])(h':t.keys=[]):Wf t:= .mk (fun _=>by rw[h,h'];exact⟨rfl,List.Pairwise.nil⟩) (fun _ _=>h) (fun _=>h') (by rw[h];simp)
theorem Wf.MJ{t:ae}(h:Wf t)(hk:t.kind=5):aE t=true:=by
 unfold aE
 rw[hk]
 have:=(h.map hk).1
 simp[this]
theorem kU(keys:List BA)(key:BA):∃i:Nat,fE keys key=(i:Int)∧i≤keys.length∧(∀ j a,j<i→keys[j]? =some a→dE a key=true)∧∀a,keys[i]? =some a→dE a key=false:=by
 unfold fE
 cases hf:aZ (fun j=> !(dE (al (t:= .str) keys j) key)) 0 keys.length with
 |none=>
  refine⟨keys.length,rfl,Nat.le_refl _,fun j a hj ha=> ?_,fun a ha=>by simp at ha⟩
  have:=dU hf j (by omega) (by omega)
  rw[bm (t:= .str) ha] at this
  simpa using this
 |some i=>
  obtain⟨h1,h2,h3,h4⟩:=ct hf
  refine⟨i,rfl,by omega,fun j a hj ha=> ?_,fun a ha=> ?_⟩
  ·have:=h4 j (by omega) hj
   rw[bm (t:= .str) ha] at this
   simpa using this
  ·rw[bm (t:= .str) ha] at h3
   simpa using h3
theorem oq.ins{keys:List BA}{key:BA}(h:oq keys)(hn:key ∉ keys){i:Nat}(h1:∀j a,j<i→keys[j]? =some a→dE a key=true)(h2:∀a,keys[i]? =some a→dE a key=false):
    oq (keys.take i++[key]++keys.drop i):=by
 unfold oq at *
 rw[List.append_assoc,List.pairwise_append]
 have hd:(keys.drop i).Pairwise fun a b=>dE a b=true:=h.sublist (List.drop_sublist _ _)
 have ht:(keys.take i).Pairwise fun a b=>dE a b=true:=h.sublist (List.take_sublist _ _)
 have bU:∀a∈keys.take i,dE a key=true:=fun a ha=>by
  obtain⟨j,hj⟩:=List.getElem?_of_mem ha
  rw[List.getElem?_take] at hj
  split at hj
  ·exact h1 j a (by assumption) hj
  ·cases hj
 have ED:∀b∈keys.drop i,dE key b=true:=fun b hb=>by
  obtain⟨j,hj⟩:=List.getElem?_of_mem hb
  rw[List.getElem?_drop] at hj
  have bU:i<keys.length:=by
   have:=(List.getElem?_eq_some_iff.1 hj).1
   omega
  have hi:=List.getElem?_eq_getElem bU
  have lg:dE key keys[i]=true:=Bn (h2 _ hi) fun e=>hn (e▸List.getElem_mem bU)
  cases j with
  |zero=>rw[Nat.add_zero,hi] at hj;cases hj;exact lg
  |succ j=>
   obtain⟨h3,e3⟩:=List.getElem?_eq_some_iff.1 hj
   have:=List.pairwise_iff_getElem.1 h i (i+(j+1)) bU h3 (by omega)
   rw[e3] at this
   exact qG lg this
 refine⟨ht,List.pairwise_append.2 ⟨List.pairwise_singleton _ _,hd,fun a ha b hb=> ?_⟩,fun a ha b hb=> ?_⟩
 ·simp only[List.mem_singleton] at ha;subst ha;exact ED b hb
 ·rcases List.mem_append.1 hb with hb | hb
  ·simp only[List.mem_singleton] at hb;subst hb;exact bU a ha
  ·exact qG (bU a ha) (ED b hb)
theorem qH{t:ae}{s:BA}(hm:aE t=true)(h:bj t s<0):s ∉ t.keys:=by
 intro hs
 obtain⟨h5,hl⟩:=cd hm
 obtain⟨j,hj⟩:=List.getElem?_of_mem hs
 have hjl:=aP hj
 unfold bj at h
 rw[h5,cond_true,hl,Nat.min_self] at h
 cases hf:aZ (fun j=>cy (al (t:= .str) t.keys j) s) 0 t.kids.length with
 |none=>
  have:=dU hf j (by omega) (by omega)
  rw[bm (t:= .str) hj,jo] at this
  cases this
 |some i=>rw[hf] at h;simp[oP] at h;omega
theorem xy{α:Type}{xs:List α}{i:Int}{y x:α}(h:x∈fN xs i [y]):x=y∨x∈xs:=by
 unfold fN at h
 simp only[List.append_assoc,List.mem_append,List.mem_singleton] at h
 rcases h with h | h | h
 ·exact .inr (List.mem_of_mem_take h)
 ·exact .inl h
 ·exact .inr (List.mem_of_mem_drop h)
theorem Ds{α:Type}(xs:List α)(i:Int)(y:α):(fN xs i [y]).length=xs.length+1:=by
 unfold fN
 simp only[List.length_append,List.length_take,List.length_drop,List.length_cons,List.length_nil];omega
theorem T4{t x:ae}{s:BA}(h:Wf t)(hx:Wf x)(hk:t.kind=5):Wf (gK t s x)∧(gK t s x).kind=5:=by
 have hm:=h.MJ hk
 obtain⟨hl,ha⟩:=h.map hk
 by_cases hs:bj t s<0
 ·rw[lJ hm hs]
  obtain⟨i,e,hi,h1,h2⟩:=kU t.keys s
  rw[e]
  refine⟨.mk (fun _=>⟨?_,?_⟩) (fun _ h5=>absurd hk h5) (fun h5=>absurd hk h5) fun y hy=> ?_,hk⟩
  ·show (fN t.keys (i:Int) [s]).length=(fN t.kids (i:Int) [x]).length
   rw[Ds,Ds,hl]
  ·show oq (fN t.keys (i:Int) [s])
   unfold fN
   rw[Int.toNat_natCast]
   exact ha.ins (qH hm hs) h1 h2
  ·rcases xy hy with rfl | hy
   ·exact hx
   ·exact h.kids y hy
 ·rw[oY hm hs]
  refine⟨.mk (fun _=>⟨?_,ha⟩) (fun _ h5=>absurd hk h5) (fun h5=>absurd hk h5) fun y hy=> ?_,hk⟩
  ·show t.keys.length=(t.kids.set _ x).length
   rw[List.length_set];exact hl
  ·rcases List.mem_or_eq_of_mem_set hy with hy | rfl
   ·exact h.kids y hy
   ·exact hx
theorem T5{t x:ae}(h:Wf t)(hx:Wf x)(hk:t.kind=4):Wf ⟨t.kind,t.n,t.s,t.keys,t.kids++[x]⟩:=
  .mk (fun h5=>absurd (hk.symm.trans h5) (by decide)) (fun h4 _=>absurd hk h4) (fun h5=>h.Fy h5) fun y hy=>by
    rcases List.mem_append.1 hy with hy | hy
    · exact h.kids y hy
    · simp only[List.mem_singleton] at hy;subst hy;exact hx
def GT(k:Nat)(t:ae):Prop:=ag t=true∧ak t≤100*4^k∧Wf t
theorem GT.mono{k m:Nat}(h:k≤m){t:ae}(hg:GT k t):GT m t:=
 ⟨hg.1,Nat.le_trans hg.2.1 (Nat.mul_le_mul_left _ (Nat.pow_le_pow_right (by decide) h)),hg.2.2⟩
theorem pE(k:Nat){kind n:Int}{s:BA}(hk:gj kind=true)(hn:gj n=true)(hs:s.size≤100):GT k ⟨kind,n,s,[],[]⟩:=by
 refine⟨?_,?_,Wf.va _ rfl rfl⟩
 ·simp only[ag,hk,hn,nf (show s.size≤1048576 by omega),dS,nh,List.length_nil,List.all_nil,Bool.true_and];rfl
 ·have:100*1≤100*4^k:=Nat.mul_le_mul_left _ (Nat.one_le_pow _ _ (by decide))
  rw[aX]
  simp only[fT,List.map_nil,List.sum_nil,List.length_nil];omega
theorem xA{t:ae}(h1:gj t.kind=true)(h2:gj t.n=true)(h3:bH t.s=true)(h4:dS bH t.keys=true)(h5:dS ag t.kids=true):ag t=true:=by
 obtain⟨kind,n,s,keys,kids⟩:=t
 unfold dS at h5
 simp only[Bool.and_eq_true] at h5
 simp only[ag,Bool.and_eq_true]
 exact⟨h1,h2,h3,h4,h5.1,by rw[oT];exact h5.2⟩
theorem T6{t x:ae}(h:ag t=true)(hx:ag x=true)(hz:t.kids.length+1≤1048576):
    ag ⟨t.kind,t.n,t.s,t.keys,t.kids++[x]⟩=true∧ak ⟨t.kind,t.n,t.s,t.keys,t.kids++[x]⟩=ak t+1+ak x:=by
 obtain⟨h1,h2,h3,h4,h5⟩:=ch h
 refine⟨xA h1 h2 h3 h4 (xe h5 hx (by omega)),?_⟩
 rw[aX,aX t,dh]
 simp only[fT,List.map_cons,List.map_nil,List.sum_cons,List.sum_nil,List.length_cons,List.length_nil];omega
def xB(b:Bool):ae:=⟨1,Mr b,ByteArray.empty,[],[]⟩
def Fz(n:Int):ae:=⟨2,n,ByteArray.empty,[],[]⟩
def xC(s:BA):ae:=⟨3,0,s,[],[]⟩
theorem Du(k:Nat)(b:Bool):GT k (xB b):=pE k rfl (by cases b<;>rfl) (by decide)
theorem HF(k:Nat){n:Int}(h:gj n=true):GT k (Fz n):=pE k rfl h (by decide)
theorem Dv(k:Nat){s:BA}(h:s.size≤8):GT k (xC s):=pE k rfl rfl (by omega)
def oZ(t:ae)(x:Int):ae:=⟨x,t.n,t.s,t.keys,t.kids⟩
def wN(t:ae)(x:Int):ae:=⟨t.kind,x,t.s,t.keys,t.kids⟩
def wS(t:ae)(x:BA):ae:=⟨t.kind,t.n,x,t.keys,t.kids⟩
def o0(t:ae)(x:List BA):ae:=⟨t.kind,t.n,t.s,x,t.kids⟩
def wK(t:ae)(x:List ae):ae:=⟨t.kind,t.n,t.s,t.keys,x⟩
def Ca(t:ae):Bool:=ag t&&Nat.ble (ak t) 6400
def JE(d:Nat)(t:ae):Bool:=ag t&&Nat.ble (ak t) (6500*(d+1))
theorem iy{t:ae}:Ca t=true↔ag t=true∧ak t≤6400:=by unfold Ca;rw[Bool.and_eq_true,Nat.ble_eq]
theorem iz{d:Nat}{t:ae}:JE d t=true↔ag t=true∧ak t≤6500*(d+1):=by unfold JE;rw[Bool.and_eq_true,Nat.ble_eq]
theorem GT.Ca{t:ae}(h:GT 3 t):Ca t=true:=iy.2 ⟨h.1,h.2.1⟩
theorem km(p:Path):za p p=true:=Az.2 rfl
theorem MK{t:ae}(h:Ca t=true):Nat.ble (t.keys.length+1) bT=true:=Nat.ble_eq_true_of_le (by
  have h1:=(iy.1 h).2;have:=(@jU t).1;have:(bT:Nat)=4294967296:=rfl;omega)
theorem ML{t:ae}(h:Ca t=true):Nat.ble (t.kids.length+1) bT=true:=Nat.ble_eq_true_of_le (by
  have h1:=(iy.1 h).2;have:=(@jU t).2;have:(bT:Nat)=4294967296:=rfl;omega)
theorem me{α:Type}(xs:List α)(x:α):(decide ((0:Int)≤(xs.length:Int))&&decide ((xs.length:Int)<((xs++[x]).length:Int)))=true:=by
 rw[decide_eq_true (by omega),decide_eq_true (by simp;omega)];rfl
theorem qI{α:Type}(f:α→Nat):∀(xs:List α)(i:Nat)(y:α),fT f (xs.set i y)≤fT f xs+f y
 | [],i,y=>by simp[fT]
 |x::xs,0,y=>by simp only[List.set_cons_zero,dI];omega
 |x::xs,i+1,y=>by have:=qI f xs i y;simp only[List.set_cons_succ,dI];omega
theorem Zt{d:Nat}{t:ae}(h:Ca t=true):JE d t=true:=by
 obtain⟨h1,h2⟩:=iy.1 h
 exact iz.2 ⟨h1,by omega⟩
theorem T7{d:Nat}{t y:ae}{i:Nat}(h:Ca t=true)(hy:JE d y=true):JE (d+1) ⟨t.kind,t.n,t.s,t.keys,t.kids.set i y⟩=true:=by
 obtain⟨h1,h2⟩:=iy.1 h
 obtain⟨h3,h4⟩:=iz.1 hy
 obtain⟨a1,a2,a3,a4,a5⟩:=ch h1
 refine iz.2 ⟨xA a1 a2 a3 a4 (u9 a5 i h3),?_⟩
 have:=qI ak t.kids i y
 rw[aX] at h2 ⊢
 simp only at this ⊢
 omega
theorem MM{d:Nat}{t:ae}{k:Int}(h:Ca t=true)(hk:gj k=true):JE d ⟨k,t.n,t.s,t.keys,t.kids⟩=true:=by
 obtain⟨h1,h2⟩:=iy.1 h
 obtain⟨a1,a2,a3,a4,a5⟩:=ch h1
 refine iz.2 ⟨xA hk a2 a3 a4 a5,?_⟩
 rw[aX] at h2 ⊢
 simp only at h2 ⊢;omega
theorem adZ{d:Nat}{t:ae}{k:Int}(h:Ca t=true)(hk:gj k=true):JE d ⟨t.kind,k,t.s,t.keys,t.kids⟩=true:=by
 obtain⟨h1,h2⟩:=iy.1 h
 obtain⟨a1,a2,a3,a4,a5⟩:=ch h1
 refine iz.2 ⟨xA a1 hk a3 a4 a5,?_⟩
 rw[aX] at h2 ⊢
 simp only at h2 ⊢;omega
theorem ad0{d:Nat}{t:ae}{s:BA}(h:Ca t=true)(hs:Nat.ble s.size 50=true):JE d ⟨t.kind,t.n,s,t.keys,t.kids⟩=true:=by
 obtain⟨h1,h2⟩:=iy.1 h
 obtain⟨a1,a2,a3,a4,a5⟩:=ch h1
 have hs:=iD hs
 refine iz.2 ⟨xA a1 a2 (nf (show s.size≤1048576 by omega)) a4 a5,?_⟩
 rw[aX] at h2 ⊢
 simp only at h2 ⊢;omega
theorem MN{d:Nat}{t:ae}(h:Ca t=true):JE d ⟨t.kind,t.n,t.s,t.keys++[bs [97]],t.kids⟩=true:=by
 obtain⟨h1,h2⟩:=iy.1 h
 obtain⟨a1,a2,a3,a4,a5⟩:=ch h1
 have:=(@jU t).1
 refine iz.2 ⟨xA a1 a2 a3 (xe a4 rfl (by omega)) a5,?_⟩
 rw[aX] at h2 ⊢
 simp only[dh,dI] at h2 ⊢
 have:fT ByteArray.size []=0:=rfl
 have:(bs [97]).size=1:=rfl
 omega
theorem MO{d:Nat}{t:ae}{i:Nat}(h:Ca t=true):JE d ⟨t.kind,t.n,t.s,t.keys,(t.kids++[(⟨0,0,ByteArray.empty,[],[]⟩:ae)]).set i ⟨0,0,ByteArray.empty,[],[]⟩⟩=true:=by
 obtain⟨h1,h2⟩:=iy.1 h
 obtain⟨a1,a2,a3,a4,a5⟩:=ch h1
 have:=(@jU t).2
 have hz:ag ⟨0,0,ByteArray.empty,[],[]⟩=true:=by decide
 refine iz.2 ⟨xA a1 a2 a3 a4 (u9 (xe a5 hz (by omega)) i hz),?_⟩
 have:=qI ak (t.kids++[(⟨0,0,ByteArray.empty,[],[]⟩:ae)]) i ⟨0,0,ByteArray.empty,[],[]⟩
 have h0:ak ⟨0,0,ByteArray.empty,[],[]⟩=0:=rfl
 have e:fT ak []=0:=rfl
 rw[dh,dI,h0,e] at this
 rw[aX] at h2 ⊢
 simp only at this ⊢
 omega
end Go.Gm
namespace Go.Gm
open Go
variable {R : Type} {E : Env} {keep : Nat → Kp} {n : Nat}
theorem nK(a b:Code)(st:St)(k:Kx R):ev E keep n (.seq a b) st k=ev E keep n a st (eP E keep n b k):=rfl
theorem nL(b:Code)(k:Kx R)(st:St):eP E keep n b k .normal st=ev E keep n b st k:=rfl
theorem nM(b:Code)(k:Kx R)(st:St):eP E keep n b k .ret st=k .ret st:=rfl
end Go.Gm
namespace Go.Gm
open Go Go.Sort Go.Proofs
variable {wl : World} {P : Program} {w w' : World}
def bL(s:BA):List UInt8:=s.data.toList
def mL(l:List UInt8):BA:=⟨l.toArray⟩
theorem zU(s:BA):mL (bL s)=s:=by cases s;simp[mL,bL]
theorem XE(l:List UInt8):bL (mL l)=l:=by simp[mL,bL]
theorem zV(s:BA):encStr (bL s) = .string s:=by
 show Value.string (mL (bL s))=_
 rw[zU]
def fO(xs:List BA):List BA:=((xs.map bL).mergeSort fun x y=>decide (x≤y)).map mL
theorem Dw(xs:List BA):(fO xs).map bL=(xs.map bL).mergeSort fun x y=>decide (x≤y):=by
 unfold fO
 rw[List.map_map]
 exact (List.map_congr_left fun l _=>XE l).trans (List.map_id _)
theorem jV(xs:List BA):(fO xs).length=xs.length:=by
 unfold fO;rw[List.length_map,List.length_mergeSort,List.length_map]
def js(xs:List BA):List BA:=(Lib.compact (xs.map bL)).map mL
theorem r4(xs:List BA):(js xs).map bL=Lib.compact (xs.map bL):=by
 unfold js
 rw[List.map_map]
 exact (List.map_congr_left fun l _=>XE l).trans (List.map_id _)
def ad1(P:Program)(f:Nat):Prop:=
 (∀(a:Option Addr)(cap:Nat)(w:World),Calls P f #[.slice a 0 cap] w fun e w'=>e = .returned (.tuple #[])∧w'=w)∧
  ∀(b o cap:Nat)(ss:List (List UInt8))(w:World),Holds encStr w b o ss.toArray→b<w.heap.size→ss.length<4611686018427387904→
    Calls P f #[.slice (some ⟨b,o,none⟩) ss.length cap] w fun e w'=>e = .returned (.tuple #[])∧∃n os,w'=grow (putRow encStr (Sort.ahead w n) b o (ss.mergeSort fun x y=>decide (x≤y)).toArray) os
def ad2(P:Program)(f:Nat):Prop:=
 (∀(a:Option Addr)(cap:Nat)(w:World),Calls P f #[.slice a 0 cap] w fun e w'=>e = .returned (.slice a 0 cap)∧w'=w)∧
  ∀(b o cap:Nat)(zs:List (List UInt8))(w:World),Holds encStr w b o zs.toArray→zs.length≤9223372036854775807→zs.length≤cap→
    Calls P f #[.slice (some ⟨b,o,none⟩) zs.length cap] w fun e w'=>e = .returned (.slice (some ⟨b,o,none⟩) (Lib.compact zs).length cap)∧∃q,w'=putRow encStr (Sort.ahead w q) b o (Lib.compact zs++List.replicate (zs.length-(Lib.compact zs).length) []).toArray
theorem xD{b o:Nat}{cs:Array Value}{el:Nat}{xs:List BA}{fH:Nat→Nat→Value}(hb:w.heap[b]? =some (.cells cs el (0,0)))(hr:RowsIn .str xs cs o fH):Holds encStr w b o (xs.map bL).toArray:=by
 intro j hj
 have hj:j<xs.length:=by simpa using hj
 obtain⟨u,hu,hc⟩:=hr j xs[j] 0 _ (List.getElem?_eq_getElem hj) rfl
 have hc:u = .string xs[j]:=hc
 subst hc
 constructor
 ·rw[lx hb]
  have e:(xs.map bL).toArray[j]! =bL xs[j]:=by
   rw[getElem!_pos _ j (by simpa using hj)];simp
  rw[e,zV]
  simpa [ar,kinds] using hu
 ·simp[World.frozen?,hb]
theorem Dx{o:Nat}{cs:Array Value}{ys:List BA}{ds:List (List UInt8)}(hd:∀(j:Nat)(s:BA),ys[j]? =some s→ds[j]? =some (bL s)){fH:Nat→Nat→Value}(hs:o+ys.length≤cs.size):RowsIn .str ys (putCells encStr o ds.toArray cs) o fH:=by
 intro i y j c hy hc
 have hj:j=0:=by
  cases j with
  |zero=>rfl
  |succ j=>simp[enc] at hc
 subst hj
 have hc:c = .v (.string y):=by simpa [enc] using hc.symm
 subst hc
 have hi:i<ys.length:=(List.getElem?_eq_some_iff.1 hy).1
 have Y4:=hd i y hy
 have Zn:i<ds.length:=(List.getElem?_eq_some_iff.1 Y4).1
 refine⟨.string y,?_,rfl⟩
 simp only[ar,kinds,List.length_cons,List.length_nil,Nat.mul_one,Nat.add_zero]
 rw[putCells,Array.getElem?_mapIdx]
 rw[Array.getElem?_eq_getElem (show o+i<cs.size by omega),Option.map_some,if_pos ⟨by omega,by simp;omega⟩]
 have e:ds.toArray[o+i-o]! =bL y:=by
  rw[show o+i-o=i by omega,getElem!_pos _ i (by simpa using Zn)]
  have:=(List.getElem?_eq_some_iff.1 Y4).2
  simpa using this
 rw[e,zV]
theorem p6(o:Nat)(d:Array (List UInt8))(cs:Array Value):(putCells encStr o d cs).size=cs.size:=by simp[putCells]
theorem Dy{b o n:Nat}{cs:Array Value}{el:Nat}(d:Array (List UInt8))(hb:w.heap[b]? =some (.cells cs el (0,0))):(putRow encStr (Sort.ahead w n) b o d).heap[b]? =some (.cells (putCells encStr o d cs) el (0,0)):=by
 show (w.heap.modify b (onCells (putCells encStr o d)))[b]? =_
 rw[Array.getElem?_modify,if_pos rfl,hb];rfl
theorem r5(b o n:Nat)(d:Array (List UInt8)):bD (fun k=>k=b) w (putRow encStr (Sort.ahead w n) b o d):=by
 refine⟨by show w.heap.size≤(w.heap.modify b _).size;simp,fun k _ hk=> ?_⟩
 show (w.heap.modify b (onCells (putCells encStr o d)))[k]? =_
 rw[Array.getElem?_modify,if_neg (fun e=>hk e.symm)]
theorem Bo{b:Nat}{x:Obj}(h:w.heap[b]? =some x):b<w.heap.size:=(Array.getElem?_eq_some_iff.1 h).1
theorem xE{F:Nat→Prop}{t:Ty}{ys:List (El t)}{v:Value}(h1:∀p s,aQ t ys p=some s→p=[])(h:bA w F t ys v fun _ _=>v):jB w F t ys v:=by
 refine⟨fun _=>v,rfl,fun p s hs=> ?_,fun p q s s' k hp hq _ _=> ?_⟩
 ·have:=h1 p s hs
  subst this
  simp only[aQ,Option.some.injEq] at hs
  subst hs;exact h
 ·rw[h1 p s hp,h1 q s' hq]
theorem HG{ys:List BA}(p:Path)(s:Sl)(hs:aQ .str ys p=some s):p=[]:=by
 cases p with
 |nil=>rfl
 |cons ij p=>
  obtain⟨i,j⟩:=ij
  simp only[aQ] at hs
  split at hs
  ·cases j<;>simp[enc] at hs
  ·cases hs
theorem JF{f:Nat}(h:ad1 P f){q:Qt}(hq:∀ds outs,q ds=some (true,outs)→∃xs:List BA,ds=[.d (.sl .str) xs]∧outs=[.d (.sl .str) (fO xs)]∧xs.length<4611686018427387904):
    bW P f (Spec.of [.mut] [] true q):=by
 intro R ds k r hr wl w us Mf ROa Fs TE Za hA hp E' Xx C0 pP
 obtain⟨outs,TL,hk⟩:=Spec.rD hr
 obtain⟨xs,rfl,rfl,hlen⟩:=hq ds outs TL
 cases hA with
 |cons h1 hA=>
  cases hA
  rename_i u F
  obtain⟨e,xs',he,hO⟩:=h1
  cases he
  have hF:∀k,F k→Mf k:=E' F (by simp)
  obtain⟨av,h0,hT⟩:=hO
  have hn:=hT.1 [] ⟨.str,xs⟩ rfl
  have fin:∀(w':World)(ys:List BA),Kept w w' Mf→w.heap.size≤w'.heap.size→jB w' F .str ys u→pV wl w w' Mf ROa (Spec.of [.mut] [] true q) [.d (.sl .str) xs] [u] [.d (.sl .str) ys] (.returned (.tuple #[])):=by
   intro w' ys hK dy hO'
   refine⟨⟨[],[],[F],rfl,.nil,.mut hO' .nil,List.pairwise_singleton _ _,fun B hB k hk=> ?_,fun _=>⟨List.Pairwise.nil,fun G hG=>by simp at hG⟩,fun e=>absurd e (by simp[Spec.of]),fun G hG=>by simp at hG,fun G hG=>by simp at hG,fun B hB k hk=> ?_⟩,hK⟩
   ·have:B=F:=by simpa using hB
    subst this;exact .inl (hF k hk)
   ·have:B=F:=by simpa using hB
    subst this;exact Nat.lt_of_lt_of_le (pP k (hF k hk)) dy
  rcases hn with ⟨hx,hv⟩ | ⟨b,o,cap,cs,el,hv,Eb,hb,dr,da,e8⟩
  ·have hx:xs=[]:=hx
   subst hx
   rw[h0] at hv
   subst hv
   refine Calls.mono (h.1 none 0 w) ?_
   rintro e w' ⟨rfl,rfl⟩
   have e:fO []=[]:=List.length_eq_zero_iff.1 (jV [])
   rw[e] at hk
   exact⟨_,hk,fin w' [] ⟨rfl,rfl,rfl,Nat.le_refl _,fun _ _ _=>rfl⟩ (Nat.le_refl _) ⟨av,h0,hT⟩⟩
  ·rw[h0] at hv
   subst hv
   have hH:=xD hb e8
   have hc:=h.2 b o cap (xs.map bL) w hH (Bo hb) (by rw[List.length_map];exact hlen)
   rw[List.length_map] at hc
   refine Calls.mono hc ?_
   rintro e w' ⟨rfl,n,os,rfl⟩
   have bU:=Bo hb
   have dy:(putRow encStr (Sort.ahead w n) b o ((xs.map bL).mergeSort fun x y=>decide (x≤y)).toArray).heap.size=w.heap.size:=by show (w.heap.modify b _).size=_;simp
   refine⟨_,hk,fin _ (fO xs) ⟨rfl,rfl,rfl,?_,fun k hk hM=> ?_⟩ (by rw[size_grow];omega) ?_⟩
   ·rw[size_grow];omega
   ·rw[heap_grow_old _ _ (by omega)]
    exact (r5 b o n _).2 k hk fun e=>hM (e▸hF b Eb)
   ·have da:o+cap*ar Ty.str≤cs.size:=da
    have dr:xs.length≤cap:=dr
    have h1:ar Ty.str=1:=rfl
    have nk:o+cap≤cs.size:=by rw[h1,Nat.mul_one] at da;exact da
    refine xE HG (.inr ⟨b,o,cap,putCells encStr o ((xs.map bL).mergeSort fun x y=>decide (x≤y)).toArray cs,el,by rw[jV],Eb,?_,by rw[jV];exact dr,by rw[p6];exact da,Dx (fun j s hs=> ?_) (by rw[jV];omega)⟩)
    ·rw[heap_grow_old _ _ (by omega)]
     exact Dy _ hb
    ·rw[← Dw,List.getElem?_map,hs];rfl
theorem T8{α:Type}[Inhabited α][DecidableEq α](d:Array α)(m:Nat):(Lib.compactUpTo d m).length≤m:=by
 unfold Lib.compactUpTo
 rw[List.length_map]
 exact Nat.le_trans (List.length_filter_le _ _) (by simp)
theorem tp(xs:List BA):(js xs).length≤xs.length:=by
 unfold js Lib.compact
 rw[List.length_map]
 exact Nat.le_trans (T8 _ _) (by simp)
theorem JG{f:Nat}(h:ad2 P f){q:Qt}(hq:∀ds outs,q ds=some (true,outs)→∃xs:List BA,ds=[.d (.sl .str) xs]∧outs=[.d (.sl .str) (js xs)]∧xs.length≤9223372036854775807):
    bW P f (Spec.of [.oh] [false] true q):=by
 refine pB rfl fun ds outs TL=> ?_
 obtain⟨xs,rfl,rfl,hlen⟩:=hq ds outs TL
 refine⟨_,_,rfl,fun w us Mf ROa Fs hA _ E' _ _ pP=> ?_⟩
 cases hA with
 |cons h1 hA=>
  cases hA
  rename_i u F _
  obtain⟨G,hGF,hO⟩:=nI h1
  have hF:∀k,G k→Mf k:=fun k hk=>E' F (by simp) k (hGF k hk)
  obtain⟨av,h0,hT⟩:=hO
  have hn:=hT.1 [] ⟨.str,xs⟩ rfl
  rcases hn with ⟨hx,hv⟩ | ⟨b,o,cap,cs,el,hv,Eb,hb,dr,da,e8⟩
  ·have hx:xs=[]:=hx
   subst hx
   rw[h0] at hv
   subst hv
   refine Calls.mono (h.1 none 0 w) ?_
   rintro e w' ⟨rfl,rfl⟩
   have:js []=[]:=List.length_eq_zero_iff.1 (Nat.le_zero.1 (tp []))
   rw[this]
   exact⟨_,fun _=>False,rfl,⟨rfl,rfl,rfl,Nat.le_refl _,fun _ _ _=>rfl⟩,jN (vG _ _ _),fun _ h=>h.elim⟩
  ·rw[h0] at hv
   subst hv
   have hH:=xD hb e8
   have hc:=h.2 b o cap (xs.map bL) w hH (by rw[List.length_map];exact hlen) (by rw[List.length_map];exact dr)
   rw[List.length_map] at hc
   refine Calls.mono hc ?_
   rintro e w' ⟨rfl,n,rfl⟩
   have bU:=Bo hb
   have hle:=tp xs
   have hll:(Lib.compact (xs.map bL)).length=(js xs).length:=by unfold js;rw[List.length_map]
   rw[hll]
   refine⟨_,G,rfl,⟨rfl,rfl,rfl,(r5 b o n _).1,fun k hk hM=>(r5 b o n _).2 k hk fun e=>hM (e▸hF b Eb)⟩,jN (xE HG ?_),fun k hk=>⟨.inl (hF k hk),Nat.lt_of_lt_of_le (pP k (hF k hk)) (r5 b o n _).1⟩⟩
   ·have da:o+cap*ar Ty.str≤cs.size:=da
    have dr:xs.length≤cap:=dr
    have h1:ar Ty.str=1:=rfl
    have nk:o+cap≤cs.size:=by rw[h1,Nat.mul_one] at da;exact da
    refine .inr ⟨b,o,cap,putCells encStr o (Lib.compact (xs.map bL)++List.replicate (xs.length-(js xs).length) []).toArray cs,el,rfl,Eb,Dy _ hb,by show (js xs).length≤cap;omega,by rw[p6];exact da,Dx (fun j s hs=> ?_) (by show o+(js xs).length≤_;omega)⟩
    rw[List.getElem?_append_left (by rw[hll];exact (List.getElem?_eq_some_iff.1 hs).1),←r4,List.getElem?_map,hs];rfl
end Go.Gm
namespace Go.Gm
open Go
section
variable (pt : List BA → BA)
def within(n low high:Int):Bool:=decide (low≤n)&&decide (n≤high)
inductive Zu:ae→Prop where
 | mk {t:ae} (h:t.kind=5→t.keys.length=t.kids.length) (hk:∀x∈t.kids,Zu x):Zu t
theorem Zu.kids{t:ae}(h:Zu t):∀x∈t.kids,Zu x:=by cases h;assumption
theorem Zu.map{t:ae}(h:Zu t):t.kind=5→t.keys.length=t.kids.length:=by cases h;assumption
end
end Go.Gm
namespace Go.Gm
open Go
def gN(f:ae→Int×Int)(a:Int×Int)(k:ae):Int×Int:=(min (a.1+(f k).1) 201,max a.2 (f k).2)
def jE:Nat→ae→Int×Int
 |0,_=>(201,9)
 |d+1,t=>((t.kids.foldl (gN (jE d)) (1,0)).1,(t.kids.foldl (gN (jE d)) (1,0)).2+1)
end Go.Gm
